/- QueueApart. -/
import Derived.Test.YtkeiafiembfaeaaQuN
import Derived.Test.YtkeiafiembfaeaaOpen
import Derived.Test.YtkeiafiembfaeaaSl2
set_option linter.unusedSimpArgs false
set_option linter.unusedVariables false
namespace Go.Proofs.Ytkeiafiembfaeaa
open Go.RowKit Go.Shelf
attribute [local irreducible] wpMix

/-! ## Acts, as they come in -/
abbrev Sm := Int × Int × Int × Bool
def smC (x : Sm) : List Value := [.int .u8 x.1, .int .u8 x.2.1, .int .u8 x.2.2.1, .bool x.2.2.2]
theorem smC_len (x : Sm) : (smC x).length = 4 := rfl
def wfS (x : Sm) : Prop := (0 ≤ x.1 ∧ x.1 ≤ 255) ∧ (0 ≤ x.2.1 ∧ x.2.1 ≤ 255) ∧ (0 ≤ x.2.2.1 ∧ x.2.2.1 ≤ 255)
theorem u8_wf {n : Int} (h : (Lit.int .u8 n).wf = true) : 0 ≤ n ∧ n ≤ 255 := by
  simp [Lit.wf, IntKind.min, IntKind.max, IntKind.signed, IntKind.bits] at h; omega
theorem tr_some {W : World} {cs : List Value} (h : Tr Try.prog W 53 cs) : ∃ c : Sm, cs = smC c ∧ wfS c := by
  obtain ⟨hl, hf⟩ := h.struct Try.underlying53
  rw [show Try.prog.cellsOf 53 = 4 by kernel_rfl] at hl
  have h0 : Tr Try.prog W 5 ((cs.drop 0).take (Try.prog.cellsOf 5)) := hf 0 _ rfl
  have h1 : Tr Try.prog W 5 ((cs.drop 1).take (Try.prog.cellsOf 5)) := hf 1 _ rfl
  have h2 : Tr Try.prog W 5 ((cs.drop 2).take (Try.prog.cellsOf 5)) := hf 2 _ rfl
  have h3 : Tr Try.prog W 4 ((cs.drop 3).take (Try.prog.cellsOf 4)) := hf 3 _ rfl
  obtain ⟨n, hn, wn⟩ := Tr.int Try.underlying5 h0
  obtain ⟨m, hm, wm⟩ := Tr.int Try.underlying5 h1
  obtain ⟨a, ha, wa⟩ := Tr.int Try.underlying5 h2
  obtain ⟨b, hb⟩ := Tr.bool Try.underlying4 h3
  rw [show Try.prog.cellsOf 5 = 1 by kernel_rfl] at hn hm ha
  rw [show Try.prog.cellsOf 4 = 1 by kernel_rfl] at hb
  clear h h0 h1 h2 h3 hf
  match cs, hl with
  | [x0, x1, x2, x3], _ =>
    simp at hn hm ha hb
    exact ⟨(n, m, a, b), by rw [hn, hm, ha, hb]; rfl, u8_wf wn, u8_wf wm, u8_wf wa⟩
def SomesAt (w : World) (v : Value) (l : List Sm) : Prop := SlAt w 4 v l.length (l.flatMap smC) ∧ ∀ c ∈ l, wfS c
theorem came_somes {W : World} {v : Value} (h : Came Try.prog W 49 v) : ∃ l, SomesAt W v l := by
  obtain ⟨l, h1, h2⟩ := h.list Try.underlying49 (by kernel_rfl) (by decide) smC smC_len wfS (fun cs => tr_some)
  exact ⟨l, h1, h2⟩
/-- The cells of the k-th. -/
theorem somes_at {W w : World} {bl ol cl : Nat} {l : List Sm} (h : SlAt w 4 (.slice (some ⟨bl, ol, none⟩) l.length cl) l.length (l.flatMap smC)) (hb : Below w.heap.size w W) {k : Nat} {x : Sm} (hk : l[k]? = some x) :
    W.cell? ⟨bl, ol + k * 4, none⟩ = some (.int .u8 x.1) ∧ W.cell? ⟨bl, ol + k * 4 + 1, none⟩ = some (.int .u8 x.2.1) ∧ W.cell? ⟨bl, ol + k * 4 + 2, none⟩ = some (.int .u8 x.2.2.1) ∧ W.cell? ⟨bl, ol + k * 4 + 3, none⟩ = some (.bool x.2.2.2) := by
  have h' := h.below hb
  have at_ : ∀ m, m < 4 → (l.flatMap smC)[k * 4 + m]? = (smC x)[m]? := fun m hm => by rw [flat_at smC 4 smC_len l k m hm, hk]; rfl
  refine ⟨?_, ?_, ?_, ?_⟩
  · exact h'.cell (j := k * 4) (by rw [show k * 4 = k * 4 + 0 by omega, at_ 0 (by omega)]; rfl)
  · have := h'.cell (j := k * 4 + 1) (u := .int .u8 x.2.1) (by rw [at_ 1 (by omega)]; rfl); rwa [← Nat.add_assoc] at this
  · have := h'.cell (j := k * 4 + 2) (u := .int .u8 x.2.2.1) (by rw [at_ 2 (by omega)]; rfl); rwa [← Nat.add_assoc] at this
  · have := h'.cell (j := k * 4 + 3) (u := .bool x.2.2.2) (by rw [at_ 3 (by omega)]; rfl); rwa [← Nat.add_assoc] at this

/-! ## What the law says, plainly -/
def strip (p : Pk) : ByteArray × Int := (p.2.1.2.2, p.2.2)
/-- Of one queue, both have the same, but for the numbers. -/
def Alik (Lq Lp : List Pk) (t c : Int) : Prop := (qof Lq t c).map strip = (qof Lp t c).map strip
section
variable {Lq Lp : List Pk} {t c : Int} {n most room nq np : Int} {s : ByteArray} {ti : Int}
theorem Alik.len (h : Alik Lq Lp t c) : (qof Lq t c).length = (qof Lp t c).length := by
  have := congrArg List.length h; simpa using this
theorem qb_strip (l : List Pk) : qb l = ((l.map strip).map fun x => x.1.size).sum := by unfold qb; rw [List.map_map]; rfl
theorem Alik.qb (h : Alik Lq Lp t c) : qb (qof Lq t c) = qb (qof Lp t c) := by rw [qb_strip, qb_strip, h]
theorem Alik.err (h : Alik Lq Lp t c) : putErr n most room Lq t c s = putErr n most room Lp t c s := by unfold putErr; rw [h.len, h.qb]
theorem Alik.put (h : Alik Lq Lp t c) : Alik (putL n most room nq Lq t c s ti) (putL n most room np Lp t c s ti) t c := by
  unfold putL
  rw [h.err]
  by_cases h0 : putErr n most room Lp t c s = 0
  · rw [if_pos h0, if_pos h0]
    unfold Alik at *
    rw [qof_snoc, qof_snoc, if_pos ⟨rfl, rfl⟩, if_pos ⟨rfl, rfl⟩, List.map_append, List.map_append, h]; rfl
  · rw [if_neg h0, if_neg h0]; exact h
theorem Alik.put_other {t' c' : Int} (h : Alik Lq Lp t c) (hn : ¬ (t' = t ∧ c' = c)) : Alik (putL n most room nq Lq t' c' s ti) Lp t c := by
  unfold putL
  by_cases h0 : putErr n most room Lq t' c' s = 0
  · rw [if_pos h0]; unfold Alik at *; rw [qof_snoc, if_neg hn]; exact h
  · rw [if_neg h0]; exact h
theorem Alik.take (h : Alik Lq Lp t c) : Alik (qdrop Lq t c) (qdrop Lp t c) t c := by
  unfold Alik at *
  rw [qof_drop_same, qof_drop_same, List.map_drop, List.map_drop, h]
theorem Alik.take_other {t' c' : Int} (h : Alik Lq Lp t c) (hn : ¬ (t' = t ∧ c' = c)) : Alik (qdrop Lq t' c') Lp t c := by
  unfold Alik at *
  rw [qof_drop_other Lq (fun e => hn ⟨e.1.symm, e.2.symm⟩)]; exact h
/-- What both give. -/
theorem Alik.hd (h : Alik Lq Lp t c) : (!(qof Lq t c).isEmpty) = (!(qof Lp t c).isEmpty) ∧ ((qof Lq t c).headD noPk).2.1.2.2 = ((qof Lp t c).headD noPk).2.1.2.2 ∧ ((qof Lq t c).headD noPk).2.2 = ((qof Lp t c).headD noPk).2.2 := by
  unfold Alik at h
  cases hq : qof Lq t c with
  | nil =>
    cases hp : qof Lp t c with
    | nil => exact ⟨rfl, rfl, rfl⟩
    | cons b m => rw [hq, hp] at h; cases h
  | cons a l =>
    cases hp : qof Lp t c with
    | nil => rw [hq, hp] at h; cases h
    | cons b m =>
      rw [hq, hp] at h
      simp only [List.map_cons, List.cons.injEq] at h
      have h1 := congrArg Prod.fst h.1
      have h2 := congrArg Prod.snd h.1
      exact ⟨rfl, h1, h2⟩
end

/-- What holds behind k acts. -/
def ApI (w0 wr : World) (bq bp : Nat) (t c : Int) (k : Nat) : Prop :=
  ∃ Lq nq Lp np, Sep w0.heap.size w0 wr [QsT bq 8 6 300 nq Lq, QsT bp 8 6 300 np Lp] ∧ QsOk 8 6 300 nq Lq ∧ QsOk 8 6 300 np Lp ∧ nq ≤ k ∧ np ≤ k ∧ Alik Lq Lp t c

set_option maxRecDepth 100000 in
set_option maxHeartbeats 4000000 in
theorem QueueApart_walk (vl vo : Value) (w : World) (cl : Came Try.prog w 49 vl) (co : Came Try.prog w 5 vo) :
    Calls Try.prog 5 #[vl, vo] w fun e w' => e = .returned (.bool true) ∧ Below w.heap.size w w' := by
  obtain ⟨l, hl, hwf⟩ := came_somes cl
  obtain ⟨ow, rfl, wo⟩ := co.int Try.underlying5
  have wo' := u8_wf wo
  clear cl co wo
  obtain ⟨A, cap, rfl, hlc, hcm⟩ := hl.len
  obtain ⟨w0, rfl⟩ : ∃ w0, w0 = w := ⟨w, rfl⟩
  have HL := Lib.hid (And.intro hl hwf)
  clear hl hwf
  unfold maxLen at hcm
  go_enter Try.func5, Try.ntmps5
  go_wp2_with fail
  refine (works_yes _).mono ?_
  rintro e w1 ⟨rfl, hb1⟩
  have S1 := Lib.hid ((Sep.nil w0).below hb1)
  clear hb1
  go_wp2_with fail
  refine (sNew 8 S1.out (by omega) (by omega) (by omega)).mono ?_
  rintro e w2 ⟨bq, rfl, hs, _⟩
  have S2 := Lib.hid hs
  clear hs S1
  go_wp2_with fail
  refine (sNew 8 S2.out (by omega) (by omega) (by omega)).mono ?_
  rintro e w3 ⟨bp, rfl, hs, _⟩
  have S3 := Lib.hid hs
  clear hs S2
  go_wp2_with fail
  go_loopg [9] 200 (fun gk x wr => ∃ k : Nat, k ≤ 200 ∧ 200 - k = gk ∧ x = .int .i64 k ∧ Hid (ApI w0 wr bq bp (ow % 8) (ow / 8 % 3) k))
  case atStart => exact ⟨0, by omega, rfl, rfl, Lib.hid ⟨[], 0, [], 0, S3.out, QsOk.nil (by omega) (by omega) (by omega), QsOk.nil (by omega) (by omega) (by omega), by omega, by omega, rfl⟩⟩
  case round =>
    clear S3
    obtain ⟨k, hk, hg, rfl, hI⟩ := hrel
    by_cases hkl : k < l.length
    · by_cases hk2 : k < 200
      · have hkl' : (k : Int) < l.length := by omega
        have hk2' : (k : Int) < 200 := by omega
        obtain ⟨Lq, mq, Lp, mp, hs, okq, okp, hnq, hnp, hal⟩ := hI.out
        obtain ⟨⟨xt, xc, xn, tk⟩, hx⟩ : ∃ x, l[k]? = some x := ⟨_, List.getElem?_eq_getElem hkl⟩
        have hwx := HL.out.2 _ (List.mem_of_getElem? hx)
        obtain ⟨bl, ol, hA⟩ : ∃ bl ol, A = some ⟨bl, ol, none⟩ := by
          obtain ⟨b', o', c', e, _⟩ := HL.out.1.some (by omega)
          cases e; exact ⟨b', o', rfl⟩
        subst hA
        have hce := somes_at HL.out.1 hs.world hx
        obtain ⟨hwt, hwc, hwn⟩ := hwx
        simp only at hwt hwc hwn
        obtain ⟨e0, e1, e2, e3⟩ := hce
        simp only at e0 e1 e2 e3
        have HI := Lib.hid (And.intro hs (And.intro okq (And.intro okp (And.intro hnq (And.intro hnp (And.intro hal hx))))))
        clear hs okq okp hnq hnp hal hx hI
        go_upto_region 10 with fail
        go_quiet (fail)
        have hd : Below wr.heap.size wr (wr.drewN nq) := below_drewN (Below.refl _ _) _
        obtain ⟨hs, okq, okp, hnq, hnp, hal, hx⟩ := HI.out
        have HJ := Lib.hid (And.intro (hs.below hd) (And.intro okq (And.intro okp (And.intro hnq (And.intro hnp (And.intro hal hx))))))
        have e2' : (wr.drewN nq).cell? ⟨bl, ol + k * 4 + 2, none⟩ = some (.int .u8 xn) := e2
        have e3' : (wr.drewN nq).cell? ⟨bl, ol + k * 4 + 3, none⟩ = some (.bool tk) := e3
        clear hs okq okp hnq hnp hal hx HI e0 e1 e2 e3 hd
        generalize wr.drewN nq = wd at *
        have ht : 0 ≤ xt % 8 ∧ xt % 8 < 8 := by omega
        have hc : 0 ≤ xc % 3 ∧ xc % 3 < 3 := by omega
        have ht0 : 0 ≤ ow % 8 ∧ ow % 8 < 8 := by omega
        have hc0 : 0 ≤ ow / 8 % 3 ∧ ow / 8 % 3 < 3 := by omega
        clear hwt hwc
        generalize xt % 8 = t at *
        generalize xc % 3 = c at *
        generalize ow % 8 = t0 at *
        generalize ow / 8 % 3 = c0 at *
        cases tk with
        | true =>
          by_cases hmine : t = t0 ∧ c = c0
          · obtain ⟨rfl, rfl⟩ := hmine
            go_wp2_with fail
            refine (sTake (i := 0) (t := t) (c := c) HJ.out.1 rfl HJ.out.2.1 (by go_wf) (by go_wf)).mono ?_
            rintro e w4 ⟨rfl, hs⟩
            have S4 := Lib.hid hs
            clear hs
            have hal := HJ.out.2.2.2.2.2.1.hd
            unfold hd
            generalize (qof Lq t c).headD noPk = pq at hal ⊢
            generalize (!(qof Lq t c).isEmpty) = iq at hal ⊢
            obtain ⟨no, ⟨pt, pc, ps⟩, pat⟩ := pq
            have HAL := Lib.hid hal
            clear hal
            go_wp2_with fail
            generalize hW : World.alloc _ _ = W4
            have y13 : Blk W4 w4.heap.size 37 #[.int .u64 no, .int .i64 pt, .int .i64 pc, .string ps, .int .u64 pat] := by rw [← hW]; exact Blk.new _ _ _
            have S5 := Lib.hid (S4.out.newBlk y13 (Nat.le_refl _) (by rw [← hW]; exact (Below.refl _ _).alloc (Nat.le_refl _) _))
            clear hW S4 y13
            refine (sTake (i := 1) (t := t) (c := c) S5.out rfl HJ.out.2.2.1 (by go_wf) (by go_wf)).mono ?_
            rintro e w5 ⟨rfl, hs⟩
            have y5 := hs.blk 2 rfl
            unfold hd
            obtain ⟨pp, hpp⟩ : ∃ pp, (qof Lp t c).headD noPk = pp := ⟨_, rfl⟩
            have hal := HAL.out
            rw [hpp] at hal ⊢
            obtain ⟨no', ⟨pt', pc', ps'⟩, pat'⟩ := pp
            obtain ⟨hi1, hi2, hi3⟩ := hal
            simp only at hi2 hi3
            subst hi1
            subst hi2
            subst hi3
            clear HAL hpp
            have z3 := y5.cell 3
            have z4 := y5.cell 4
            have S6 := Lib.hid (Sep.dropLast (L := [QsT bq 8 6 300 mq (qdrop Lq t c), QsT bp 8 6 300 mp (qdrop Lp t c)]) hs)
            have hl5 := y5.lt
            clear hs y5 S5
            go_wp2_with fail
            generalize hW : World.alloc _ _ = W5
            have S7 := Lib.hid (S6.out.below (w' := W5) (by rw [← hW]; exact (Below.refl _ _).alloc (Nat.le_refl _) _))
            clear hW
            go_roundg (200 - (k + 1))
            case measure => omega
            case rel => exact ⟨k + 1, by omega, rfl, by go_num, Lib.hid ⟨qdrop Lq t c, mq, qdrop Lp t c, mp, S7.out, HJ.out.2.1.take t c, HJ.out.2.2.1.take t c, by have := HJ.out.2.2.2.1; omega, by have := HJ.out.2.2.2.2.1; omega, HJ.out.2.2.2.2.2.1.take⟩⟩
          · have HM := Lib.hid hmine
            by_cases ht1 : t = t0
            · subst ht1
              have hc1 : ¬ c = c0 := fun h2 => hmine ⟨rfl, h2⟩
              clear hmine
              go_wp2_with fail
              refine (sTake (i := 0) (t := t) (c := c) HJ.out.1 rfl HJ.out.2.1 (by go_wf) (by go_wf)).mono ?_
              rintro e w4 ⟨rfl, hs⟩
              have S4 := Lib.hid hs
              clear hs
              unfold hd
              generalize (qof Lq t c).headD noPk = pq
              generalize (!(qof Lq t c).isEmpty) = iq
              obtain ⟨no, ⟨pt, pc, ps⟩, pat⟩ := pq
              go_wp2_with fail
              generalize hW : World.alloc _ _ = W5
              have S7 := Lib.hid (S4.out.below (w' := W5) (by rw [← hW]; exact (Below.refl _ _).alloc (Nat.le_refl _) _))
              clear hW
              go_roundg (200 - (k + 1))
              case measure => omega
              case rel => exact ⟨k + 1, by omega, rfl, by go_num, Lib.hid ⟨qdrop Lq t c, mq, Lp, mp, S7.out, HJ.out.2.1.take t c, HJ.out.2.2.1, by have := HJ.out.2.2.2.1; omega, by have := HJ.out.2.2.2.2.1; omega, HJ.out.2.2.2.2.2.1.take_other (fun h => hc1 h.2)⟩⟩
            · clear hmine
              go_wp2_with fail
              refine (sTake (i := 0) (t := t) (c := c) HJ.out.1 rfl HJ.out.2.1 (by go_wf) (by go_wf)).mono ?_
              rintro e w4 ⟨rfl, hs⟩
              have S4 := Lib.hid hs
              clear hs
              unfold hd
              generalize (qof Lq t c).headD noPk = pq
              generalize (!(qof Lq t c).isEmpty) = iq
              obtain ⟨no, ⟨pt, pc, ps⟩, pat⟩ := pq
              go_wp2_with fail
              generalize hW : World.alloc _ _ = W5
              have S7 := Lib.hid (S4.out.below (w' := W5) (by rw [← hW]; exact (Below.refl _ _).alloc (Nat.le_refl _) _))
              clear hW
              go_roundg (200 - (k + 1))
              case measure => omega
              case rel => exact ⟨k + 1, by omega, rfl, by go_num, Lib.hid ⟨qdrop Lq t c, mq, Lp, mp, S7.out, HJ.out.2.1.take t c, HJ.out.2.2.1, by have := HJ.out.2.2.2.1; omega, by have := HJ.out.2.2.2.2.1; omega, HJ.out.2.2.2.2.2.1.take_other HM.out⟩⟩
        | false =>
          obtain ⟨N, rfl⟩ : ∃ N : Nat, xn = N := ⟨xn.toNat, by omega⟩
          by_cases hmine : t = t0 ∧ c = c0
          · obtain ⟨rfl, rfl⟩ := hmine
            go_wp2_with (refine wpList_make_zero rfl (.tmp 114) (.tmp 114) 31 5 rfl Try.underlying31 Try.underlying5 u8_info (1 + N) (show Value.int .i64 (1 + (N : Int)) = .int .i64 ((1 + N : Nat) : Int) from by congr 1) (show Value.int .i64 (1 + (N : Int)) = .int .i64 ((1 + N : Nat) : Int) from by congr 1) (by omega) ?_; intro wz hbz hcv; have hcs := hcv 9 Try.underlying9; clear hcv)
            have SZ := Lib.hid (HJ.out.1.below hbz)
            clear hbz
            refine (sPut (i := 0) (ti := (k : Int)) SZ.out rfl HJ.out.2.1 (by go_wf) (by go_wf) (by rw [zeros_size]; unfold maxLen; omega)).mono ?_
            clear hcs
            rintro e w4 ⟨rfl, hs⟩
            have S4 := Lib.hid hs
            clear hs SZ
            have herr := HJ.out.2.2.2.2.2.1.err (n := 8) (most := 6) (room := 300) (s := zeros (1 + N))
            unfold putV
            generalize (if putErr 8 6 300 Lq t c (zeros (1 + N)) = 0 then mq + 1 else 0) = y1
            generalize putErr 8 6 300 Lq t c (zeros (1 + N)) = y2 at herr ⊢
            have HER := Lib.hid herr
            clear herr
            go_wp2_with fail
            refine (sPut (i := 1) (ti := (k : Int)) S4.out rfl HJ.out.2.2.1 (by go_wf) (by go_wf) (by rw [zeros_size]; unfold maxLen; omega)).mono ?_
            rintro e w5 ⟨rfl, hs⟩
            have S5 := Lib.hid hs
            clear hs S4
            unfold putV
            rw [← HER.out]
            generalize (if y2 = 0 then mp + 1 else 0) = y3
            go_wp2_with fail
            go_roundg (200 - (k + 1))
            case measure => omega
            case rel => exact ⟨k + 1, by omega, rfl, by go_num, Lib.hid ⟨_, _, _, _, S5.out, okPut HJ.out.2.1 (by have := HJ.out.2.2.2.1; omega), okPut HJ.out.2.2.1 (by have := HJ.out.2.2.2.2.1; omega), by have := HJ.out.2.2.2.1; have := putN_le (n := 8) (most := 6) (room := 300) (last := mq) (L := Lq) (t := t) (c := c) (s := zeros (1 + N)); omega, by have := HJ.out.2.2.2.2.1; have := putN_le (n := 8) (most := 6) (room := 300) (last := mp) (L := Lp) (t := t) (c := c) (s := zeros (1 + N)); omega, HJ.out.2.2.2.2.2.1.put⟩⟩
          · by_cases ht1 : t = t0
            · subst ht1
              have hc1 : ¬ c = c0 := fun h2 => hmine ⟨rfl, h2⟩
              clear hmine
              go_wp2_with (refine wpList_make_zero rfl (.tmp 114) (.tmp 114) 31 5 rfl Try.underlying31 Try.underlying5 u8_info (1 + N) (show Value.int .i64 (1 + (N : Int)) = .int .i64 ((1 + N : Nat) : Int) from by congr 1) (show Value.int .i64 (1 + (N : Int)) = .int .i64 ((1 + N : Nat) : Int) from by congr 1) (by omega) ?_; intro wz hbz hcv; have hcs := hcv 9 Try.underlying9; clear hcv)
              have SZ := Lib.hid (HJ.out.1.below hbz)
              clear hbz
              refine (sPut (i := 0) (ti := (k : Int)) SZ.out rfl HJ.out.2.1 (by go_wf) (by go_wf) (by rw [zeros_size]; unfold maxLen; omega)).mono ?_
              clear hcs
              rintro e w4 ⟨rfl, hs⟩
              have S4 := Lib.hid hs
              clear hs SZ
              unfold putV
              generalize (if putErr 8 6 300 Lq t c (zeros (1 + N)) = 0 then mq + 1 else 0) = y1
              generalize putErr 8 6 300 Lq t c (zeros (1 + N)) = y2
              go_wp2_with fail
              go_roundg (200 - (k + 1))
              case measure => omega
              case rel => exact ⟨k + 1, by omega, rfl, by go_num, Lib.hid ⟨_, _, Lp, mp, S4.out, okPut HJ.out.2.1 (by have := HJ.out.2.2.2.1; omega), HJ.out.2.2.1, by have := HJ.out.2.2.2.1; have := putN_le (n := 8) (most := 6) (room := 300) (last := mq) (L := Lq) (t := t) (c := c) (s := zeros (1 + N)); omega, by have := HJ.out.2.2.2.2.1; omega, HJ.out.2.2.2.2.2.1.put_other (fun h => hc1 h.2)⟩⟩
            · clear hmine
              go_wp2_with (refine wpList_make_zero rfl (.tmp 114) (.tmp 114) 31 5 rfl Try.underlying31 Try.underlying5 u8_info (1 + N) (show Value.int .i64 (1 + (N : Int)) = .int .i64 ((1 + N : Nat) : Int) from by congr 1) (show Value.int .i64 (1 + (N : Int)) = .int .i64 ((1 + N : Nat) : Int) from by congr 1) (by omega) ?_; intro wz hbz hcv; have hcs := hcv 9 Try.underlying9; clear hcv)
              have SZ := Lib.hid (HJ.out.1.below hbz)
              clear hbz
              refine (sPut (i := 0) (ti := (k : Int)) SZ.out rfl HJ.out.2.1 (by go_wf) (by go_wf) (by rw [zeros_size]; unfold maxLen; omega)).mono ?_
              clear hcs
              rintro e w4 ⟨rfl, hs⟩
              have S4 := Lib.hid hs
              clear hs SZ
              unfold putV
              generalize (if putErr 8 6 300 Lq t c (zeros (1 + N)) = 0 then mq + 1 else 0) = y1
              generalize putErr 8 6 300 Lq t c (zeros (1 + N)) = y2
              go_wp2_with fail
              go_roundg (200 - (k + 1))
              case measure => omega
              case rel => exact ⟨k + 1, by omega, rfl, by go_num, Lib.hid ⟨_, _, Lp, mp, S4.out, okPut HJ.out.2.1 (by have := HJ.out.2.2.2.1; omega), HJ.out.2.2.1, by have := HJ.out.2.2.2.1; have := putN_le (n := 8) (most := 6) (room := 300) (last := mq) (L := Lq) (t := t) (c := c) (s := zeros (1 + N)); omega, by have := HJ.out.2.2.2.2.1; omega, HJ.out.2.2.2.2.2.1.put_other (fun h => ht1 h.1)⟩⟩
      · obtain rfl : k = 200 := by omega
        go_wp2_with fail
        go_ret
        obtain ⟨_, _, _, _, hs, _⟩ := hI.out
        exact ⟨rfl, hs.world⟩
    · have hkl' : ¬ (k : Int) < l.length := by omega
      go_wp2_with fail
      go_ret
      obtain ⟨_, _, _, _, hs, _⟩ := hI.out
      exact ⟨rfl, hs.world⟩

end Go.Proofs.Ytkeiafiembfaeaa
