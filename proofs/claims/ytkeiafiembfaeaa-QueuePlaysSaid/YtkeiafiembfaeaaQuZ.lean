/- QueuePlays. -/
import Derived.Test.YtkeiafiembfaeaaQuY
import Derived.Test.YtkeiafiembfaeaaQuN
import Derived.Test.YtkeiafiembfaeaaOpen
import Derived.Test.YtkeiafiembfaeaaSl2
set_option linter.unusedSimpArgs false
set_option linter.unusedVariables false
namespace Go.Proofs.Ytkeiafiembfaeaa
open Go.RowKit Go.Shelf
attribute [local irreducible] wpMix

/-- An act: what, terminal, class, how many bytes more, bytes. -/
abbrev Ac := Int × Int × Int × Int × ByteArray
def acC (x : Ac) : List Value := [.int .i64 x.1, .int .i64 x.2.1, .int .i64 x.2.2.1, .int .i64 x.2.2.2.1, .string x.2.2.2.2]
theorem acC_len (x : Ac) : (acC x).length = 5 := rfl
def wfA (x : Ac) : Prop := (Lit.int .i64 x.1).wf = true ∧ (Lit.int .i64 x.2.1).wf = true ∧ (Lit.int .i64 x.2.2.1).wf = true ∧ (Lit.int .i64 x.2.2.2.1).wf = true ∧ x.2.2.2.2.size ≤ maxLen
theorem tr_act {W : World} {cs : List Value} (h : Tr Try.prog W 30 cs) : ∃ c : Ac, cs = acC c ∧ wfA c := by
  obtain ⟨hl, hf⟩ := h.struct Try.underlying30
  rw [show Try.prog.cellsOf 30 = 5 by kernel_rfl] at hl
  have h0 : Tr Try.prog W 3 ((cs.drop 0).take (Try.prog.cellsOf 3)) := hf 0 _ rfl
  have h1 : Tr Try.prog W 3 ((cs.drop 1).take (Try.prog.cellsOf 3)) := hf 1 _ rfl
  have h2 : Tr Try.prog W 3 ((cs.drop 2).take (Try.prog.cellsOf 3)) := hf 2 _ rfl
  have h3 : Tr Try.prog W 3 ((cs.drop 3).take (Try.prog.cellsOf 3)) := hf 3 _ rfl
  have h4 : Tr Try.prog W 9 ((cs.drop 4).take (Try.prog.cellsOf 9)) := hf 4 _ rfl
  obtain ⟨n, hn, wn⟩ := Tr.int Try.underlying3 h0
  obtain ⟨m, hm, wm⟩ := Tr.int Try.underlying3 h1
  obtain ⟨a, ha, wa⟩ := Tr.int Try.underlying3 h2
  obtain ⟨b, hb, wb⟩ := Tr.int Try.underlying3 h3
  obtain ⟨s, hs, ws⟩ := Tr.string Try.underlying9 h4
  rw [show Try.prog.cellsOf 3 = 1 by kernel_rfl] at hn hm ha hb
  rw [show Try.prog.cellsOf 9 = 1 by kernel_rfl] at hs
  clear h h0 h1 h2 h3 h4 hf
  match cs, hl with
  | [x0, x1, x2, x3, x4], _ =>
    simp at hn hm ha hb hs
    exact ⟨(n, m, a, b, s), by rw [hn, hm, ha, hb, hs]; rfl, wn, wm, wa, wb, ws⟩
theorem came_acts {W : World} {v : Value} (h : Came Try.prog W 22 v) : ∃ l : List Ac, SlAt W 5 v l.length (l.flatMap acC) ∧ ∀ c ∈ l, wfA c :=
  h.list Try.underlying22 (by kernel_rfl) (by decide) acC acC_len wfA (fun cs => tr_act)
set_option maxRecDepth 100000 in
theorem came_three {W : World} {v : Value} (h : Came Try.prog W 23 v) : ∃ a b c : Int, v = .agg #[.int .i64 a, .int .i64 b, .int .i64 c] ∧ (Lit.int .i64 a).wf = true ∧ (Lit.int .i64 b).wf = true ∧ (Lit.int .i64 c).wf = true := by
  obtain ⟨cs, rfl, ht⟩ := h.array Try.underlying23
  obtain ⟨hl, hf⟩ := ht.array Try.underlying23
  rw [show Try.prog.cellsOf 23 = 3 by kernel_rfl] at hl
  have hc : Try.prog.cellsOf 3 = 1 := by kernel_rfl
  obtain ⟨a, ha, wa⟩ := Tr.int Try.underlying3 (hf 0 (by omega))
  obtain ⟨b, hb, wb⟩ := Tr.int Try.underlying3 (hf 1 (by omega))
  obtain ⟨c, hcc, wc⟩ := Tr.int Try.underlying3 (hf 2 (by omega))
  rw [hc] at ha hb hcc
  clear h ht hf hc
  obtain ⟨cs⟩ := cs
  simp only at hl ha hb hcc
  match cs, hl with
  | [x0, x1, x2], _ =>
    simp at ha hb hcc
    exact ⟨a, b, c, by rw [ha, hb, hcc], wa, wb, wc⟩
/-- The cells of the k-th. -/
theorem acts_at {W w : World} {bl ol cl : Nat} {l : List Ac} (h : SlAt w 5 (.slice (some ⟨bl, ol, none⟩) l.length cl) l.length (l.flatMap acC)) (hb : Below w.heap.size w W) {k : Nat} {x : Ac} (hk : l[k]? = some x) :
    W.cell? ⟨bl, ol + k * 5, none⟩ = some (.int .i64 x.1) ∧ W.cell? ⟨bl, ol + k * 5 + 1, none⟩ = some (.int .i64 x.2.1) ∧ W.cell? ⟨bl, ol + k * 5 + 2, none⟩ = some (.int .i64 x.2.2.1) ∧ W.cell? ⟨bl, ol + k * 5 + 3, none⟩ = some (.int .i64 x.2.2.2.1) ∧ W.cell? ⟨bl, ol + k * 5 + 4, none⟩ = some (.string x.2.2.2.2) := by
  have h' := h.below hb
  have at_ : ∀ m, m < 5 → (l.flatMap acC)[k * 5 + m]? = (acC x)[m]? := fun m hm => by rw [flat_at acC 5 acC_len l k m hm, hk]; rfl
  refine ⟨?_, ?_, ?_, ?_, ?_⟩
  · exact h'.cell (j := k * 5) (by rw [show k * 5 = k * 5 + 0 by omega, at_ 0 (by omega)]; rfl)
  · have := h'.cell (j := k * 5 + 1) (u := .int .i64 x.2.1) (by rw [at_ 1 (by omega)]; rfl); rwa [← Nat.add_assoc] at this
  · have := h'.cell (j := k * 5 + 2) (u := .int .i64 x.2.2.1) (by rw [at_ 2 (by omega)]; rfl); rwa [← Nat.add_assoc] at this
  · have := h'.cell (j := k * 5 + 3) (u := .int .i64 x.2.2.2.1) (by rw [at_ 3 (by omega)]; rfl); rwa [← Nat.add_assoc] at this
  · have := h'.cell (j := k * 5 + 4) (u := .string x.2.2.2.2) (by rw [at_ 4 (by omega)]; rfl); rwa [← Nat.add_assoc] at this

/-- What holds behind k acts: both hold the same. -/
def PlI (w0 wr : World) (bq br : Nat) (n most room : Int) (k : Nat) : Prop :=
  ∃ L last, Sep w0.heap.size w0 wr [QsT bq n most room last L, RqT br n most room last L] ∧ QsOk n most room last L ∧ last ≤ k ∧ L.length ≤ k ∧ ∀ p ∈ L, p.2.1.2.2.size ≤ 65519

theorem putL_size {n most room last : Int} {L : List Pk} {t c : Int} {s : ByteArray} {ti : Int} (h : ∀ p ∈ L, p.2.1.2.2.size ≤ 65519) : ∀ p ∈ putL n most room last L t c s ti, p.2.1.2.2.size ≤ 65519 := by
  intro p hp
  unfold putL at hp
  split at hp
  · rename_i h0
    rcases List.mem_append.1 hp with hp | hp
    · exact h p hp
    · rw [List.mem_singleton.1 hp]; exact (putErr_ok h0).2.2.1
  · exact h p hp

set_option maxRecDepth 100000 in
set_option maxHeartbeats 4000000 in
theorem QueuePlays_walk (vl vs : Value) (w : World) (cl : Came Try.prog w 22 vl) (cs : Came Try.prog w 23 vs) :
    Calls Try.prog 3 #[vl, vs] w fun e w' => e = .returned (.bool true) ∧ Below w.heap.size w w' := by
  obtain ⟨l, hl, hwf⟩ := came_acts cl
  obtain ⟨n, most, room, rfl, wn, wm, wr'⟩ := came_three cs
  clear cl cs
  obtain ⟨A, cap, rfl, hlc, hcm⟩ := hl.len
  obtain ⟨w0, rfl⟩ : ∃ w0, w0 = w := ⟨w, rfl⟩
  have HL := Lib.hid (And.intro hl hwf)
  clear hl hwf
  unfold maxLen at hcm
  by_cases hok : (1 ≤ n ∧ n ≤ 8) ∧ (1 ≤ most ∧ most ≤ 10000) ∧ (1 ≤ room ∧ room ≤ 1000000)
  · obtain ⟨hn, hm, hr⟩ := hok
    go_enter Try.func3, Try.ntmps3
    obtain ⟨N, rfl⟩ : ∃ N : Nat, n = N := ⟨n.toNat, by omega⟩
    go_upto_region 1 with fail
    generalize hW : World.alloc _ _ = W1
    have y3 : Blk W1 w0.heap.size 23 #[.int .i64 N, .int .i64 most, .int .i64 room] := by rw [← hW]; exact Blk.new _ _ _
    have b1 : Below w0.heap.size w0 W1 := by rw [← hW]; exact (Below.refl _ _).alloc (Nat.le_refl _) _
    have q0 : ∀ X : Cls fun W => Below W1.heap.size W1 W, X.W.cell? ⟨w0.heap.size, 0, none⟩ = some (.int .i64 N) := fun X => (sub_cell X _ _ y3.lt).trans (y3.cell 0)
    have q1 : ∀ X : Cls fun W => Below W1.heap.size W1 W, X.W.cell? ⟨w0.heap.size, 1, none⟩ = some (.int .i64 most) := fun X => (sub_cell X _ _ y3.lt).trans (y3.cell 1)
    have q2 : ∀ X : Cls fun W => Below W1.heap.size W1 W, X.W.cell? ⟨w0.heap.size, 2, none⟩ = some (.int .i64 room) := fun X => (sub_cell X _ _ y3.lt).trans (y3.cell 2)
    have S1 := Lib.hid ((Sep.nil w0).below b1)
    clear hW y3 b1
    refine wp_region_sub [6, 13] (fun W => Below W1.heap.size W1 W) (by kernel_rfl) (by kernel_rfl) ((Below.refl _ _).drew) (fun _ => ?_)
    iterate 6 (refine mix_read (by kernel_rfl) (by rfl) (by rfl) (by rfl) (of_decide_eq_true (by kernel_rfl)) ?_; apply Exists.intro; apply Exists.intro; refine ⟨fun w' hw' K hK => ?_, ?_, ?_⟩; (obtain ⟨X, rfl⟩ := hw'; go_wp2_with fail; first | exact ⟨rfl, rfl⟩ | exact rfl); rfl)
    (refine mix_act (by rfl) (by rfl) (fun K hK => ?_))
    go_wp2_with fail
    refine (sNew N (S1.out.below ((Below.refl _ _).drew)) (by omega) hm hr).mono ?_
    rintro e w2 ⟨bq, rfl, hs, hb2⟩
    have hb2' : Below W1.heap.size W1 w2 := (Below.refl W1.heap.size W1).drew.trans hb2
    have S2 := Lib.hid (And.intro hs hb2')
    clear hs hb2 hb2'
    go_wp2_with fail
    refine ⟨.mk S2.out.2, ?_⟩
    iterate 6 (refine mix_read (by kernel_rfl) (by rfl) (by rfl) (by rfl) (of_decide_eq_true (by kernel_rfl)) ?_; apply Exists.intro; apply Exists.intro; refine ⟨fun w' hw' K hK => ?_, ?_, ?_⟩; (obtain ⟨X, rfl⟩ := hw'; go_wp2_with fail; first | exact ⟨rfl, rfl⟩ | exact rfl); rfl)
    (refine mix_act (by rfl) (by rfl) (fun K hK => ?_))
    go_wp2_with fail
    refine (srNew S2.out.1 hn hm hr).mono ?_
    rintro e w3 ⟨br, rfl, hs, hb3⟩
    have hb3' : Below W1.heap.size W1 w3 := S2.out.2.trans (hb3.mono S2.out.2.size)
    have S3 := Lib.hid (And.intro hs hb3')
    clear hs hb3 hb3' S2
    go_wp2_with fail
    refine ⟨.mk S3.out.2, ?_⟩
    iterate 2 (refine mix_read (by kernel_rfl) (by rfl) (by rfl) (by rfl) (of_decide_eq_true (by kernel_rfl)) ?_; apply Exists.intro; apply Exists.intro; refine ⟨fun w' hw' K hK => ?_, ?_, ?_⟩; (obtain ⟨X, rfl⟩ := hw'; go_wp2_with fail; first | exact ⟨rfl, rfl⟩ | exact rfl); rfl)
    refine mix_nil ?_
    have S4 := Lib.hid S3.out.1
    clear S1 S3 q0 q1 q2
    go_wp2_with fail
    go_loopg [7] 100 (fun gk x wr => ∃ k : Nat, k ≤ 100 ∧ 100 - k = gk ∧ x = .int .i64 k ∧ Hid (PlI w0 wr bq br N most room k))
    case atStart => exact ⟨0, by omega, rfl, rfl, Lib.hid ⟨[], 0, S4.out, QsOk.nil hn hm hr, by omega, by simp, by simp⟩⟩
    case round =>
      clear S4
      obtain ⟨k, hk, hg, rfl, hI⟩ := hrel
      by_cases hkl : k < l.length ∧ k < 100
      · obtain ⟨hkl, hk2⟩ := hkl
        have hkl' : (k : Int) < l.length := by omega
        have hk2' : (k : Int) < 100 := by omega
        obtain ⟨L, last, hs, ok, hla, hLk, hsz⟩ := hI.out
        obtain ⟨⟨xw, xt, xc, xn, xs⟩, hx⟩ : ∃ x, l[k]? = some x := ⟨_, List.getElem?_eq_getElem hkl⟩
        have hwx := HL.out.2 _ (List.mem_of_getElem? hx)
        obtain ⟨bl, ol, hA⟩ : ∃ bl ol, A = some ⟨bl, ol, none⟩ := by
          obtain ⟨b', o', c', e, _⟩ := HL.out.1.some (by omega)
          cases e; exact ⟨b', o', rfl⟩
        subst hA
        obtain ⟨e0, e1, e2, e3, e4⟩ := acts_at HL.out.1 hs.world hx
        simp only at e0 e1 e2 e3 e4
        obtain ⟨ww, wt, wc, wn', ws⟩ := hwx
        simp only at ww wt wc wn' ws
        have HI := Lib.hid (And.intro hs (And.intro ok (And.intro hla (And.intro hLk (And.intro hsz (And.intro wt (And.intro wc ws)))))))
        clear hs ok hla hLk hsz wt wc ww hx hI
        go_upto_region 8 with fail
        generalize hW : World.alloc _ _ = W2
        have y8 : Blk W2 wr.heap.size 30 #[.int .i64 xw, .int .i64 xt, .int .i64 xc, .int .i64 xn, .string xs] := by rw [← hW]; exact Blk.new _ _ _
        have b2 : Below wr.heap.size wr W2 := by rw [← hW]; exact (Below.refl _ _).alloc (Nat.le_refl _) _
        have S5 := Lib.hid (HI.out.1.newBlk y8 (Nat.le_refl _) b2)
        have h8 := y8.lt
        have c0 := y8.cell 0
        clear hW y8 b2 e0 e1 e2 e3 e4
        go_upto_if 71 with fail
        clear c0
        go_cut [9, 10, 11, 12, 13, 14, 15, 16, 17] from 71 to 143 (fun _ _ _ _ _ _ _ _ _ wx => ∃ L' last', Sep w0.heap.size w0 wx [QsT bq N most room last' L', RqT br N most room last' L', BlkT wr.heap.size 30 #[.int .i64 xw, .int .i64 xt, .int .i64 xc, .int .i64 xn, .string xs]] ∧ QsOk N most room last' L' ∧ last' ≤ k + 1 ∧ L'.length ≤ k + 1 ∧ ∀ p ∈ L', p.2.1.2.2.size ≤ 65519)
        case first => as_aux_lemma =>
          have y8 := S5.out.blk 2 rfl
          have c0 := y8.cell 0
          have c1 := y8.cell 1
          have c2 := y8.cell 2
          have c3 := y8.cell 3
          have c4 := y8.cell 4
          by_cases hw4 : xw < 4
          · go_upto_region 9 with fail
            have q4 : ∀ X : Cls fun W => Below W2.heap.size W2 W, X.W.cell? ⟨wr.heap.size, 4, none⟩ = some (.string xs) := fun X => (sub_cell X _ _ h8).trans c4
            have q3 : ∀ X : Cls fun W => Below W2.heap.size W2 W, X.W.cell? ⟨wr.heap.size, 3, none⟩ = some (.int .i64 xn) := fun X => (sub_cell X _ _ h8).trans c3
            clear c0 c1 c2 c3 c4
            have hxs := HI.out.2.2.2.2.2.2.2
            unfold maxLen at hxs
            generalize decide (xw < 4) = b71
            refine wp_region_sub [11, 12] (fun W => Below W2.heap.size W2 W) (by kernel_rfl) (by kernel_rfl) ((Below.refl _ _).drew) (fun _ => ?_)
            iterate 6 (refine mix_read (by kernel_rfl) (by rfl) (by rfl) (by rfl) (of_decide_eq_true (by kernel_rfl)) ?_; apply Exists.intro; apply Exists.intro; refine ⟨fun w' hw' K hK => ?_, ?_, ?_⟩; (obtain ⟨X, rfl⟩ := hw'; go_wp2_with fail; first | exact ⟨rfl, rfl⟩ | exact rfl); rfl)
            obtain ⟨m, hm, hm1, hm2⟩ : ∃ m : Nat, min ((xs.size : Nat) : Int) 200 = m ∧ m ≤ xs.size ∧ m ≤ 200 := ⟨min xs.size 200, by omega, Nat.min_le_left _ _, Nat.min_le_right _ _⟩
            rw [hm]
            clear hm
            iterate 5 (refine mix_read (by kernel_rfl) (by rfl) (by rfl) (by rfl) (of_decide_eq_true (by kernel_rfl)) ?_; apply Exists.intro; apply Exists.intro; refine ⟨fun w' hw' K hK => ?_, ?_, ?_⟩; (obtain ⟨X, rfl⟩ := hw'; go_wp2_with fail; first | exact ⟨rfl, rfl⟩ | exact rfl); rfl)
            obtain ⟨z, hz, hz1⟩ : ∃ z : Nat, min (max xn 0) 70000 = z ∧ z ≤ 70000 := ⟨(min (max xn 0) 70000).toNat, by omega, by omega⟩
            rw [hz]
            clear hz
            (refine mix_act (by rfl) (by rfl) (fun K hK => ?_))
            refine wp_make_zero (.tmp 82) (.tmp 82) 31 5 rfl Try.underlying31 Try.underlying5 u8_info z rfl rfl (by omega) ?_
            intro wz hbz hcv
            have hcs : (convert 31 9 (.slice (some ⟨W2.heap.size, 0, none⟩) z z)).run Try.prog wz = .ok (.string (zeros z)) wz := hcv 9 Try.underlying9
            have hbz' : Below W2.heap.size W2 wz := (Below.refl W2.heap.size W2).drew.trans hbz
            have HZ := Lib.hid hbz'
            clear hcv hbz hbz' q3 q4
            (simp [Act.put])
            refine hK _ _ ⟨.mk HZ.out, ?_⟩
            (refine mix_act (by rfl) (by rfl) (fun K hK => ?_))
            go_wp2_with fail
            refine ⟨.mk HZ.out, ?_⟩
            have hs1 : (xs.extract 0 m).size ≤ 200 := by rw [ByteArray.size_extract]; omega
            have hs2 : (zeros z).size ≤ 70000 := by rw [zeros_size]; exact hz1
            clear hcs
            generalize xs.extract 0 m = s1 at hs1 ⊢
            generalize zeros z = s2 at hs2 ⊢
            iterate 2 (refine mix_read (by kernel_rfl) (by rfl) (by rfl) (by rfl) (of_decide_eq_true (by kernel_rfl)) ?_; apply Exists.intro; apply Exists.intro; refine ⟨fun w' hw' K hK => ?_, ?_, ?_⟩; (obtain ⟨X, rfl⟩ := hw'; go_wp2_with fail; first | exact ⟨rfl, rfl⟩ | exact rfl); rfl)
            refine mix_nil ?_
            have S6 := Lib.hid (S5.out.below HZ.out)
            have y8 := S6.out.blk 2 rfl
            have c1 := y8.cell 1
            have c2 := y8.cell 2
            have hls : (s1 ++ s2).size ≤ 70200 := by rw [ByteArray.size_append]; omega
            clear y8 HZ
            generalize s1 ++ s2 = str at *
            clear hs1 hs2
            go_wp2_with fail
            refine (sPut (i := 0) (ti := (k : Int)) S6.out rfl HI.out.2.1 HI.out.2.2.2.2.2.1 HI.out.2.2.2.2.2.2.1 (by unfold maxLen; omega)).mono ?_
            rintro e w4 ⟨rfl, hs⟩
            have S7 := Lib.hid hs
            have y8 := hs.blk 2 rfl
            have c1 := y8.cell 1
            have c2 := y8.cell 2
            clear hs y8 S6
            unfold putV
            generalize hy1 : (if putErr N most room L xt xc str = 0 then last + 1 else 0) = y1
            generalize hy2 : putErr N most room L xt xc str = y2
            have HY := Lib.hid (And.intro hy1 hy2)
            clear hy1 hy2
            go_wp2_with fail
            refine (srPut (i := 1) (t := xt) (c := xc) (s := str) (ti := (k : Int)) S7.out rfl HI.out.2.1 (by have := HI.out.2.2.2.1; omega) HI.out.2.2.2.2.1 (by unfold maxLen; omega)).mono ?_
            rintro e w5 ⟨rfl, hs⟩
            have S8 := Lib.hid hs
            clear hs S7 c1 c2
            unfold putV
            rw [HY.out.1, HY.out.2]
            go_wp2_with fail
            go_meet
            exact ⟨_, _, S8.out, okPut HI.out.2.1 (by have := HI.out.2.2.1; omega), by have := HI.out.2.2.1; have := putN_le (n := N) (most := most) (room := room) (last := last) (L := L) (t := xt) (c := xc) (s := str); omega, by have := HI.out.2.2.2.1; have := putL_len (n := N) (most := most) (room := room) (last := last) (L := L) (t := xt) (c := xc) (s := str) (ti := (k : Int)); omega, putL_size HI.out.2.2.2.2.1⟩
          · clear c3 c4
            go_wp2_with fail
            refine (sTake (i := 0) (t := xt) (c := xc) S5.out rfl HI.out.2.1 HI.out.2.2.2.2.2.1 HI.out.2.2.2.2.2.2.1).mono ?_
            rintro e w4 ⟨rfl, hs⟩
            have S6 := Lib.hid hs
            have y8 := hs.blk 2 rfl
            have c1 := y8.cell 1
            have c2 := y8.cell 2
            have h8' := y8.lt
            clear hs y8 c0
            unfold hd
            generalize hp1 : (qof L xt xc).headD noPk = pq at *
            generalize hp2 : (!(qof L xt xc).isEmpty) = iq at *
            have HP := Lib.hid (And.intro hp1 hp2)
            clear hp1 hp2
            obtain ⟨no, ⟨pt, pc, ps⟩, pat⟩ := pq
            go_wp2_with fail
            generalize hW : World.alloc _ _ = W4
            have y14 : Blk W4 w4.heap.size 37 #[.int .u64 no, .int .i64 pt, .int .i64 pc, .string ps, .int .u64 pat] := by rw [← hW]; exact Blk.new _ _ _
            have S7 := Lib.hid (S6.out.newBlk y14 (Nat.le_refl _) (by rw [← hW]; exact (Below.refl _ _).alloc (Nat.le_refl _) _))
            clear hW S6 y14 c1 c2
            refine (srTake (i := 1) (t := xt) (c := xc) S7.out rfl (by have := HI.out.2.2.2.1; omega)).mono ?_
            rintro e w5 ⟨rfl, hs⟩
            have y14 := hs.blk 3 rfl
            have z0 := y14.cell 0
            have z1 := y14.cell 1
            have z2 := y14.cell 2
            have z3 := y14.cell 3
            have z4 := y14.cell 4
            have hz := y14.lt
            have S8 := Lib.hid (Sep.dropLast (L := [QsT bq N most room last (qdrop L xt xc), RqT br N most room last (qdrop L xt xc), BlkT wr.heap.size 30 #[.int .i64 xw, .int .i64 xt, .int .i64 xc, .int .i64 xn, .string xs]]) hs)
            clear hs y14 S7
            unfold hd
            rw [HP.out.1, HP.out.2]
            go_wp2_with fail
            generalize hW : World.alloc _ _ = W5
            have S9 := Lib.hid (S8.out.below (w' := W5) (by rw [← hW]; exact (Below.refl _ _).alloc (Nat.le_refl _) _))
            clear hW
            go_meet
            exact ⟨_, _, S9.out, HI.out.2.1.take xt xc, by have := HI.out.2.2.1; omega, by have := HI.out.2.2.2.1; have := qdrop_len L xt xc; omega, fun p hp => HI.out.2.2.2.2.1 p ((qdrop_sub L xt xc).subset hp)⟩
        case rest =>
          obtain ⟨L', last', hs, ok', hla', hLk', hsz'⟩ := hcut
          have y8 := hs.blk 2 rfl
          have c1 := y8.cell 1
          have c2 := y8.cell 2
          have HS := Lib.hid (And.intro hs (And.intro ok' (And.intro hla' (And.intro hLk' (And.intro hsz' y8)))))
          have hLn : L'.length ≤ 101 := by omega
          clear hs ok' hla' hLk' hsz' y8 S5
          go_wp2_with fail
          refine (sHead (i := 0) (t := xt) (c := xc) HS.out.1 rfl HS.out.2.1 HI.out.2.2.2.2.2.1 HI.out.2.2.2.2.2.2.1).mono ?_
          rintro e w6 ⟨rfl, _, hb⟩
          have y8 := HS.out.2.2.2.2.2.below hb HS.out.2.2.2.2.2.lt
          have c1 := y8.cell 1
          have c2 := y8.cell 2
          have hy8 := y8.lt
          have HB6 := Lib.hid (And.intro hb y8)
          clear hb y8
          unfold hd
          generalize hp1 : (qof L' xt xc).headD noPk = pq
          generalize hp2 : (!(qof L' xt xc).isEmpty) = iq
          have HP := Lib.hid (And.intro hp1 hp2)
          clear hp1 hp2
          obtain ⟨no, ⟨pt, pc, ps⟩, pat⟩ := pq
          go_wp2_with fail
          generalize hW : World.alloc _ _ = W6
          have y18 : Blk W6 w6.heap.size 37 #[.int .u64 no, .int .i64 pt, .int .i64 pc, .string ps, .int .u64 pat] := by rw [← hW]; exact Blk.new _ _ _
          have b6 : Below wc.heap.size wc W6 := by rw [← hW]; exact HB6.out.1.alloc HB6.out.1.size _
          have HB7 := Lib.hid (And.intro b6 y18)
          clear hW b6 y18 c1 c2
          refine (srHead (i := 1) (t := xt) (c := xc) (HS.out.1.below HB7.out.1) rfl (by omega)).mono ?_
          rintro e w7 ⟨rfl, _, hb⟩
          have b7 : Below wc.heap.size wc w7 := HB7.out.1.trans (hb.mono HB7.out.1.size)
          have y8 := HS.out.2.2.2.2.2.below b7 HS.out.2.2.2.2.2.lt
          have c1 := y8.cell 1
          have c2 := y8.cell 2
          have hy8 := y8.lt
          have HB8 := Lib.hid (And.intro b7 (HB7.out.2.below hb HB7.out.2.lt))
          clear hb y8 b7
          unfold hd
          rw [HP.out.1, HP.out.2]
          go_wp2_with fail
          generalize hW : World.alloc _ _ = W7
          have b7' : Below w7.heap.size w7 W7 := by rw [← hW]; exact (Below.refl _ _).alloc (Nat.le_refl _) _
          have y20 : Blk W7 w7.heap.size 37 #[.int .u64 no, .int .i64 pt, .int .i64 pc, .string ps, .int .u64 pat] := by rw [← hW]; exact Blk.new _ _ _
          have HB9 := Lib.hid (And.intro (HB8.out.1.trans (b7'.mono HB8.out.1.size)) (And.intro (HB8.out.2.below b7' HB8.out.2.lt) y20))
          clear hW y20 b7' c1 c2
          refine (sLen (i := 0) (t := xt) (c := xc) (HS.out.1.below HB9.out.1) rfl HS.out.2.1 HI.out.2.2.2.2.2.1 HI.out.2.2.2.2.2.2.1).mono ?_
          rintro e w8 ⟨rfl, _, hb⟩
          have b8 : Below wc.heap.size wc w8 := HB9.out.1.trans (hb.mono HB9.out.1.size)
          have y8 := HS.out.2.2.2.2.2.below b8 HS.out.2.2.2.2.2.lt
          have c1 := y8.cell 1
          have c2 := y8.cell 2
          have hy8 := y8.lt
          have HB10 := Lib.hid (And.intro b8 (And.intro (HB9.out.2.1.below hb HB9.out.2.1.lt) (HB9.out.2.2.below hb HB9.out.2.2.lt)))
          clear hb y8 b8
          have HRL := Lib.hid (srLen (i := 1) (t := xt) (c := xc) (HS.out.1.below HB10.out.1) rfl (by omega) HS.out.2.2.2.2.1)
          generalize (qof L' xt xc).length = ln at *
          generalize qb (qof L' xt xc) = lb at *
          go_wp2_with fail
          refine HRL.out.mono ?_
          rintro e w9 ⟨rfl, rfl⟩
          clear c1 c2
          go_upto_region 22 with fail
          obtain ⟨F, v, hRQ, _⟩ := (HS.out.1.below HB10.out.1).look 1 rfl
          obtain ⟨AL, capL, rfl, _⟩ := hRQ.sl.len
          have q18 : ∀ (m : Nat) u, #[Value.int .u64 no, .int .i64 pt, .int .i64 pc, .string ps, .int .u64 pat][m]? = some u → ∀ X : Cls fun W => Below w8.heap.size w8 W, X.W.cell? ⟨w6.heap.size, m, none⟩ = some u := fun m u hu X => (sub_cell X _ _ HB10.out.2.1.lt).trans ((HB10.out.2.1.cell m).trans hu)
          have q20 : ∀ (m : Nat) u, #[Value.int .u64 no, .int .i64 pt, .int .i64 pc, .string ps, .int .u64 pat][m]? = some u → ∀ X : Cls fun W => Below w8.heap.size w8 W, X.W.cell? ⟨w7.heap.size, m, none⟩ = some u := fun m u hu X => (sub_cell X _ _ HB10.out.2.2.lt).trans ((HB10.out.2.2.cell m).trans hu)
          have a0 := q18 0 _ rfl
          have a1 := q18 1 _ rfl
          have a2 := q18 2 _ rfl
          have a3 := q18 3 _ rfl
          have a4 := q18 4 _ rfl
          have d0 := q20 0 _ rfl
          have d1 := q20 1 _ rfl
          have d2 := q20 2 _ rfl
          have d3 := q20 3 _ rfl
          have d4 := q20 4 _ rfl
          have qL : ∀ X : Cls fun W => Below w8.heap.size w8 W, X.W.cell? ⟨br, 3, none⟩ = some (.slice AL L'.length capL) := fun X => (sub_cell X _ _ hRQ.blk.lt).trans (hRQ.blk.cell 3)
          clear q18 q20 hRQ HRL
          have SS := Lib.hid (HS.out.1.below HB10.out.1)
          refine wp_region_sub [20, 30, 32, 33] (fun W => Below w8.heap.size w8 W) (by kernel_rfl) (by kernel_rfl) ((Below.refl _ _).drew) (fun _ => ?_)
          iterate 20 (refine mix_read (by kernel_rfl) (by rfl) (by rfl) (by rfl) (of_decide_eq_true (by kernel_rfl)) ?_; apply Exists.intro; apply Exists.intro; refine ⟨fun w' hw' K hK => ?_, ?_, ?_⟩; (obtain ⟨X, rfl⟩ := hw'; go_wp2_with fail; first | exact ⟨rfl, rfl⟩ | exact rfl); rfl)
          (refine mix_act (by rfl) (by rfl) (fun K hK => ?_))
          clear a0 a1 a2 a3 a4 d0 d1 d2 d3 d4
          go_wp2_with fail
          refine (sWaits (i := 0) (SS.out.below ((Below.refl _ _).drew)) rfl HS.out.2.1 (by omega)).mono ?_
          rintro e W1 ⟨rfl, hs1, hb1⟩
          have HW1 := Lib.hid (And.intro hs1 ((Below.refl w8.heap.size w8).drew.trans hb1))
          clear hs1 hb1
          go_wp2_with fail
          refine ⟨.mk HW1.out.2, ?_⟩
          iterate 9 (refine mix_read (by kernel_rfl) (by rfl) (by rfl) (by rfl) (of_decide_eq_true (by kernel_rfl)) ?_; apply Exists.intro; apply Exists.intro; refine ⟨fun w' hw' K hK => ?_, ?_, ?_⟩; (obtain ⟨X, rfl⟩ := hw'; go_wp2_with fail; first | exact ⟨rfl, rfl⟩ | exact rfl); rfl)
          (refine mix_act (by rfl) (by rfl) (fun K hK => ?_))
          clear qL
          go_wp2_with fail
          refine (sHeads (i := 0) HW1.out.1 rfl HS.out.2.1 (by omega)).mono ?_
          rintro e W3 ⟨x1, rfl, ho1, hs3, hb3⟩
          obtain ⟨B1, cb1, rfl, _⟩ := ho1.len
          have HW3 := Lib.hid (And.intro hs3 (And.intro (HW1.out.2.trans (hb3.mono HW1.out.2.size)) ho1))
          clear ho1 hs3 hb3 HW1
          go_wp2_with fail
          refine ⟨.mk HW3.out.2.1, ?_⟩
          iterate 1 (refine mix_read (by kernel_rfl) (by rfl) (by rfl) (by rfl) (of_decide_eq_true (by kernel_rfl)) ?_; apply Exists.intro; apply Exists.intro; refine ⟨fun w' hw' K hK => ?_, ?_, ?_⟩; (obtain ⟨X, rfl⟩ := hw'; go_wp2_with fail; first | exact ⟨rfl, rfl⟩ | exact rfl); rfl)
          (refine mix_act (by rfl) (by rfl) (fun K hK => ?_))
          go_wp2_with fail
          refine (srHeads (i := 1) HW3.out.1 rfl (by omega) HS.out.2.1.nos).mono ?_
          rintro e W4 ⟨x2, rfl, ho2, hs4, hb4⟩
          obtain ⟨B2, cb2, rfl, _⟩ := ho2.len
          have HW4 := Lib.hid (And.intro hs4 (And.intro (HW3.out.2.1.trans (hb4.mono HW3.out.2.1.size)) (And.intro (HW3.out.2.2.below hb4) ho2)))
          clear ho2 hs4 hb4 HW3
          go_wp2_with fail
          refine ⟨.mk HW4.out.2.1, ?_⟩
          (refine mix_act (by rfl) (by rfl) (fun K hK => ?_))
          have hsm := same_yes HW4.out.2.2.1.sl HW4.out.2.2.2.sl (Nat.lt_of_le_of_lt (Nat.le_trans (List.length_filter_le _ _) hLn) (by omega))
          have HSM := Lib.hid hsm
          clear hsm
          go_wp2_with fail
          refine HSM.out.mono ?_
          rintro e W5 ⟨rfl, hb5⟩
          have HW5 := Lib.hid (And.intro (HW4.out.1.below hb5) (HW4.out.2.1.trans (hb5.mono HW4.out.2.1.size)))
          clear hb5 HSM HW4
          go_wp2_with fail
          refine ⟨.mk HW5.out.2, ?_⟩
          iterate 2 (refine mix_read (by kernel_rfl) (by rfl) (by rfl) (by rfl) (of_decide_eq_true (by kernel_rfl)) ?_; apply Exists.intro; apply Exists.intro; refine ⟨fun w' hw' K hK => ?_, ?_, ?_⟩; (obtain ⟨X, rfl⟩ := hw'; go_wp2_with fail; first | exact ⟨rfl, rfl⟩ | exact rfl); rfl)
          refine mix_nil ?_
          go_wp2_with fail
          go_roundg (100 - (k + 1))
          case measure => omega
          case rel => exact ⟨k + 1, by omega, rfl, by go_num, Lib.hid ⟨L', last', Sep.dropLast (L := [QsT bq N most room last' L', RqT br N most room last' L']) HW5.out.1, HS.out.2.1, by have := HS.out.2.2.1; omega, by have := HS.out.2.2.2.1; omega, HS.out.2.2.2.2.1⟩⟩
      · by_cases h1 : k < l.length
        · obtain rfl : k = 100 := by have : ¬ k < 100 := fun h => hkl ⟨h1, h⟩; omega
          have h1' : (100 : Int) < l.length := by omega
          clear hkl
          go_wp2_with fail
          refine (works_yes _).mono ?_
          rintro e w9 ⟨rfl, hb⟩
          have HB := Lib.hid hb
          clear hb
          go_wp2_with fail
          go_ret
          obtain ⟨_, _, hs, _⟩ := hI.out
          exact ⟨rfl, hs.world.trans (HB.out.mono hs.world.size)⟩
        · have h1' : ¬ (k : Int) < l.length := by omega
          clear hkl
          go_wp2_with fail
          refine (works_yes _).mono ?_
          rintro e w9 ⟨rfl, hb⟩
          have HB := Lib.hid hb
          clear hb
          go_wp2_with fail
          go_ret
          obtain ⟨_, _, hs, _⟩ := hI.out
          exact ⟨rfl, hs.world.trans (HB.out.mono hs.world.size)⟩
  · have N1 := Lib.hid (fun W => new_no n most room W hok)
    have N2 := Lib.hid (fun W => rNew_no (n := n) (most := most) (room := room) hok W)
    clear hok
    go_enter Try.func3, Try.ntmps3
    go_upto_region 1 with fail
    generalize hW : World.alloc _ _ = W1
    have y3 : Blk W1 w0.heap.size 23 #[.int .i64 n, .int .i64 most, .int .i64 room] := by rw [← hW]; exact Blk.new _ _ _
    have b1 : Below w0.heap.size w0 W1 := by rw [← hW]; exact (Below.refl _ _).alloc (Nat.le_refl _) _
    have q0 : ∀ X : Cls fun W => Below W1.heap.size W1 W, X.W.cell? ⟨w0.heap.size, 0, none⟩ = some (.int .i64 n) := fun X => (sub_cell X _ _ y3.lt).trans (y3.cell 0)
    have q1 : ∀ X : Cls fun W => Below W1.heap.size W1 W, X.W.cell? ⟨w0.heap.size, 1, none⟩ = some (.int .i64 most) := fun X => (sub_cell X _ _ y3.lt).trans (y3.cell 1)
    have q2 : ∀ X : Cls fun W => Below W1.heap.size W1 W, X.W.cell? ⟨w0.heap.size, 2, none⟩ = some (.int .i64 room) := fun X => (sub_cell X _ _ y3.lt).trans (y3.cell 2)
    have S1 := Lib.hid b1
    clear hW y3 b1
    refine wp_region_sub [6, 13] (fun W => Below W1.heap.size W1 W) (by kernel_rfl) (by kernel_rfl) ((Below.refl _ _).drew) (fun _ => ?_)
    iterate 6 (refine mix_read (by kernel_rfl) (by rfl) (by rfl) (by rfl) (of_decide_eq_true (by kernel_rfl)) ?_; apply Exists.intro; apply Exists.intro; refine ⟨fun w' hw' K hK => ?_, ?_, ?_⟩; (obtain ⟨X, rfl⟩ := hw'; go_wp2_with fail; first | exact ⟨rfl, rfl⟩ | exact rfl); rfl)
    (refine mix_act (by rfl) (by rfl) (fun K hK => ?_))
    go_wp2_with fail
    refine (N1.out _).mono ?_
    rintro e w2 ⟨rfl, rfl⟩
    go_wp2_with fail
    refine ⟨.mk (Below.refl _ _).drew, ?_⟩
    iterate 6 (refine mix_read (by kernel_rfl) (by rfl) (by rfl) (by rfl) (of_decide_eq_true (by kernel_rfl)) ?_; apply Exists.intro; apply Exists.intro; refine ⟨fun w' hw' K hK => ?_, ?_, ?_⟩; (obtain ⟨X, rfl⟩ := hw'; go_wp2_with fail; first | exact ⟨rfl, rfl⟩ | exact rfl); rfl)
    (refine mix_act (by rfl) (by rfl) (fun K hK => ?_))
    go_wp2_with fail
    refine (N2.out _).mono ?_
    rintro e w3 ⟨rfl, rfl⟩
    go_wp2_with fail
    refine ⟨.mk (Below.refl _ _).drew, ?_⟩
    iterate 2 (refine mix_read (by kernel_rfl) (by rfl) (by rfl) (by rfl) (of_decide_eq_true (by kernel_rfl)) ?_; apply Exists.intro; apply Exists.intro; refine ⟨fun w' hw' K hK => ?_, ?_, ?_⟩; (obtain ⟨X, rfl⟩ := hw'; go_wp2_with fail; first | exact ⟨rfl, rfl⟩ | exact rfl); rfl)
    refine mix_nil ?_
    clear q0 q1 q2
    go_wp2_with fail
    refine (works_yes _).mono ?_
    rintro e w9 ⟨rfl, hb⟩
    have HB := Lib.hid (S1.out.trans (((Below.refl W1.heap.size W1).drew.trans hb).mono S1.out.size))
    clear hb
    go_wp2_with fail
    go_ret
    exact ⟨rfl, HB.out⟩

end Go.Proofs.Ytkeiafiembfaeaa
