/- QueueHeads. -/
import Derived.Test.YtkeiafiembfaeaaQuS
import Derived.Test.YtkeiafiembfaeaaReg2
set_option linter.unusedSimpArgs false
set_option linter.unusedVariables false
namespace Go.Proofs.Ytkeiafiembfaeaa
open Go.RowKit Go.Shelf
attribute [local irreducible] wpMix

/-- What holds behind k acts. -/
def HdI (w0 wr : World) (b k : Nat) : Prop :=
  ∃ L m, Sep w0.heap.size w0 wr [QsT b 8 6 300 m L] ∧ QsOk 8 6 300 m L ∧ m ≤ k ∧ L.length ≤ k ∧ ∀ p ∈ L, 1 ≤ p.2.1.2.2.size
theorem putL_pos {n most room last : Int} {L : List Pk} {t c : Int} {s : ByteArray} {ti : Int} (h : ∀ p ∈ L, 1 ≤ p.2.1.2.2.size) (hs : 1 ≤ s.size) : ∀ p ∈ putL n most room last L t c s ti, 1 ≤ p.2.1.2.2.size := by
  intro p hp
  unfold putL at hp
  split at hp
  · rcases List.mem_append.1 hp with hp | hp
    · exact h p hp
    · rw [List.mem_singleton.1 hp]; exact hs
  · exact h p hp

set_option maxRecDepth 100000 in
set_option maxHeartbeats 4000000 in
theorem QueueHeads_walk (vl : Value) (w : World) (cl : Came Try.prog w 49 vl) :
    Calls Try.prog 6 #[vl] w fun e w' => e = .returned (.bool true) ∧ Below w.heap.size w w' := by
  obtain ⟨l, hl, hwf⟩ := came_somes cl
  clear cl
  obtain ⟨A, cap, rfl, hlc, hcm⟩ := hl.len
  obtain ⟨w0, rfl⟩ : ∃ w0, w0 = w := ⟨w, rfl⟩
  have HL := Lib.hid (And.intro hl hwf)
  clear hl hwf
  unfold maxLen at hcm
  go_enter Try.func6, Try.ntmps6
  go_wp2_with fail
  refine (works_yes _).mono ?_
  rintro e w1 ⟨rfl, hb1⟩
  have S1 := Lib.hid ((Sep.nil w0).below hb1)
  clear hb1
  go_wp2_with fail
  refine (sNew 8 S1.out (by omega) (by omega) (by omega)).mono ?_
  rintro e w2 ⟨bq, rfl, hs, _⟩
  have S2 := Lib.hid hs
  clear hs S1
  go_wp2_with fail
  go_loopg [4] 200 (fun gk x wr => ∃ k : Nat, k ≤ 200 ∧ 200 - k = gk ∧ x = .int .i64 k ∧ Hid (HdI w0 wr bq k))
  case atStart => exact ⟨0, by omega, rfl, rfl, Lib.hid ⟨[], 0, S2.out, QsOk.nil (by omega) (by omega) (by omega), by omega, by simp, by simp⟩⟩
  case round =>
    clear S2
    obtain ⟨k, hk, hg, rfl, hI⟩ := hrel
    go_upto_region 7 with fail
    go_cut [29] from 22 to 29 (fun v wx => ∃ q, v = .bool q ∧ q = decide (k < l.length ∧ k < 200) ∧ wr = wx)
    case first => as_aux_lemma =>
      by_cases hkl : k < l.length
      · have hkl' : (k : Int) < l.length := by omega
        by_cases hk2 : k < 200
        · have hk2' : (k : Int) < 200 := by omega
          go_wp2_with fail
          go_meet
          exact ⟨_, rfl, (decide_eq_true ⟨hkl, hk2⟩).symm, rfl⟩
        · have hk2' : ¬ (k : Int) < 200 := by omega
          go_wp2_with fail
          go_meet
          exact ⟨_, rfl, (decide_eq_false (fun h => hk2 h.2)).symm, rfl⟩
      · have hkl' : ¬ (k : Int) < l.length := by omega
        go_wp2_with fail
        go_meet
        exact ⟨_, rfl, (decide_eq_false (fun h => hkl h.1)).symm, rfl⟩
    case rest =>
      obtain ⟨q, rfl, hq, rfl⟩ := hcut
      cases q with
      | true =>
        obtain ⟨hkl, hk2⟩ := of_decide_eq_true hq.symm
        clear hq
        obtain ⟨L, m, hs, ok, hm, hLk, hpos⟩ := hI.out
        obtain ⟨⟨xt, xc, xn, tk⟩, hx⟩ : ∃ x, l[k]? = some x := ⟨_, List.getElem?_eq_getElem hkl⟩
        have hwx := HL.out.2 _ (List.mem_of_getElem? hx)
        obtain ⟨bl, ol, hA⟩ : ∃ bl ol, A = some ⟨bl, ol, none⟩ := by
          obtain ⟨b', o', c', e, _⟩ := HL.out.1.some (by omega)
          cases e; exact ⟨b', o', rfl⟩
        subst hA
        have hce := somes_at HL.out.1 hs.world hx
        obtain ⟨hwt, hwc, hwn⟩ := hwx
        simp only at hwt hwc hwn
        obtain ⟨e0, e1, e2, e3⟩ := hce
        simp only at e0 e1 e2 e3
        have HI := Lib.hid (And.intro hs (And.intro ok (And.intro hm (And.intro hLk (And.intro hpos hx)))))
        have hkl' : (k : Int) < l.length := by omega
        clear hs ok hm hLk hpos hx hI
        go_upto_region 9 with fail
        go_quiet (fail)
        have hd : Below wr.heap.size wr (wr.drewN nq) := below_drewN (Below.refl _ _) _
        obtain ⟨hs, ok, hm, hLk, hpos, hx⟩ := HI.out
        have HJ := Lib.hid (And.intro (hs.below hd) (And.intro ok (And.intro hm (And.intro hLk hpos))))
        have e2' : (wr.drewN nq).cell? ⟨bl, ol + k * 4 + 2, none⟩ = some (.int .u8 xn) := e2
        have e3' : (wr.drewN nq).cell? ⟨bl, ol + k * 4 + 3, none⟩ = some (.bool tk) := e3
        clear hs ok hm hLk hpos hx HI e0 e1 e2 e3 hd
        generalize wr.drewN nq = wd at *
        have ht : 0 ≤ xt % 8 ∧ xt % 8 < 8 := by omega
        have hc : 0 ≤ xc % 3 ∧ xc % 3 < 3 := by omega
        clear hwt hwc
        generalize xt % 8 = t at *
        generalize xc % 3 = c at *
        cases tk with
        | true =>
          go_wp2_with fail
          refine (sTake (i := 0) (t := t) (c := c) HJ.out.1 rfl HJ.out.2.1 (by go_wf) (by go_wf)).mono ?_
          rintro e w4 ⟨rfl, hs⟩
          have S4 := Lib.hid hs
          clear hs
          unfold hd
          generalize (qof L t c).headD noPk = pq
          generalize (!(qof L t c).isEmpty) = iq
          go_wp2_with fail
          go_roundg (200 - (k + 1))
          case measure => omega
          case rel => exact ⟨k + 1, by omega, rfl, by go_num, Lib.hid ⟨_, _, S4.out, HJ.out.2.1.take t c, by have := HJ.out.2.2.1; omega, by have := HJ.out.2.2.2.1; have := qdrop_len L t c; omega, fun p hp => HJ.out.2.2.2.2 p ((qdrop_sub L t c).subset hp)⟩⟩
        | false =>
          obtain ⟨N, rfl⟩ : ∃ N : Nat, xn = N := ⟨xn.toNat, by omega⟩
          go_wp2_with (refine wpList_make_zero rfl (.tmp 64) (.tmp 64) 31 5 rfl Try.underlying31 Try.underlying5 u8_info (1 + N) (show Value.int .i64 (1 + (N : Int)) = .int .i64 ((1 + N : Nat) : Int) from by congr 1) (show Value.int .i64 (1 + (N : Int)) = .int .i64 ((1 + N : Nat) : Int) from by congr 1) (by omega) ?_; intro wz hbz hcv; have hcs := hcv 9 Try.underlying9; clear hcv)
          have SZ := Lib.hid (HJ.out.1.below hbz)
          clear hbz
          refine (sPut (i := 0) (ti := (k : Int)) SZ.out rfl HJ.out.2.1 (by go_wf) (by go_wf) (by rw [zeros_size]; unfold maxLen; omega)).mono ?_
          clear hcs
          rintro e w4 ⟨rfl, hs⟩
          have S4 := Lib.hid hs
          clear hs SZ
          unfold putV
          generalize (if putErr 8 6 300 L t c (zeros (1 + N)) = 0 then m + 1 else 0) = y1
          generalize putErr 8 6 300 L t c (zeros (1 + N)) = y2
          go_wp2_with fail
          go_roundg (200 - (k + 1))
          case measure => omega
          case rel => exact ⟨k + 1, by omega, rfl, by go_num, Lib.hid ⟨_, _, S4.out, okPut HJ.out.2.1 (by have := HJ.out.2.2.1; omega), by have := HJ.out.2.2.1; have := putN_le (n := 8) (most := 6) (room := 300) (last := m) (L := L) (t := t) (c := c) (s := zeros (1 + N)); omega, by have := HJ.out.2.2.2.1; have := putL_len (n := 8) (most := 6) (room := 300) (last := m) (L := L) (t := t) (c := c) (s := zeros (1 + N)) (ti := (k : Int)); omega, putL_pos HJ.out.2.2.2.2 (by rw [zeros_size]; omega)⟩⟩
      | false =>
        clear hq
        obtain ⟨L, m, hs, ok, hm, hLk, hpos⟩ := hI.out
        clear hI HL
        have S3 := Lib.hid hs
        have HOK := Lib.hid (And.intro ok hpos)
        clear hs ok hpos
        go_wp2_with fail
        refine (sHeads (i := 0) S3.out rfl HOK.out.1 (by omega)).mono ?_
        rintro e w5 ⟨x, rfl, ho, hs, _⟩
        obtain ⟨Ah, caph, rfl, hlh⟩ := ho.len
        have S5 := Lib.hid (And.intro hs ho)
        clear hs ho S3
        go_wp2_with fail
        go_loopg [8, 9, 10] 8 (fun gk s8 s9 s10 wr => ∃ t : Nat, t ≤ 8 ∧ 8 - t = gk ∧ s10 = .int .i64 t ∧ s8 = .int .i64 (someK L (3 * t)) ∧ s9 = .int .i64 (cntK L (3 * t)) ∧ Hid (Below w5.heap.size w5 wr))
        case atStart => exact ⟨0, by omega, rfl, rfl, rfl, by rw [show (3 * ((0 : Nat) : Int)) = 0 by rfl, cntK_zero HOK.out.1.inR]; rfl, Lib.hid (Below.refl _ _)⟩
        case round =>
          obtain ⟨t, ht, hg, rfl, rfl, rfl, hB⟩ := hrel
          by_cases ht8 : t < 8
          · have ht8' : (t : Int) < 8 := by omega
            go_wp2_with fail
            go_loopg [8, 9, 11] 3 (fun gk s8 s9 s11 wr => ∃ c : Nat, c ≤ 3 ∧ 3 - c = gk ∧ s11 = .int .i64 c ∧ s8 = .int .i64 (someK L (3 * t + c)) ∧ s9 = .int .i64 (cntK L (3 * t + c)) ∧ Hid (Below w5.heap.size w5 wr))
            case atStart => exact ⟨0, by omega, rfl, rfl, rfl, by simp, hB⟩
            case round =>
              clear hB
              obtain ⟨c, hc, hg', rfl, rfl, rfl, hB⟩ := hrel
              by_cases hc3 : c < 3
              · have hc3' : (c : Int) < 3 := by omega
                have hcn := cntK_next HOK.out.1.inR (t := (t : Int)) (c := (c : Int)) (by unfold InR; omega)
                have hsn := someK_next L t c hc3
                have hcl := cntK_le L (3 * (t : Int) + c + 1)
                have hsl := someK_le L (3 * t + c)
                have hpos := qb_pos (l := qof L (t : Int) (c : Int)) (fun p hp => HOK.out.2 p (qof_mem hp).1)
                have hlen := sLen (i := 0) (t := (t : Int)) (c := (c : Int)) (S5.out.1.below hB.out) rfl HOK.out.1 (by go_wf) (by go_wf)
                have hcs : cntK L (3 * (t : Int) + c) + (qof L (t : Int) (c : Int)).length ≤ 200 := by omega
                have hby : (qb (qof L (t : Int) (c : Int)) : Int) ≤ 300 := HOK.out.1.bytes t c
                have hie : (qof L (t : Int) (c : Int)).isEmpty = decide ((qof L (t : Int) (c : Int)).length = 0) := by cases qof L (t : Int) (c : Int) <;> simp
                rw [hie] at hsn
                generalize (qof L (t : Int) (c : Int)).length = ln at *
                generalize qb (qof L (t : Int) (c : Int)) = lb at *
                have HC := Lib.hid (And.intro hcn hsn)
                have HLN := Lib.hid hlen
                clear hcn hsn hcl hie hlen
                generalize cntK L (3 * (t : Int) + c) = cn at *
                generalize someK L (3 * t + c) = sn at *
                by_cases hz : ln = 0
                · obtain rfl : lb = 0 := by have := hpos.symm ▸ hz; exact this
                  subst hz
                  clear hpos
                  go_wp2_with fail
                  refine HLN.out.mono ?_
                  rintro e w6 ⟨rfl, hs, hb6⟩
                  have HB6 := Lib.hid (hB.out.trans (hb6.mono hB.out.size))
                  clear hs hb6
                  go_wp2_with fail
                  go_roundg (3 - (c + 1))
                  case measure => omega
                  case rel =>
                    have h1 := HC.out.1
                    have h2 := HC.out.2
                    simp at h2
                    exact ⟨c + 1, by omega, rfl, by go_num, by rw [show 3 * t + (c + 1) = 3 * t + c + 1 by omega, h2], by rw [show 3 * (t : Int) + ((c + 1 : Nat) : Int) = 3 * (t : Int) + c + 1 by omega, h1]; rfl, HB6⟩
                · have hlb : lb ≠ 0 := fun h => hz (hpos ▸ h)
                  have HZ := Lib.hid hz
                  have i1 : (0 : Int) < ln := by omega
                  have i1' : 0 < ln := by omega
                  have i2 : ((ln : Int) == 0) = false := by rw [beq_eq_false_iff_ne]; omega
                  have i3 : ((lb : Int) == 0) = false := by rw [beq_eq_false_iff_ne]; omega
                  clear hpos hz
                  go_wp2_with fail
                  refine HLN.out.mono ?_
                  rintro e w6 ⟨rfl, hs, hb6⟩
                  have HB6 := Lib.hid (hB.out.trans (hb6.mono hB.out.size))
                  clear hs hb6
                  go_wp2_with fail
                  go_roundg (3 - (c + 1))
                  case measure => omega
                  case rel =>
                    have h1 := HC.out.1
                    have h2 := HC.out.2
                    rw [decide_eq_false HZ.out] at h2
                    simp at h2
                    exact ⟨c + 1, by omega, rfl, by go_num, by rw [show 3 * t + (c + 1) = 3 * t + c + 1 by omega, h2]; go_num, by rw [show 3 * (t : Int) + ((c + 1 : Nat) : Int) = 3 * (t : Int) + c + 1 by omega, h1]; go_num, HB6⟩
              · obtain rfl : c = 3 := by omega
                have HE := Lib.hid (And.intro (show 3 * t + 3 = 3 * (t + 1) by omega) (show 3 * (t : Int) + ((3 : Nat) : Int) = 3 * ((t + 1 : Nat) : Int) by omega))
                go_wp2_with fail
                go_roundg (8 - (t + 1))
                case measure => omega
                case rel => exact ⟨t + 1, by omega, rfl, by go_num, by rw [← HE.out.1], by rw [← HE.out.2], hB⟩
          · obtain rfl : t = 8 := by omega
            have hc24 := cntK_all HOK.out.1.inR
            have hs24 := someK_all HOK.out.1
            rw [show (3 * ((8 : Nat) : Int)) = 24 by rfl, show 3 * 8 = 24 by rfl, hc24, hs24]
            have S6 := Lib.hid (And.intro (S5.out.1.below hB.out) (S5.out.2.below hB.out))
            clear hc24 hs24 hB S5
            have hh2 : (heads L).length ≤ 200 := Nat.le_trans (List.length_filter_le _ _) (Nat.le_trans hLk hk)
            revert S6
            generalize wr = w7
            intro S6
            go_wp2_with fail
            go_loopg [14] 200 (fun gk x wr => ∃ i : Nat, i ≤ (heads L).length ∧ 200 - i = gk ∧ x = .int .i64 i ∧ Hid (Below w7.heap.size w7 wr))
            case atStart => exact ⟨0, by omega, rfl, rfl, Lib.hid (Below.refl _ _)⟩
            case round =>
              obtain ⟨i, hi, hg'', rfl, hB⟩ := hrel
              by_cases hil : i < (heads L).length
              · have hil' : (i : Int) < (heads L).length := by omega
                obtain ⟨bh, oh, hA⟩ : ∃ bl ol, Ah = some ⟨bl, ol, none⟩ := by
                  obtain ⟨b', o', c', e, _⟩ := S6.out.2.sl.some (by omega)
                  cases e; exact ⟨b', o', rfl⟩
                subst hA
                obtain ⟨⟨no, ⟨pt, pc, ps⟩, pat⟩, hx⟩ : ∃ x, (heads L)[i]? = some x := ⟨_, List.getElem?_eq_getElem hil⟩
                have hmem := List.mem_of_getElem? hx
                have ho := S6.out.2.below hB.out
                have at_ : ∀ m, m < 5 → ((heads L).flatMap pC)[i * 5 + m]? = (pC (no, (pt, pc, ps), pat))[m]? := fun m hm => by rw [flat_at pC 5 pC_len (heads L) i m hm, hx]; rfl
                have e0 := ho.cell (i * 5) _ (at_ 0 (by omega))
                have e1 := ho.cell (i * 5 + 1) _ (at_ 1 (by omega))
                have e2 := ho.cell (i * 5 + 2) _ (at_ 2 (by omega))
                have e3 := ho.cell (i * 5 + 3) _ (at_ 3 (by omega))
                have e4 := ho.cell (i * 5 + 4) _ (at_ 4 (by omega))
                rw [← Nat.add_assoc] at e1 e2 e3 e4
                have hlb := (ho.lt bh rfl).2
                have hlb7 := (S6.out.2.lt bh rfl).2
                have hB' := hB
                have hr := HOK.out.1.inR _ (mem_heads.1 hmem).1
                unfold InR at hr
                simp only at hr
                have hhd : ∀ W, Below wr.heap.size wr W → Calls Try.prog 15 #[ptr bq, .int .i64 pt, .int .i64 pc] W fun e w' => e = .returned (.tuple #[pV (no, (pt, pc, ps), pat), .bool true]) ∧ Below W.heap.size W w' := fun W hW => by
                  have := sHead (i := 0) (t := pt) (c := pc) (w := W) (S6.out.1.below (hB.out.trans (hW.mono hB.out.size))) rfl HOK.out.1 (by go_wf) (by go_wf)
                  rw [heads_hd hmem] at this
                  exact this.mono fun e w' ⟨h1, _, h2⟩ => ⟨h1, h2⟩
                have q1 : ∀ X : Cls fun W => Below wr.heap.size wr W, X.W.cell? ⟨bh, oh + i * 5 + 1, none⟩ = some (.int .i64 pt) := fun X => (sub_cell X _ _ hlb).trans e1
                have q2 : ∀ X : Cls fun W => Below wr.heap.size wr W, X.W.cell? ⟨bh, oh + i * 5 + 2, none⟩ = some (.int .i64 pc) := fun X => (sub_cell X _ _ hlb).trans e2
                have HE := Lib.hid (And.intro e0 (And.intro e1 (And.intro e2 (And.intro e3 (And.intro e4 hlb)))))
                have HH := Lib.hid hhd
                have HX := Lib.hid (And.intro hx hmem)
                clear at_ e0 e1 e2 e3 e4 hhd hmem hx ho
                go_upto_region 30 with fail
                go_cut [15, 16] from 105 to 119 (fun p v wx => ∃ g, p = ptr g ∧ v = .bool true ∧ Blk wx g 37 #[.int .u64 no, .int .i64 pt, .int .i64 pc, .string ps, .int .u64 pat] ∧ Below wr.heap.size wr wx)
                case first => as_aux_lemma =>
                  refine wp_region_lin (by kernel_rfl) (wpLin_split 11 15 (by decide) ?_ ?_)
                  · refine wpLin_ord1 11 15 [0, 1, 2, 3, 4, 5, 6, 7, 8, 9, 10, 11, 12, 13, 14, 15, 16, 17] [11, 15, 16] (fun W => Below wr.heap.size wr W) (by kernel_rfl) ((Below.refl _ _).drew) (fun _ => ?_)
                    iterate 11 (refine mixO_read (by rfl) (by rfl) (by rfl) (by rfl) (by rfl) (by simp) ?_; apply Exists.intro; apply Exists.intro; refine ⟨fun w' hw' K hK => ?_, ?_, ?_⟩; (obtain ⟨X, rfl⟩ := hw'; go_wp2_with fail; first | exact ⟨rfl, rfl⟩ | exact rfl); rfl)
                    (refine mixO_act (by rfl) (by rfl) (by rfl) (fun K hK => ?_))
                    go_wp2_with fail
                    refine (HH.out _ ((Below.refl _ _).drew)).mono ?_
                    rintro e W1 ⟨rfl, hb1⟩
                    have hb1' : Below wr.heap.size wr W1 := (Below.refl wr.heap.size wr).drew.trans hb1
                    have HB1 := Lib.hid hb1'
                    clear hb1 hb1' HH q1 q2
                    go_wp2_with fail
                    refine ⟨.mk HB1.out, ?_⟩
                    iterate 3 (refine mixO_read (by rfl) (by rfl) (by rfl) (by rfl) (by rfl) (by simp) ?_; apply Exists.intro; apply Exists.intro; refine ⟨fun w' hw' K hK => ?_, ?_, ?_⟩; (obtain ⟨X, rfl⟩ := hw'; go_wp2_with fail; first | exact ⟨rfl, rfl⟩ | exact rfl); rfl)
                    (refine mixO_act (by rfl) (by rfl) (by rfl) (fun K hK => ?_))
                    go_wp2_with fail
                    refine ⟨.mk (HB1.out.alloc HB1.out.size _), ?_⟩
                    (refine mixO_act (by rfl) (by rfl) (by rfl) (fun K hK => ?_))
                    go_wp2_with fail
                    refine ⟨.mk (HB1.out.alloc HB1.out.size _), ?_⟩
                    (refine mixO_read (by rfl) (by rfl) (by rfl) (by rfl) (by rfl) (by simp) ?_; apply Exists.intro; apply Exists.intro; refine ⟨fun w' hw' K hK => ?_, ?_, ?_⟩; (obtain ⟨X, rfl⟩ := hw'; go_wp2_with fail; first | exact ⟨rfl, rfl⟩ | exact rfl); rfl)
                    refine mixO_nil ?_
                    go_wp2_with fail
                    go_meet
                    exact ⟨_, rfl, rfl, Blk.new _ _ _, HB1.out.alloc HB1.out.size _⟩
                  · refine wpLin_ord1 15 11 [0, 1, 2, 3, 4, 5, 6, 7, 8, 9, 10, 15, 11, 12, 13, 14, 16, 17] [11, 15, 16] (fun W => Below wr.heap.size wr W) (by kernel_rfl) ((Below.refl _ _).drew) (fun _ => ?_)
                    iterate 11 (refine mixO_read (by rfl) (by rfl) (by rfl) (by rfl) (by rfl) (by simp) ?_; apply Exists.intro; apply Exists.intro; refine ⟨fun w' hw' K hK => ?_, ?_, ?_⟩; (obtain ⟨X, rfl⟩ := hw'; go_wp2_with fail; first | exact ⟨rfl, rfl⟩ | exact rfl); rfl)
                    (refine mixO_act (by rfl) (by rfl) (by rfl) (fun K hK => ?_))
                    go_wp2_with fail
                    refine ⟨.mk ((Below.refl _ _).alloc (Nat.le_refl _) _).drew, ?_⟩
                    (refine mixO_act (by rfl) (by rfl) (by rfl) (fun K hK => ?_))
                    go_wp2_with fail
                    refine (HH.out _ (((Below.refl _ _).alloc (Nat.le_refl _) _).drew)).mono ?_
                    rintro e W1 ⟨rfl, hb1⟩
                    have z := Blk.below (Blk.drew (Blk.new _ _ _)) hb1 (by simp)
                    have hb1' : Below wr.heap.size wr W1 := (((Below.refl _ _).alloc (Nat.le_refl _) _).drew).trans (hb1.mono (by simp))
                    have z0 := z.cell 0
                    have z1 := z.cell 1
                    have z2 := z.cell 2
                    have z3 := z.cell 3
                    have z4 := z.cell 4
                    have k0 := z.frozen
                    have hl2 := z.lt
                    have HB1 := Lib.hid (And.intro hb1' z)
                    clear hb1 hb1' HH q1 q2 z
                    go_wp2_with fail
                    refine ⟨.mk HB1.out.1, ?_⟩
                    iterate 3 (refine mixO_read (by rfl) (by rfl) (by rfl) (by rfl) (by rfl) (by simp) ?_; apply Exists.intro; apply Exists.intro; refine ⟨fun w' hw' K hK => ?_, ?_, ?_⟩; (obtain ⟨X, rfl⟩ := hw'; go_wp2_with fail; first | exact ⟨rfl, rfl⟩ | exact rfl); rfl)
                    (refine mixO_act (by rfl) (by rfl) (by rfl) (fun K hK => ?_))
                    go_wp2_with fail
                    have zf := (((((HB1.out.2.set_ 0 (.int .u64 no)).set_ 1 (.int .i64 pt)).set_ 2 (.int .i64 pc)).set_ 3 (.string ps)).set_ 4 (.int .u64 pat)).same (cs' := #[.int .u64 no, .int .i64 pt, .int .i64 pc, .string ps, .int .u64 pat]) (by simp only [List.setIfInBounds_toArray, List.set_cons_succ, List.set_cons_zero])
                    have bf := ((((HB1.out.1.setCell (p := ⟨wr.heap.size, 0, none⟩) (Nat.le_refl _) (.int .u64 no)).setCell (p := ⟨wr.heap.size, 1, none⟩) (Nat.le_refl _) (.int .i64 pt)).setCell (p := ⟨wr.heap.size, 2, none⟩) (Nat.le_refl _) (.int .i64 pc)).setCell (p := ⟨wr.heap.size, 3, none⟩) (Nat.le_refl _) (.string ps)).setCell (p := ⟨wr.heap.size, 4, none⟩) (Nat.le_refl _) (.int .u64 pat)
                    have HF := Lib.hid (And.intro zf bf)
                    clear zf bf
                    refine ⟨.mk HF.out.2, ?_⟩
                    (refine mixO_read (by rfl) (by rfl) (by rfl) (by rfl) (by rfl) (by simp) ?_; apply Exists.intro; apply Exists.intro; refine ⟨fun w' hw' K hK => ?_, ?_, ?_⟩; (obtain ⟨X, rfl⟩ := hw'; go_wp2_with fail; first | exact ⟨rfl, rfl⟩ | exact rfl); rfl)
                    refine mixO_nil ?_
                    go_wp2_with fail
                    go_meet
                    exact ⟨_, rfl, rfl, HF.out.1, HF.out.2⟩
                case rest =>
                  obtain ⟨g15, rfl, rfl, y15, b2⟩ := hcut
                  have hk2 : ∀ o v, wr.cell? ⟨bh, o, none⟩ = some v → wc.cell? ⟨bh, o, none⟩ = some v := fun o v h => (b2.cell (p := ⟨bh, o, none⟩) HE.out.2.2.2.2.2).trans h
                  have e0 := hk2 _ _ HE.out.1
                  have e1 := hk2 _ _ HE.out.2.1
                  have e2 := hk2 _ _ HE.out.2.2.1
                  have e3 := hk2 _ _ HE.out.2.2.2.1
                  have e4 := hk2 _ _ HE.out.2.2.2.2.1
                  have z0 := y15.cell 0
                  have z1 := y15.cell 1
                  have z2 := y15.cell 2
                  have z3 := y15.cell 3
                  have z4 := y15.cell 4
                  have hlc := y15.lt
                  have HB2 := Lib.hid (hB.out.trans (b2.mono hB.out.size))
                  have HK2 := Lib.hid hk2
                  clear hk2 y15 b2 hB HH q1 q2
                  by_cases hi0 : i = 0
                  · subst hi0
                    simp only [Nat.zero_mul, Nat.add_zero] at e0 e1 e2 e3 e4
                    go_upto_region 31 with fail
                    go_quiet (fail)
                    go_wp2_with fail
                    go_roundg (200 - (0 + 1))
                    case measure => omega
                    case rel => exact ⟨0 + 1, by omega, rfl, by go_num, Lib.hid (HB2.out.trans (below_drewN (Below.refl _ _) _ |>.mono HB2.out.size))⟩
                  · obtain ⟨j, rfl⟩ : ∃ j, i = j + 1 := ⟨i - 1, by omega⟩
                    obtain ⟨⟨no', ⟨pt', pc', ps'⟩, pat'⟩, hxj⟩ : ∃ x, (heads L)[j]? = some x := ⟨_, List.getElem?_eq_getElem (by omega)⟩
                    have hpw : (heads L).Pairwise (fun p q => p.1 < q.1) := List.Pairwise.filter _ HOK.out.1.nos
                    have hlt : no' < no := by
                      have h1 := List.getElem?_eq_some_iff.1 hxj
                      have h2 := List.getElem?_eq_some_iff.1 HX.out.1
                      obtain ⟨h1l, h1e⟩ := h1
                      obtain ⟨h2l, h2e⟩ := h2
                      have := List.pairwise_iff_getElem.1 hpw j (j + 1) h1l h2l (by omega)
                      rw [h1e, h2e] at this
                      exact this
                    have f0 := HK2.out _ _ ((hB'.out.cell (p := ⟨bh, oh + j * 5, none⟩) hlb7).trans (S6.out.2.cell (j * 5) (.int .u64 no') (by rw [show j * 5 = j * 5 + 0 by omega, flat_at pC 5 pC_len (heads L) j 0 (by omega), hxj]; rfl)))
                    have hd : decide (no ≤ no') = false := by rw [decide_eq_false_iff_not]; omega
                    clear hlt hpw hxj
                    go_upto_region 31 with fail
                    go_quiet (fail)
                    go_wp2_with fail
                    go_roundg (200 - (j + 1 + 1))
                    case measure => omega
                    case rel => exact ⟨j + 1 + 1, by omega, rfl, by go_num, Lib.hid (HB2.out.trans (below_drewN (Below.refl _ _) _ |>.mono HB2.out.size))⟩
              · obtain rfl : i = (heads L).length := by omega
                have hwt := sWaits (i := 0) (S6.out.1.below hB.out) rfl HOK.out.1 (by omega)
                have HW := Lib.hid hwt
                clear hwt
                go_wp2_with fail
                refine HW.out.mono ?_
                rintro e w8 ⟨rfl, hs, _⟩
                have HS := Lib.hid hs
                clear hs
                go_wp2_with fail
                go_ret
                exact ⟨rfl, HS.out.world⟩

end Go.Proofs.Ytkeiafiembfaeaa
