/- PickPlays: the walk. -/
import Derived.Test.YtnhbcpopnhdhiaaPickK
import Derived.Test.YtnhbcpopnhdhiaaPickW
import Derived.Test.YtnhbcpopnhdhiaaPickR
import Derived.BigQuiet
import Derived.WalkSmall
set_option linter.unusedSimpArgs false
set_option linter.unusedVariables false
namespace Go.Proofs.Ytnhbcpopnhdhiaa
open Go.RowKit Go.Shelf
attribute [local irreducible] wpMix

theorem cut_take {w : World} {A : Option Addr} {cap : Nat} {tl : List Cv} (h : SlAt w 4 (.slice A tl.length cap) tl.length (tl.flatMap cC)) (k : Nat) (hk : k ≤ tl.length) :
    SlAt w 4 (.slice A k cap) (tl.take k).length ((tl.take k).flatMap cC) := by
  obtain ⟨A', cap', he, ht⟩ := h.take k hk
  cases he
  rw [flat_take cC 4 cC_len] at ht
  rw [List.length_take, Nat.min_eq_left hk]
  exact ht

set_option maxRecDepth 100000 in
set_option maxHeartbeats 8000000 in
theorem plays_any (A : Option Addr) (cap : Nat) (ts : List (Value × List Cv)) (last0 b0 b1 : Int) (w : World) (hcl : ts.length ≤ cap ∧ cap ≤ maxLen) (ht : SlAt w 1 (.slice A ts.length cap) ts.length (ts.flatMap fun x => [x.1])) (hc : ∀ x ∈ ts, CandsAt w x.1 x.2)
    (hb0 : 0 ≤ b0 ∧ b0 < 65536) (hb1 : 0 ≤ b1 ∧ b1 < 65536) :
    Calls Try.prog 3 #[.slice A ts.length cap, .int .i64 last0, .agg #[.int .u16 b0, .int .u16 b1]] w fun e w' => e = .returned (.bool true) ∧ Below w.heap.size w w' := by
  obtain ⟨hcl, hcm⟩ := hcl
  unfold maxLen at hcm
  have HF := Lib.hid (And.intro ht (And.intro hc (And.intro hb0 hb1)))
  clear ht hc hb0 hb1
  go_enter Try.func3, Try.ntmps3
  go_upto_region 1 with fail
  have z := Blk.new w 24 #[.int .u16 b0, .int .u16 b1]
  have hba := (Below.refl w.heap.size w).alloc (Nat.le_refl _) (.cells #[.int .u16 b0, .int .u16 b1] 24)
  generalize hgB : w.heap.size = gB at z ⊢
  generalize World.alloc _ _ = W1 at z hba ⊢
  have HG := Lib.hid (And.intro z (And.intro hba hgB))
  clear z hba hgB
  go_wp2_with fail
  refine (New_yes 5000 W1 (by decide)).mono ?_
  rintro e w0 ⟨rfl, hb, hB⟩
  have hgl := HG.out.1.below hb HG.out.1.lt
  generalize W1.heap.size = gd at hB ⊢
  have H0 := Lib.hid (And.intro (HG.out.2.1.trans (hb.mono HG.out.2.1.size)) (And.intro hB hgl))
  clear hb hB hgl
  go_wp2_with fail
  refine (RNew_yes 5000 w0 (by decide)).mono ?_
  rintro e w1 ⟨rfl, hb, hB⟩
  have hd0 := H0.out.2.1.below hb H0.out.2.1.lt
  have hgl := H0.out.2.2.below hb H0.out.2.2.lt
  generalize w0.heap.size = gr at hB ⊢
  have H1 := Lib.hid (And.intro (H0.out.1.trans (hb.mono H0.out.1.size)) (And.intro hd0 (And.intro hB hgl)))
  clear hb hB hd0 hgl H0 HG
  go_wp2_with fail
  go_loopg [1, 7, 8, 11] ts.length (fun gk la d u i wr => ∃ (k bd br : Nat) (s : St) (last : Int), (k ≤ ts.length ∧ k ≤ 20) ∧ ts.length - k = gk ∧ i = .int .i64 (k : Nat) ∧ d = .pointer (some ⟨bd, 0, none⟩) ∧ u = .pointer (some ⟨br, 0, none⟩) ∧ la = .int .i64 last ∧ Below w.heap.size w wr ∧ Sok s ∧
      Blk wr bd 51 (dCells 5000 s.1 s.2.1 s.2.2) ∧ Blk wr br 41 (dCells 5000 s.1 s.2.1 s.2.2) ∧ Blk wr gB 24 #[.int .u16 b0, .int .u16 b1])
  case atStart => exact ⟨0, _, _, s00, last0, by omega, rfl, rfl, rfl, rfl, rfl, H1.out.1, s00_ok, H1.out.2.1, H1.out.2.2.1, H1.out.2.2.2⟩
  case round =>
    obtain ⟨k, bd, br, s, last, ⟨hk, hk20⟩, rfl, rfl, rfl, rfl, rfl, hb, hs, hBd, hBr, hBg⟩ := hrel
    have HR := Lib.hid (And.intro hb (And.intro hs (And.intro hBd (And.intro hBr hBg))))
    have hle := hb.size
    clear hb hs hBd hBr hBg
    go_upto_region 7 with fail
    go_cut [33] from 26 to 33 (fun v wx => ∃ q, v = .bool q ∧ q = decide (k < ts.length ∧ k < 20) ∧ wr = wx)
    case first => as_aux_lemma =>
      by_cases hmt : k < ts.length
      · have hmi : (k : Int) < ts.length := by omega
        by_cases h12 : k < 20
        · have g12 : decide ((k : Int) < 20) = true := by rw [decide_eq_true_iff]; omega
          go_wp2_with fail
          go_meet
          exact ⟨_, rfl, (decide_eq_true ⟨hmt, h12⟩).symm, rfl⟩
        · have g12 : decide ((k : Int) < 20) = false := by rw [decide_eq_false_iff_not]; omega
          go_wp2_with fail
          go_meet
          exact ⟨_, rfl, (decide_eq_false (fun h => h12 h.2)).symm, rfl⟩
      · have hmi : ¬ (k : Int) < ts.length := by omega
        go_wp2_with fail
        go_meet
        exact ⟨_, rfl, (decide_eq_false (fun h => hmt h.1)).symm, rfl⟩
    case rest =>
      obtain ⟨q, rfl, hq, rfl⟩ := hcut
      cases q with
      | true =>
        obtain ⟨hlt, h20⟩ := of_decide_eq_true hq.symm
        clear hq
        obtain ⟨bA, oA, cap0, he, hbA, _, _, hx⟩ := HF.out.1.some (by omega)
        cases he
        obtain ⟨⟨tv, tl⟩, hp⟩ : ∃ x, ts[k]? = some x := ⟨_, List.getElem?_eq_getElem hlt⟩
        have hca := HF.out.2.1 (tv, tl) (List.mem_of_getElem? hp)
        have ex : w.cell? ⟨bA, oA + k, none⟩ = some tv := hx k tv (by
          have := flat_at (fun x : Value × List Cv => [x.1]) 1 (fun _ => rfl) ts k 0 (by decide)
          rw [Nat.mul_one, Nat.add_zero] at this
          rw [this, hp]; rfl)
        obtain ⟨A1, cap1, hee, hc1, hm1⟩ := hca.1.len
        dsimp only at hee
        subst hee
        dsimp only at hc1
        have hcm1 := hm1
        unfold maxLen at hm1
        have hki : (k : Int) < ts.length := by omega
        have et := (HR.out.1.cell (p := ⟨bA, _, none⟩) hbA).trans ex
        have hbAr : bA < wr.heap.size := Nat.lt_of_lt_of_le hbA hle
        have HX := Lib.hid hca
        clear hca ex hx hp
        go_upto_region 9 with fail
        go_cut [12] from 36 to 46 (fun v wx => ∃ n12 : Nat, (n12 ≤ tl.length ∧ n12 ≤ 12) ∧ v = .slice A1 n12 cap1 ∧ Below wr.heap.size wr wx)
        case first => as_aux_lemma =>
          by_cases h12 : tl.length ≤ 12
          · refine wp_region_sub [] (fun W' => Below wr.heap.size wr W') (by kernel_rfl) (by kernel_rfl) ((Below.refl _ _).drew) (fun _ => ?_)
            iterate 12 (refine mix_read (by kernel_rfl) (by rfl) (by rfl) (by rfl) (of_decide_eq_true (by kernel_rfl)) ?_; apply Exists.intro; apply Exists.intro; refine ⟨fun w' hw' K hK => ?_, ?_, ?_⟩; (obtain ⟨X, rfl⟩ := hw'; go_wp2_with fail; first | exact ⟨rfl, rfl⟩ | exact rfl); rfl)
            refine mix_nil ?_
            go_wp2_with fail
            go_meet
            exact ⟨tl.length, ⟨by omega, by omega⟩, rfl, (Below.refl _ _).drew⟩
          · refine wp_region_sub [] (fun W' => Below wr.heap.size wr W') (by kernel_rfl) (by kernel_rfl) ((Below.refl _ _).drew) (fun _ => ?_)
            iterate 12 (refine mix_read (by kernel_rfl) (by rfl) (by rfl) (by rfl) (of_decide_eq_true (by kernel_rfl)) ?_; apply Exists.intro; apply Exists.intro; refine ⟨fun w' hw' K hK => ?_, ?_, ?_⟩; (obtain ⟨X, rfl⟩ := hw'; go_wp2_with fail; first | exact ⟨rfl, rfl⟩ | exact rfl); rfl)
            refine mix_nil ?_
            go_wp2_with fail
            go_meet
            exact ⟨12, ⟨by omega, by omega⟩, rfl, (Below.refl _ _).drew⟩
        case rest =>
          obtain ⟨n12, ⟨hn1, hn2⟩, rfl, hbw⟩ := hcut
          generalize hV : wc = V at *
          clear hV
          have hsl := cut_take HX.out.1 n12 hn1
          have hwf : ∀ c ∈ tl.take n12, 0 ≤ c.1 := fun c hc => (HX.out.2 c (List.mem_of_mem_take hc)).1.1
          have hll : (tl.take n12).length = n12 := by rw [List.length_take]; omega
          generalize tl.take n12 = l at hsl hwf hll
          subst hll
          have hbV := HR.out.1.trans (hbw.mono hle)
          have J := Lib.hid (And.intro hbV (And.intro (hsl.below hbV) (And.intro (HR.out.2.2.1.below hbw HR.out.2.2.1.lt) (And.intro (HR.out.2.2.2.1.below hbw HR.out.2.2.2.1.lt) (And.intro (HR.out.2.2.2.2.below hbw HR.out.2.2.2.2.lt) hwf)))))
          have hs := HR.out.2.1
          have hcl1 : l.length ≤ cap1 := by omega
          have HS := Lib.hid (And.intro hs hcm1)
          clear hsl hwf hbV hbw et hbAr HR HX hs hcm1
          go_wp2_with fail
          have hp := pick_drr (.slice A1 l.length cap1) _ _ last bd 5000 s l _ _ V J.out.2.1 (by omega) (by decide) HS.out.1 J.out.2.2.1 (cost_fn HF.out.2.2.1 J.out.2.2.2.2.1).upTo (weight_fn HF.out.2.2.2 J.out.2.2.2.2.1).upTo
          refine hp.mono ?_
          clear hp
          rintro e w3 ⟨hb, pick, no, mode, bx, s', rfl, hps, hok, hBx, _⟩
          simp only [chA]
          have zc := Blk.new w3 33 #[.int .i64 pick, .int .u64 no, .int .i64 mode, .pointer (some ⟨bx, 0, none⟩)]
          have hb4 := (Below.refl w3.heap.size w3).alloc (Nat.le_refl _) (.cells #[.int .i64 pick, .int .u64 no, .int .i64 mode, .pointer (some ⟨bx, 0, none⟩)] 33)
          go_upto_region 11 with fail
          generalize hg : w3.heap.size = g4 at zc ⊢
          generalize World.alloc _ _ = W4 at zc hb4 ⊢
          have hb24 := hb.trans (hb4.mono hb.size)
          have J4 := Lib.hid (And.intro (J.out.1.trans (hb24.mono J.out.1.size)) (And.intro (J.out.2.1.below hb24) (And.intro (J.out.2.2.2.1.below hb24 J.out.2.2.2.1.lt) (And.intro (J.out.2.2.2.2.1.below hb24 J.out.2.2.2.2.1.lt) (And.intro zc (And.intro (hBx.below hb4 hBx.lt) hps))))))
          have hwf := J.out.2.2.2.2.2
          have HWF := Lib.hid hwf
          clear hb hb4 hb24 zc hg hok hBx hps J hwf
          go_wp2_with fail
          refine (row_any _ _ W4 (cost_fn HF.out.2.2.1 J4.out.2.2.2.1)).mono ?_
          rintro e w5 ⟨rfl, hb5⟩
          go_wp2_with fail
          refine (row_any _ _ w5 (weight_fn HF.out.2.2.2 (J4.out.2.2.2.1.below hb5 J4.out.2.2.2.1.lt))).mono ?_
          rintro e w6 ⟨rfl, hb6⟩
          have hb46 := hb5.trans (hb6.mono hb5.size)
          have J6 := Lib.hid (And.intro (J4.out.1.trans (hb46.mono J4.out.1.size)) (And.intro (J4.out.2.1.below hb46) (And.intro (J4.out.2.2.1.below hb46 J4.out.2.2.1.lt) (And.intro (J4.out.2.2.2.1.below hb46 J4.out.2.2.2.1.lt) (And.intro (J4.out.2.2.2.2.1.below hb46 J4.out.2.2.2.2.1.lt) (And.intro (J4.out.2.2.2.2.2.1.below hb46 J4.out.2.2.2.2.2.1.lt) J4.out.2.2.2.2.2.2))))))
          clear hb5 hb6 hb46 J4
          go_wp2_with fail
          have hr := rpick_any A1 cap1 l last br 5000 s (upTo (plCost b0) 29) (upTo (plWeight b1) 29) w6 ⟨hcl1, HS.out.2⟩ J6.out.2.1 HWF.out (by omega) (by decide) HS.out.1 J6.out.2.2.1
          refine hr.mono ?_
          clear hr
          rintro e w7 ⟨hb, pick2, no2, mode2, bx2, s2, rfl, hps2, hok, hBx⟩
          obtain ⟨rfl, rfl, rfl, rfl⟩ := pickS_det J6.out.2.2.2.2.2.2 hps2
          simp only [chA]
          have zc := Blk.new w7 36 #[.int .i64 pick2, .int .u64 no2, .int .i64 mode2, .pointer (some ⟨bx2, 0, none⟩)]
          have hb8 := (Below.refl w7.heap.size w7).alloc (Nat.le_refl _) (.cells #[.int .i64 pick2, .int .u64 no2, .int .i64 mode2, .pointer (some ⟨bx2, 0, none⟩)] 36)
          go_upto_region 12 with fail
          generalize hg : w7.heap.size = g8 at zc ⊢
          generalize World.alloc _ _ = W8 at zc hb8 ⊢
          have hb68 := hb.trans (hb8.mono hb.size)
          have yc := J6.out.2.2.2.2.1.below hb68 J6.out.2.2.2.2.1.lt
          have J8 := Lib.hid (And.intro (J6.out.1.trans (hb68.mono J6.out.1.size)) (And.intro (J6.out.2.2.2.1.below hb68 J6.out.2.2.2.1.lt) (And.intro (J6.out.2.2.2.2.2.1.below hb68 J6.out.2.2.2.2.2.1.lt) (And.intro (hBx.below hb8 hBx.lt) (And.intro hok (And.intro yc zc))))))
          have a0 := yc.cell 0
          have a1 := yc.cell 1
          have a2 := yc.cell 2
          have a3 := yc.cell 3
          have c0 := zc.cell 0
          have c1 := zc.cell 1
          have c2 := zc.cell 2
          have c3 := zc.cell 3
          have la := yc.lt
          have lc := zc.lt
          simp only [List.getElem?_toArray, List.getElem?_cons_zero, List.getElem?_cons_succ] at a0 a1 a2 a3 c0 c1 c2 c3
          clear hb hb8 hb68 yc zc hg hok hBx hps2 J6
          go_wp2_with fail
          clear a0 a1 a2 a3 c0 c1 c2 c3
          go_loopg [15] 30 (fun gj p wx => ∃ m : Nat, m ≤ 30 ∧ 30 - m = gj ∧ p = .int .i64 (m : Nat) ∧ Below W8.heap.size W8 wx)
          case atStart => exact ⟨0, by omega, rfl, rfl, Below.refl _ _⟩
          case round =>
            obtain ⟨m, hm2, rfl, rfl, hbr⟩ := hrel
            by_cases hlt : m < 30
            · have h30 : decide ((m : Int) < 30) = true := by rw [decide_eq_true_iff]; omega
              have HX := Lib.hid (And.intro hbr (And.intro (J8.out.2.2.1.below hbr J8.out.2.2.1.lt) (J8.out.2.2.2.1.below hbr J8.out.2.2.2.1.lt)))
              clear hbr
              by_cases h0 : m = 0
              · subst h0
                go_upto_region 19 with fail
                refine wp_region_sub [9] (fun W => Below wr.heap.size wr W) (by kernel_rfl) (by kernel_rfl) ((Below.refl _ _).drew) (fun _ => ?_)
                iterate 3 (refine mix_read (by kernel_rfl) (by rfl) (by rfl) (by rfl) (of_decide_eq_true (by kernel_rfl)) ?_; apply Exists.intro; apply Exists.intro; refine ⟨fun w' hw' K hK => ?_, ?_, ?_⟩; (obtain ⟨X, rfl⟩ := hw'; go_wp2_with fail; first | exact ⟨rfl, rfl⟩ | exact rfl); rfl)
                iterate 2 (refine mix_skip (by kernel_rfl) ?_; simp only [Act.put, List.setIfInBounds_toArray, List.set_cons_succ, List.set_cons_zero])
                iterate 2 (refine mix_read (by kernel_rfl) (by rfl) (by rfl) (by rfl) (of_decide_eq_true (by kernel_rfl)) ?_; apply Exists.intro; apply Exists.intro; refine ⟨fun w' hw' K hK => ?_, ?_, ?_⟩; (obtain ⟨X, rfl⟩ := hw'; go_wp2_with fail; first | exact ⟨rfl, rfl⟩ | exact rfl); rfl)
                iterate 10 (refine mix_skip (by kernel_rfl) ?_; simp only [Act.put, List.setIfInBounds_toArray, List.set_cons_succ, List.set_cons_zero])
                iterate 1 (refine mix_read (by kernel_rfl) (by rfl) (by rfl) (by rfl) (of_decide_eq_true (by kernel_rfl)) ?_; apply Exists.intro; apply Exists.intro; refine ⟨fun w' hw' K hK => ?_, ?_, ?_⟩; (obtain ⟨X, rfl⟩ := hw'; go_wp2_with fail; first | exact ⟨rfl, rfl⟩ | exact rfl); rfl)
                refine mix_nil ?_
                go_wp2_with fail
                go_roundg (30 - (0 + 1))
                case measure => omega
                case rel => exact ⟨1, by omega, rfl, by go_num, HX.out.1.drew⟩
              · have g0 : decide ((0 : Int) < (m : Int)) = true := by rw [decide_eq_true_iff]; omega
                by_cases h29 : m = 29
                · subst h29
                  go_upto_region 19 with fail
                  refine wp_region_sub [9] (fun W => Below wr.heap.size wr W) (by kernel_rfl) (by kernel_rfl) ((Below.refl _ _).drew) (fun _ => ?_)
                  iterate 7 (refine mix_read (by kernel_rfl) (by rfl) (by rfl) (by rfl) (of_decide_eq_true (by kernel_rfl)) ?_; apply Exists.intro; apply Exists.intro; refine ⟨fun w' hw' K hK => ?_, ?_, ?_⟩; (obtain ⟨X, rfl⟩ := hw'; go_wp2_with fail; first | exact ⟨rfl, rfl⟩ | exact rfl); rfl)
                  iterate 10 (refine mix_skip (by kernel_rfl) ?_; simp only [Act.put, List.setIfInBounds_toArray, List.set_cons_succ, List.set_cons_zero])
                  iterate 1 (refine mix_read (by kernel_rfl) (by rfl) (by rfl) (by rfl) (of_decide_eq_true (by kernel_rfl)) ?_; apply Exists.intro; apply Exists.intro; refine ⟨fun w' hw' K hK => ?_, ?_, ?_⟩; (obtain ⟨X, rfl⟩ := hw'; go_wp2_with fail; first | exact ⟨rfl, rfl⟩ | exact rfl); rfl)
                  refine mix_nil ?_
                  go_wp2_with fail
                  go_roundg (30 - (29 + 1))
                  case measure => omega
                  case rel => exact ⟨30, by omega, rfl, by go_num, HX.out.1.drew⟩
                · have g29 : decide ((m : Int) < 29) = true := by rw [decide_eq_true_iff]; omega
                  have hm29 : (m : Int) < 29 := by omega
                  have hm0 : (0 : Int) < m := by omega
                  have hmn : m < 29 := by omega
                  have hmp : 0 < m := by omega
                  have e1 := (HX.out.2.2.cell (1 + m)).trans (dCells_df _ _ _ _ _ (by omega))
                  have lr := HX.out.2.2.lt
                  have hdef : defOf s2.1 m = s2.1 m := by unfold defOf; rw [if_pos (by omega)]; simp
                  have HD := Lib.hid hdef
                  clear hdef
                  generalize hdd : s2.1 m = dd at e1 HD
                  clear hdd
                  go_upto_region 19 with fail
                  refine wp_region_sub [9] (fun W => Below wr.heap.size wr W) (by kernel_rfl) (by kernel_rfl) ((Below.refl _ _).drew) (fun _ => ?_)
                  iterate 9 (refine mix_read (by kernel_rfl) (by rfl) (by rfl) (by rfl) (of_decide_eq_true (by kernel_rfl)) ?_; apply Exists.intro; apply Exists.intro; refine ⟨fun w' hw' K hK => ?_, ?_, ?_⟩; (obtain ⟨X, rfl⟩ := hw'; go_wp2_with fail; first | exact ⟨rfl, rfl⟩ | exact rfl); rfl)
                  (refine mix_act (by rfl) (by rfl) (fun K hK => ?_))
                  go_wp2_with fail
                  refine (Deficit_any bx _ _ _ _ _ _ HX.out.2.1.drew).mono ?_
                  rintro e w' ⟨rfl, rfl⟩
                  rw [HD.out]
                  go_wp2_with fail
                  refine ⟨.mk ((Below.refl _ _).drew), ?_⟩
                  iterate 8 (refine mix_read (by kernel_rfl) (by rfl) (by rfl) (by rfl) (of_decide_eq_true (by kernel_rfl)) ?_; apply Exists.intro; apply Exists.intro; refine ⟨fun w' hw' K hK => ?_, ?_, ?_⟩; (obtain ⟨X, rfl⟩ := hw'; go_wp2_with fail; first | exact ⟨rfl, rfl⟩ | exact rfl); rfl)
                  refine mix_nil ?_
                  go_wp2_with fail
                  go_roundg (30 - (m + 1))
                  case measure => omega
                  case rel => exact ⟨m + 1, by omega, rfl, by go_num, HX.out.1.drew⟩
            · obtain rfl : m = 30 := by omega
              have h30 : decide (((30 : Nat) : Int) < 30) = false := by decide
              have hyc := J8.out.2.2.2.2.2.1.below hbr J8.out.2.2.2.2.2.1.lt
              have a0 := hyc.cell 0
              have lyc := hyc.lt
              simp only [List.getElem?_toArray, List.getElem?_cons_zero, List.getElem?_cons_succ] at a0
              have HX := Lib.hid (And.intro (J8.out.1.trans (hbr.mono J8.out.1.size)) (And.intro (J8.out.2.1.below hbr J8.out.2.1.lt) (And.intro (J8.out.2.2.1.below hbr J8.out.2.2.1.lt) (And.intro (J8.out.2.2.2.1.below hbr J8.out.2.2.2.1.lt) J8.out.2.2.2.2.1))))
              clear hbr hyc
              go_wp2_with fail
              go_roundg (ts.length - (k + 1))
              case measure => omega
              case rel => exact ⟨k + 1, bx, bx2, s2, pick2, ⟨by omega, by omega⟩, rfl, by go_num, rfl, rfl, rfl, HX.out.1, HX.out.2.2.2.2, HX.out.2.2.1, HX.out.2.2.2.1, HX.out.2.1⟩
      | false =>
        clear hq
        go_wp2_with fail
        refine (works_yes _).mono ?_
        rintro e wz ⟨rfl, hb⟩
        have HB := Lib.hid hb
        clear hb
        go_wp2_with fail
        go_ret
        exact ⟨rfl, HR.out.1.trans (HB.out.mono hle)⟩

theorem PickPlays_walk (v0 v1 v2 : Value) (W : World) (c0 : Came Try.prog W 22 v0) (c1 : Came Try.prog W 3 v1) (c2 : Came Try.prog W 24 v2) :
    Calls Try.prog 3 #[v0, v1, v2] W fun e w' => e = .returned (.bool true) ∧ Below W.heap.size W w' := by
  obtain ⟨ts, h1, h2⟩ := came_turns c0
  obtain ⟨A, cap, rfl, hc, hm⟩ := h1.len
  obtain ⟨last, rfl, _⟩ := c1.int Try.underlying3
  obtain ⟨cs, rfl, htr⟩ := c2.array Try.underlying24
  obtain ⟨hlen, hf⟩ := htr.array Try.underlying24
  rw [show Try.prog.cellsOf 24 = 2 by kernel_rfl] at hlen
  rw [show Try.prog.cellsOf 23 = 1 by kernel_rfl] at hf
  obtain ⟨x, hx, hwx⟩ := (hf 0 (by decide)).int Try.underlying23
  obtain ⟨y, hy, hwy⟩ := (hf 1 (by decide)).int Try.underlying23
  obtain ⟨cl⟩ := cs
  match cl, hlen with
  | [p, r], _ =>
    simp at hx hy
    subst hx hy
    refine plays_any A cap ts last x y W ⟨hc, hm⟩ h1 h2 ?_ ?_
    · simp [Lit.wf, IntKind.min, IntKind.max, IntKind.signed, IntKind.bits] at hwx; omega
    · simp [Lit.wf, IntKind.min, IntKind.max, IntKind.signed, IntKind.bits] at hwy; omega

end Go.Proofs.Ytnhbcpopnhdhiaa
