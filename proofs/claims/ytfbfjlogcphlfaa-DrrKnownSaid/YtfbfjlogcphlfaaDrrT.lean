/- DrrKnown. -/
import Derived.Test.YtfbfjlogcphlfaaDrrS
set_option linter.unusedSimpArgs false
set_option linter.unusedVariables false
namespace Go.Proofs.Ytfbfjlogcphlfaa
open Go.RowKit

theorem got_same (W : World) : (Op.equalIn 10000 50 (.agg (gCells 8)) (.agg #[.int .i64 1, .int .i64 28, .int .i64 28, .int .i64 28, .int .i64 1, .int .i64 28, .int .i64 28, .int .i64 28])).run Try.prog W = .ok true W := by
  have h := run_equalIn_ints (P := Try.prog) W 9998 50 3 8 .i64 Try.underlying50 Try.underlying3 (fun w => by kernel_rfl) [1, 28, 28, 28, 1, 28, 28, 28] [1, 28, 28, 28, 1, 28, 28, 28] rfl rfl
  rw [beq_self_eq_true] at h
  exact h

attribute [local irreducible] keSt knSt

/-- The tables of the second half. -/
structure Tabs (w wr : World) : Prop where
  below : Below w.heap.size w wr
  cost : Blk wr w.heap.size 30 (iCells knCost2)
  weight : Blk wr (w.heap.size + 1) 30 (iCells knWeight)
theorem Tabs.on {w wr w' : World} (h : Tabs w wr) (hb : Below wr.heap.size wr w') : Tabs w w' := ⟨h.below.trans (hb.mono h.below.size), h.cost.below hb h.cost.lt, h.weight.below hb h.weight.lt⟩
theorem Below.of_alloc {w w' : World} {o : Obj} (h : Below (w.alloc o).heap.size (w.alloc o) w') : Below w.heap.size w w' := ((Below.refl _ w).alloc (Nat.le_refl _) _).trans (h.mono (by simp))

set_option maxRecDepth 100000 in
set_option maxHeartbeats 4000000 in
theorem DrrKnown_walk (w : World) :
    Calls Try.prog 7 #[] w fun e w' => e = .returned (.bool true) ∧ Below w.heap.size w w' := by
  go_enter Try.func7, Try.ntmps7
  go_wp2_with fail
  generalize hW0 : World.alloc _ _ = W0
  have hb0 : Below w.heap.size w W0 := by rw [← hW0]; exact ((Below.refl _ _).alloc (Nat.le_refl _) _).alloc (by simp) _
  have y1 : Blk W0 w.heap.size 30 (iCells (low 1000 0)) := by rw [← hW0]; exact (Blk.new _ _ _).alloc _
  have y2 : Blk W0 (w.heap.size + 1) 30 (iCells (low 1 0)) := by rw [← hW0]; exact (Blk.new (w.alloc _) _ _).same_g (by simp)
  clear hW0
  have HY := Lib.hid (And.intro hb0 (And.intro y1 y2))
  clear hb0 y1 y2
  go_loopw [4] (fun i wr => ∃ k : Nat, k ≤ 29 ∧ i = .int .i64 k ∧ Below w.heap.size w wr ∧ Blk wr w.heap.size 30 (iCells (low 1000 k)) ∧ Blk wr (w.heap.size + 1) 30 (iCells (low 1 k)))
    (fun i _ => 29 - (intOf i).toNat)
  case atStart => exact ⟨0, by omega, rfl, HY.out.1, HY.out.2.1, HY.out.2.2⟩
  case round =>
    clear HY
    obtain ⟨k, hk, rfl, hbr, y1, y2⟩ := hrel
    by_cases hlt : k < 29
    · have c1 := (y1.cell k).trans (iCells_at _ _ hlt)
      have c2 := (y2.cell k).trans (iCells_at _ _ hlt)
      have f1 := y1.frozen k
      have f2 := y2.frozen k
      have hl2 := y2.lt
      have HX := Lib.hid (And.intro hbr (And.intro y1 y2))
      clear hbr y1 y2
      go_wp2_with fail
      go_roundw
      case rel =>
        obtain ⟨hbr, y1, y2⟩ := HX.out
        refine ⟨k + 1, by omega, by go_num, ?_, ?_, ?_⟩
        · exact (hbr.setCell (p := ⟨w.heap.size, k, none⟩) (by simp) _).setCell (p := ⟨w.heap.size + 1, k, none⟩) (by simp) _
        · rw [← low_next, ← iCells_set _ _ _ hlt]; exact (y1.set_ k _).far (p := ⟨w.heap.size + 1, k, none⟩) (by simp) _
        · rw [← low_next, ← iCells_set _ _ _ hlt]; exact (y2.far (p := ⟨w.heap.size, k, none⟩) (by simp) _).set_ k _
      case measure => simp [intOf]; omega
    · obtain rfl : k = 29 := by omega
      have c2 := (y2.cell 28).trans (iCells_at _ _ (by omega))
      have f2 := y2.frozen 28
      have hl2 := y2.lt
      have HX := Lib.hid (And.intro hbr (And.intro y1 y2))
      clear hbr y1 y2
      go_wp2_with fail
      obtain ⟨hbr, y1, y2⟩ := HX.out
      have z1 : Blk (wr.setCell ⟨w.heap.size + 1, 28, none⟩ (.int .i64 3)) w.heap.size 30 (iCells knCost) :=
        (y1.far (p := ⟨w.heap.size + 1, 28, none⟩) (by simp) _).same (iCells_ext fun j hj => by simp [low, knCost, hj])
      have z2 : Blk (wr.setCell ⟨w.heap.size + 1, 28, none⟩ (.int .i64 3)) (w.heap.size + 1) 30 (iCells knWeight) := by
        refine (y2.set_ 28 _).same ?_
        rw [iCells_set _ _ _ (by omega)]
        exact iCells_ext fun j hj => by simp [upd, low, knWeight, hj]
      have hbr2 : Below w.heap.size w (wr.setCell ⟨w.heap.size + 1, 28, none⟩ (.int .i64 3)) := hbr.setCell (p := ⟨w.heap.size + 1, 28, none⟩) (by simp) _
      generalize hW1 : World.setCell _ _ _ = W1 at *
      clear hW1 y1 y2 hbr HX c2 f2 hl2
      clear wr
      have HZ := Lib.hid (And.intro hbr2 (And.intro z1 z2))
      clear hbr2 z1 z2
      refine (New_yes _ _ (by omega)).mono ?_
      rintro e w3 ⟨rfl, hb4, hx1⟩
      obtain ⟨hbr, z1, z2⟩ := HZ.out
      have hbr3 := hbr.trans (hb4.mono hbr.size)
      have z13 := z1.below hb4 z1.lt
      have z23 := z2.below hb4 z2.lt
      generalize W1.heap.size = bd0 at *
      have hx1' : Blk w3 bd0 52 (dCells 1000 (knSt 0).1 (knSt 0).2.1 (knSt 0).2.2) := hx1.same (by unfold knSt; rfl)
      clear HZ hbr z1 z2 hb4 hx1
      have HZ := Lib.hid (And.intro hbr3 (And.intro z13 (And.intro z23 hx1')))
      have hwl : w.heap.size + 1 < w3.heap.size := z23.lt
      clear hbr3 z13 z23 hx1'
      clear W1
      go_wp2_with fail
      obtain ⟨hbr, z1, z2, zd⟩ := HZ.out
      have hb0 : Below w3.heap.size w3 (w3.alloc (.cells (gCells 0) 50)) := (Below.refl _ _).alloc (Nat.le_refl _) _
      have hb2 : Below w.heap.size w (w3.alloc (.cells (gCells 0) 50)) := hbr.trans (hb0.mono hbr.size)
      have x1 := z1.below hb0 z1.lt
      have x2 := z2.below hb0 z2.lt
      have xd := zd.below hb0 zd.lt
      have xg := Blk.new w3 50 (gCells 0)
      have hD : Dok (knSt 0).1 := fun m => by unfold knSt; simp
      have hP : 1 ≤ (knSt 0).2.1 ∧ (knSt 0).2.1 ≤ 28 := by unfold knSt; decide
      obtain ⟨bg, hbg⟩ : ∃ bg, bg = w3.heap.size := ⟨_, rfl⟩
      have HR := Lib.hid (And.intro hb2 (And.intro x1 (And.intro x2 (And.intro xd (And.intro (xg.same_g hbg.symm) (And.intro hD hP))))))
      have hbgw : w.heap.size + 1 < bg := by omega
      rw [← hbg] at *
      clear hb0 hb2 x1 x2 xd xg hD hP hbr z1 z2 zd HZ
      go_loopw [5, 7] (fun d i wr => ∃ (k b : Nat), k ≤ 8 ∧ i = .int .i64 k ∧ d = .pointer (some ⟨b, 0, none⟩) ∧ Below w.heap.size w wr ∧ Blk wr w.heap.size 30 (iCells knCost) ∧ Blk wr (w.heap.size + 1) 30 (iCells knWeight) ∧
          Blk wr b 52 (dCells 1000 (knSt k).1 (knSt k).2.1 (knSt k).2.2) ∧ Blk wr bg 50 (gCells k) ∧ Dok (knSt k).1 ∧ (1 ≤ (knSt k).2.1 ∧ (knSt k).2.1 ≤ 28))
        (fun _ i _ => 8 - (intOf i).toNat)
      case atStart => exact ⟨0, bd0, by omega, rfl, rfl, HR.out.1, HR.out.2.1, HR.out.2.2.1, HR.out.2.2.2.1, HR.out.2.2.2.2.1, HR.out.2.2.2.2.2.1, HR.out.2.2.2.2.2.2⟩
      case round =>
        clear HR
        obtain ⟨k, b, hk, rfl, rfl, hbr, z1, z2, zd, zg, hD, hP⟩ := hrel
        by_cases hlt : k < 8
        · have HX := Lib.hid (And.intro hbr (And.intro z1 (And.intro z2 (And.intro zd (And.intro zg (And.intro hD hP))))))
          have hk8 : (k : Int) < 8 := by omega
          clear hbr zd zg hD hP
          go_wp2_with (first
            | (refine wpList_load_row rfl 30 (.tmp 2) rfl _ rfl 30 (iCells knCost) (0, 0) _ (z1.alloc _) Try.underlying30 rfl (by rw [iCells_size]; kernel_rfl) ?_)
            | (refine wpList_load_row rfl 30 (.tmp 3) rfl _ rfl 30 (iCells knWeight) (0, 0) _ (z2.alloc _) Try.underlying30 rfl (by rw [iCells_size]; kernel_rfl) ?_))
          obtain ⟨hbr, z1, z2, zd, zg, hD, hP⟩ := HX.out
          refine (next_step b _ 1000 (knSt k) hP (by omega) hD (zd.alloc _) (some ⟨wr.heap.size, 0, none⟩) 6 6 [1, 28, 28, 0, 99, -3] rfl (by omega) ((rd_lit wr 3 [1, 28, 28, 0, 99, -3]).more (by simp)) knCost knWeight _ _ (of_fn knCost) (of_fn knWeight) (by decide) (kn_some k hlt)).mono ?_
          rintro e w2 ⟨hbb, bx, rfl, hle, hx, hdo, hpp⟩
          have hst : stepS 1000 [1, 28, 28, 0, 99, -3] knCost knWeight (knSt k) = knSt (k + 1) := (knSt_succ k).symm
          rw [hst] at hx hdo hpp
          rw [hst]
          rw [kn_mode k hlt]
          have hbw : Below wr.heap.size wr w2 := (Below.refl _ wr).alloc (Nat.le_refl _) _ |>.trans (hbb.mono (by simp))
          simp only [World.size_alloc] at hle
          have zg2 := zg.below hbw zg.lt
          have hzg := zg.lt
          have cg := zg2.cell k
          rw [show (gCells k)[k]? = some (.int .i64 0) by simp [gCells, hlt]] at cg
          have fg := zg2.frozen k
          have HY := Lib.hid (And.intro (hbr.trans (hbw.mono hbr.size)) (And.intro (z1.below hbw z1.lt) (And.intro (z2.below hbw z2.lt) (And.intro hx (And.intro zg2 (And.intro hdo hpp))))))
          clear hst hbr z1 z2 zd zg hD hP hbb hx hdo hpp hbw zg2 HX
          go_wp2_with fail
          go_roundw
          case rel =>
            obtain ⟨hbr, z1, z2, hx, zg2, hdo, hpp⟩ := HY.out
            refine ⟨k + 1, bx, by omega, by go_num, rfl, hbr.setCell (p := ⟨bg, k, none⟩) (by simp; omega) _, z1.far (p := ⟨bg, k, none⟩) (by simp; omega) _, z2.far (p := ⟨bg, k, none⟩) (by simp; omega) _, hx.far (p := ⟨bg, k, none⟩) (by simp; omega) _, (zg2.set_ k _).same (gCells_set k hlt), hdo, hpp⟩
          case measure => simp [intOf]; omega
        · obtain rfl : k = 8 := by omega
          have heq := got_same
          have c1 := (z1.cell 7).trans (iCells_at _ _ (by omega))
          have f1 := z1.frozen 7
          have HX := Lib.hid (And.intro hbr (And.intro z1 z2))
          clear hbr zd z1 z2 hD hP
          go_wp2_with (refine wpList_load_row rfl 50 (.tmp 6) rfl _ rfl 50 (gCells 8) (0, 0) _ zg Try.underlying50 rfl (by rw [gCells_size]; kernel_rfl) ?_)
          obtain ⟨hbr, z1, z2⟩ := HX.out
          have T1 : Tabs w (wr.setCell ⟨w.heap.size, 7, none⟩ (.int .i64 2500)) := by
            refine ⟨hbr.setCell (p := ⟨w.heap.size, 7, none⟩) (by simp) _, ?_, z2.far (p := ⟨w.heap.size, 7, none⟩) (by simp) _⟩
            refine (z1.set_ 7 _).same ?_
            rw [iCells_set _ _ _ (by omega)]
            exact iCells_ext fun j hj => by simp [upd, knCost, knCost2]
          generalize World.setCell _ _ _ = W1 at *
          clear hbr z1 z2 HX c1 f1 heq zg
          refine (New_yes _ _ (by omega)).mono ?_
          rintro e w1 ⟨rfl, hb1, x1⟩
          have T2 := T1.on hb1
          clear T1 hb1
          generalize W1.heap.size = b1 at *
          have x1 : Blk w1 b1 52 (dCells 1000 (keSt 0).1 (keSt 0).2.1 (keSt 0).2.2) := x1.same (by unfold keSt; rfl)
          have hD1 : Dok (keSt 0).1 := fun m => by unfold keSt; simp
          have hP1 : 1 ≤ (keSt 0).2.1 ∧ (keSt 0).2.1 ≤ 28 := by unfold keSt; decide
          have H1 := Lib.hid (And.intro hD1 (And.intro hP1 (And.intro T2 x1)))
          clear hD1 hP1 x1
          go_wp2_with (first
            | (refine wpList_load_row rfl 30 (.tmp 2) rfl _ rfl 30 (iCells knCost2) (0, 0) _ (T2.cost.alloc _) Try.underlying30 rfl (by rw [iCells_size]; kernel_rfl) ?_)
            | (refine wpList_load_row rfl 30 (.tmp 3) rfl _ rfl 30 (iCells knWeight) (0, 0) _ (T2.weight.alloc _) Try.underlying30 rfl (by rw [iCells_size]; kernel_rfl) ?_))
          refine (next_step b1 _ 1000 (keSt 0) H1.out.2.1 (by omega) H1.out.1 (H1.out.2.2.2.alloc _) (some ⟨w1.heap.size, 0, none⟩) 2 2 [6, 7] rfl (by omega) ((rd_lit w1 3 [6, 7]).more (by simp)) knCost2 knWeight _ _ (of_fn knCost2) (of_fn knWeight) (by decide) ke_some0).mono ?_
          rintro e w2 ⟨hbb, b2, rfl, hle, hx, hd, hp⟩
          rw [← keSt_1] at hx hd hp
          have T3 := T2.on (Below.of_alloc hbb)
          have H2 := Lib.hid (And.intro hd (And.intro hp (And.intro T3 hx)))
          clear hbb hle H1 T2 hx hd hp
          generalize (stepS 1000 [6, 7] knCost2 knWeight (keSt 0)).2.1 = m0
          go_wp2_with (first
            | (refine wpList_load_row rfl 30 (.tmp 2) rfl _ rfl 30 (iCells knCost2) (0, 0) _ (T3.cost.alloc _) Try.underlying30 rfl (by rw [iCells_size]; kernel_rfl) ?_)
            | (refine wpList_load_row rfl 30 (.tmp 3) rfl _ rfl 30 (iCells knWeight) (0, 0) _ (T3.weight.alloc _) Try.underlying30 rfl (by rw [iCells_size]; kernel_rfl) ?_))
          refine (next_step b2 _ 1000 (keSt 1) H2.out.2.1 (by omega) H2.out.1 (H2.out.2.2.2.alloc _) (some ⟨w2.heap.size, 0, none⟩) 2 2 [6, 7] rfl (by omega) ((rd_lit w2 3 [6, 7]).more (by simp)) knCost2 knWeight _ _ (of_fn knCost2) (of_fn knWeight) (by decide) ke_some1).mono ?_
          rintro e w3 ⟨hbb, b3, rfl, hle, hx, hd, hp⟩
          rw [← keSt_2] at hx hd hp
          have T4 := T3.on (Below.of_alloc hbb)
          have H3 := Lib.hid (And.intro hd (And.intro hp (And.intro T4 hx)))
          clear hbb hle H2 T3 hx hd hp
          generalize (stepS 1000 [6, 7] knCost2 knWeight (keSt 1)).2.1 = m1
          go_wp2_with fail
          refine (Deficit_any b3 _ _ _ _ _ _ H3.out.2.2.2).mono ?_
          rintro e w' ⟨rfl, rfl⟩
          rw [show defOf (keSt 2).1 7 = 1000 from ke_a]
          go_wp2_with (first
            | (refine wpList_load_row rfl 30 (.tmp 2) rfl _ rfl 30 (iCells knCost2) (0, 0) _ (T4.cost.alloc _) Try.underlying30 rfl (by rw [iCells_size]; kernel_rfl) ?_)
            | (refine wpList_load_row rfl 30 (.tmp 3) rfl _ rfl 30 (iCells knWeight) (0, 0) _ (T4.weight.alloc _) Try.underlying30 rfl (by rw [iCells_size]; kernel_rfl) ?_))
          refine (next_step b3 _ 1000 (keSt 2) H3.out.2.1 (by omega) H3.out.1 (H3.out.2.2.2.alloc _) (some ⟨w3.heap.size, 0, none⟩) 1 1 [6] rfl (by omega) ((rd_lit w3 3 [6]).more (by simp)) knCost2 knWeight _ _ (of_fn knCost2) (of_fn knWeight) (by decide) ke_some2).mono ?_
          rintro e w4 ⟨hbb, b4, rfl, hle, hx, hd, hp⟩
          rw [← keSt_3] at hx hd hp
          have T5 := T4.on (Below.of_alloc hbb)
          have H4 := Lib.hid (And.intro hd (And.intro hp (And.intro T5 hx)))
          clear hbb hle H3 T4 hx hd hp
          generalize (stepS 1000 [6] knCost2 knWeight (keSt 2)).2.1 = m2
          go_wp2_with fail
          refine (Deficit_any b4 _ _ _ _ _ _ H4.out.2.2.2).mono ?_
          rintro e w' ⟨rfl, rfl⟩
          rw [show defOf (keSt 3).1 7 = 0 from ke_b]
          go_wp2_with (first
            | (refine wpList_load_row rfl 30 (.tmp 2) rfl _ rfl 30 (iCells knCost2) (0, 0) _ (T5.cost.alloc _) Try.underlying30 rfl (by rw [iCells_size]; kernel_rfl) ?_)
            | (refine wpList_load_row rfl 30 (.tmp 3) rfl _ rfl 30 (iCells knWeight) (0, 0) _ (T5.weight.alloc _) Try.underlying30 rfl (by rw [iCells_size]; kernel_rfl) ?_))
          refine (Next_nil _ _ _ _ _ _).mono ?_
          rintro e w5 ⟨rfl, hbb⟩
          have T6 := T5.on (Below.of_alloc hbb)
          have x5 := (H4.out.2.2.2.alloc _).below hbb (H4.out.2.2.2.alloc _).lt
          have H5 := Lib.hid (And.intro x5 T6)
          clear hbb x5 T5
          go_wp2_with (first
            | (refine wpList_load_row rfl 30 (.tmp 2) rfl _ rfl 30 (iCells knCost2) (0, 0) _ (T6.cost.alloc _) Try.underlying30 rfl (by rw [iCells_size]; kernel_rfl) ?_)
            | (refine wpList_load_row rfl 30 (.tmp 3) rfl _ rfl 30 (iCells knWeight) (0, 0) _ (T6.weight.alloc _) Try.underlying30 rfl (by rw [iCells_size]; kernel_rfl) ?_))
          refine (Next_nocost _ _ _ _ _ _).mono ?_
          rintro e w6 ⟨rfl, hbb⟩
          have T7 := T6.on (Below.of_alloc hbb)
          have x6 := (H5.out.1.alloc _).below hbb (H5.out.1.alloc _).lt
          have H6 := Lib.hid (And.intro x6 T7)
          clear hbb x6 T6
          go_wp2_with (first
            | (refine wpList_load_row rfl 30 (.tmp 2) rfl _ rfl 30 (iCells knCost2) (0, 0) _ (T7.cost.alloc _) Try.underlying30 rfl (by rw [iCells_size]; kernel_rfl) ?_)
            | (refine wpList_load_row rfl 30 (.tmp 3) rfl _ rfl 30 (iCells knWeight) (0, 0) _ (T7.weight.alloc _) Try.underlying30 rfl (by rw [iCells_size]; kernel_rfl) ?_))
          refine (Next_noweight _ _ _ _ _ _ _ _).mono ?_
          rintro e w7 ⟨rfl, hbb⟩
          have T8 := T7.on (Below.of_alloc hbb)
          have x7 := (H6.out.1.alloc _).below hbb (H6.out.1.alloc _).lt
          have H7 := Lib.hid (And.intro x7 T8)
          have hps := ptr_same
          clear hbb x7 T7 T8
          go_wp2_with fail
          refine (works_any _).mono ?_
          rintro e w8 ⟨rfl, hbb⟩
          have H8 := Lib.hid (And.intro (H7.out.1.below hbb H7.out.1.lt) (H7.out.2.on hbb))
          clear hbb
          go_wp2_with fail
          refine (Deficit_nil _ _).mono ?_
          rintro e w' ⟨rfl, rfl⟩
          go_wp2_with fail
          refine (Deficit_any b4 _ _ _ _ _ _ H8.out.1).mono ?_
          rintro e w' ⟨rfl, rfl⟩
          rw [show defOf (keSt 3).1 (-1) = 0 from rfl]
          go_wp2_with fail
          refine (Deficit_any b4 _ _ _ _ _ _ H8.out.1).mono ?_
          rintro e w' ⟨rfl, rfl⟩
          rw [show defOf (keSt 3).1 29 = 0 from rfl]
          go_wp2_with fail
          refine (New_no _ _ (by omega)).mono ?_
          rintro e w' ⟨rfl, rfl⟩
          go_wp2_with fail
          refine (New_yes _ _ (by omega)).mono ?_
          rintro e w9 ⟨rfl, hbb, _⟩
          have H9 := Lib.hid (H8.out.2.on hbb)
          clear hbb
          go_wp2_with fail
          refine (New_no _ _ (by omega)).mono ?_
          rintro e w' ⟨rfl, rfl⟩
          go_wp2_with fail
          go_ret
          exact ⟨rfl, H9.out.below⟩

end Go.Proofs.Ytfbfjlogcphlfaa
