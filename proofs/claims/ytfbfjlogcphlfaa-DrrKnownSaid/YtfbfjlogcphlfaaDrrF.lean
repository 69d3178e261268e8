import Derived.Test.YtfbfjlogcphlfaaDrrE
import Derived.LaidEqlPtr
set_option linter.unusedSimpArgs false
set_option linter.unusedVariables false
namespace Go.Proofs.Ytfbfjlogcphlfaa
open Go.RowKit

abbrev St := (Nat → Int) × Nat × Bool
/-- The next state of a sharer, reckoned. -/
def stepS (q : Int) (zs : List Int) (cost weight : Nat → Int) (s : St) : St := (nextF q (wants zs) cost weight 2000 s.1 s.2.1 s.2.2).getD s
theorem stepS_of {q : Int} {zs : List Int} {cost weight : Nat → Int} {s r : St} (h : NextR q (wants zs) cost weight s.1 s.2.1 s.2.2 r) (hs : (nextF q (wants zs) cost weight 2000 s.1 s.2.1 s.2.2).isSome = true) : r = stepS q zs cost weight s := by
  unfold stepS
  cases hn : nextF q (wants zs) cost weight 2000 s.1 s.2.1 s.2.2 with
  | none => rw [hn] at hs; cases hs
  | some r' => exact h.det ⟨2000, hn⟩

def wkCost : Nat → Int := fun m => if m = 2 then 600 else if m = 5 then 1000 else 0
def wkWeight : Nat → Int := fun _ => 0
def wkSt : Nat → St
  | 0 => (fun _ => 0, 1, false)
  | n + 1 => stepS 1000 [5, 2] wkCost wkWeight (wkSt n)
def wkMode : Nat → Int
  | 0 => 2 | 1 => 5 | 2 => 2 | _ => 2
def wkLeft : Nat → Int
  | 0 => 400 | 1 => 400 | 2 => 800 | _ => 200

theorem wk_some : ∀ i, i < 4 → (nextF 1000 (wants [5, 2]) wkCost wkWeight 2000 (wkSt i).1 (wkSt i).2.1 (wkSt i).2.2).isSome = true := by decide +kernel
theorem wk_mode : ∀ i, i < 4 → ((wkSt (i + 1)).2.1 : Int) = wkMode i := by decide +kernel
theorem wk_left : ∀ i, i < 4 → (wkSt (i + 1)).1 2 = wkLeft i := by decide +kernel

theorem drr_info : (Try.prog.info? 52).isSome = true := by kernel_rfl
theorem ptr_same (a : Addr) (w : World) : (binOp .eql 25 (.pointer (some a)) (.pointer (some a))).run Try.prog w = .ok (.bool true) w := by
  obtain ⟨j, hj⟩ := Option.isSome_iff_exists.1 drr_info
  exact run_eql_ptr_same w a Try.underlying25 hj

theorem iCells_size (f : Nat → Int) : (iCells f).size = 29 := by simp [iCells]
theorem iCells_one (f : Nat → Int) : (iCells f).all (·.oneCell') = true := by
  refine Array.all_eq_true_iff_forall_mem.2 (fun v hv => ?_)
  simp only [iCells, List.mem_toArray, List.mem_map] at hv
  obtain ⟨i, _, rfl⟩ := hv; rfl

theorem rd_two (W : World) (t : TypeId) (x y : Int) : Rd (W.alloc (.cells #[.int .i64 x, .int .i64 y] t)) (W.heap.size + 1) (some ⟨W.heap.size, 0, none⟩) ([x, y].map (Value.int .i64)) := by
  refine .inr ⟨_, _, rfl, by omega, fun j u hj => ?_⟩
  rw [(Blk.new W t _).cell]
  match j with
  | 0 => simpa using hj
  | 1 => simpa using hj
  | j + 2 => simp at hj

set_option maxRecDepth 100000 in
set_option maxHeartbeats 1000000 in
theorem works_any (w : World) : Calls Try.prog 10 #[] w fun e w' => e = .returned (.bool true) ∧ Below w.heap.size w w' := by
  go_enter Try.func10, Try.ntmps10
  go_wp2_with fail
  refine (New_yes _ _ (by omega)).mono ?_
  rintro e w1 ⟨rfl, hb1, hx1⟩
  go_wp2_with fail
  generalize hW0 : World.alloc _ _ = W0
  have hsz0 : W0.heap.size = w1.heap.size + 4 := by rw [← hW0]; simp
  have hb0 : Below w1.heap.size w1 W0 := by rw [← hW0]; exact ((((Below.refl _ _).alloc (Nat.le_refl _) _).alloc (by simp) _).alloc (by simp; omega) _).alloc (by simp; omega) _
  have hk0 : Blk W0 w1.heap.size 30 (iCells wkCost) := by rw [← hW0]; exact (((Blk.new _ _ _).alloc _).alloc _).alloc _
  have hk1 : Blk W0 (w1.heap.size + 1) 30 (iCells wkWeight) := by rw [← hW0]; exact (((Blk.new (w1.alloc _) _ _).same_g (by simp)).alloc _).alloc _
  have hk2 : Blk W0 (w1.heap.size + 1 + 1) 55 #[.int .i64 2, .int .i64 5, .int .i64 2, .int .i64 2] := by rw [← hW0]; exact ((Blk.new ((w1.alloc _).alloc _) _ _).same_g (by simp)).alloc _
  have hk3 : Blk W0 (w1.heap.size + 1 + 1 + 1) 55 #[.int .i64 400, .int .i64 400, .int .i64 800, .int .i64 200] := by rw [← hW0]; exact (Blk.new (((w1.alloc _).alloc _).alloc _) _ _).same_g (by simp)
  have hx0 : Blk W0 w.heap.size 52 (dCells 1000 (wkSt 0).1 (wkSt 0).2.1 (wkSt 0).2.2) := hx1.below hb0 hx1.lt
  have hbw : Below w.heap.size w W0 := hb1.trans (hb0.mono hb1.size)
  have hle1 := hb1.size
  have hD : Dok (wkSt 0).1 := fun m => by simp [wkSt]
  clear hW0 hb1 hx1 hb0
  go_loopw [1, 6] (fun d i wr => ∃ (k b : Nat), k ≤ 4 ∧ i = .int .i64 k ∧ d = .pointer (some ⟨b, 0, none⟩) ∧ Below W0.heap.size W0 wr ∧ Blk wr b 52 (dCells 1000 (wkSt k).1 (wkSt k).2.1 (wkSt k).2.2) ∧ Dok (wkSt k).1 ∧ (1 ≤ (wkSt k).2.1 ∧ (wkSt k).2.1 ≤ 28))
    (fun _ i _ => 4 - (intOf i).toNat)
  case atStart => exact ⟨0, w.heap.size, by omega, rfl, rfl, Below.refl _ _, hx0, hD, by decide⟩
  case round =>
    obtain ⟨k, b, hk, rfl, rfl, hbr, hxr, hdr, hpr⟩ := hrel
    by_cases hlt : k < 4
    · have g0 := hk0.below hbr hk0.lt
      have g1 := hk1.below hbr hk1.lt
      have g2 := hk2.below hbr hk2.lt
      have g3 := hk3.below hbr hk3.lt
      have HX := Lib.hid (And.intro hbr (And.intro hxr (And.intro hdr hpr)))
      clear hbr hxr hdr hpr hx0 hD hk0 hk1 hk2 hk3
      go_wp2_with (first
        | (refine wpList_load_row rfl 30 (.tmp 2) rfl _ rfl 30 (iCells wkCost) (0, 0) _ (g0.alloc _) Try.underlying30 rfl (by rw [iCells_size]; kernel_rfl) ?_)
        | (refine wpList_load_row rfl 30 (.tmp 3) rfl _ rfl 30 (iCells wkWeight) (0, 0) _ (g1.alloc _) Try.underlying30 rfl (by rw [iCells_size]; kernel_rfl) ?_))
      obtain ⟨hbr, hxr, hdr, hpr⟩ := HX.out
      refine (next_any b _ 1000 (wkSt k).1 (wkSt k).2.1 (wkSt k).2.2 hpr (by omega) hdr (hxr.alloc _) (some ⟨wr.heap.size, 0, none⟩) 2 2 [5, 2] rfl (by omega) ((rd_two wr 3 5 2).more (by simp)) wkCost wkWeight _ _ (of_fn wkCost) (of_fn wkWeight)).mono ?_
      rintro e w2 ⟨hbb, (⟨h0, _⟩ | ⟨_, bx, df', pt', fed', hn, hdo, hpp, rfl, hle, hx⟩)⟩
      · exact absurd h0 (by decide)
      have he := stepS_of (s := wkSt k) hn (wk_some k hlt)
      have he' : wkSt (k + 1) = (df', pt', fed') := he.symm
      have hmode := wk_mode k hlt
      have hleft := wk_left k hlt
      rw [he'] at hmode hleft
      dsimp only at hmode hleft
      have g2c : w2.cell? ⟨w1.heap.size + 2, k, none⟩ = some (.int .i64 (wkMode k)) := by
        have hb2 := (g2.alloc _).below hbb (g2.alloc _).lt
        rw [show w1.heap.size + 2 = w1.heap.size + 1 + 1 from rfl, hb2.cell]
        match k, hlt with
        | 0, _ => rfl
        | 1, _ => rfl
        | 2, _ => rfl
        | 3, _ => rfl
      have g3c : w2.cell? ⟨w1.heap.size + 3, k, none⟩ = some (.int .i64 (wkLeft k)) := by
        have hb3 := (g3.alloc _).below hbb (g3.alloc _).lt
        rw [show w1.heap.size + 3 = w1.heap.size + 1 + 1 + 1 from rfl, hb3.cell]
        match k, hlt with
        | 0, _ => rfl
        | 1, _ => rfl
        | 2, _ => rfl
        | 3, _ => rfl
      have gl2 : w1.heap.size + 2 < w2.heap.size := ((g2.alloc _).below hbb (g2.alloc _).lt).lt
      have gl3 : w1.heap.size + 3 < w2.heap.size := ((g3.alloc _).below hbb (g3.alloc _).lt).lt
      rw [hmode]
      have hdef : defOf df' 2 = wkLeft k := by rw [← hleft]; rfl
      have hbr2 : Below W0.heap.size W0 w2 := hbr.trans (((Below.refl _ wr).alloc (Nat.le_refl _) _ |>.trans (hbb.mono (by simp))).mono hbr.size)
      have HY := Lib.hid (And.intro hbr2 (And.intro he' (And.intro hdo (And.intro hpp hx))))
      have HDF := Lib.hid hdef
      clear he he' hmode hleft hdef hbr2 hdo hpp hx hn hbb g0 g1 g2 g3 hbr hxr hdr hpr HX
      go_wp2_with fail
      refine wp_region_sub [11] (fun W => Below w2.heap.size w2 W) (by kernel_rfl) (by kernel_rfl) ((Below.refl _ _).drew) (fun _ => ?_)
      iterate 11 (refine mix_read (by kernel_rfl) (by rfl) (by rfl) (by rfl) (of_decide_eq_true (by kernel_rfl)) ?_; apply Exists.intro; apply Exists.intro; refine ⟨fun w' hw' K hK => ?_, ?_, ?_⟩; (obtain ⟨X, rfl⟩ := hw'; go_wp2_with fail; first | exact ⟨rfl, rfl⟩ | exact rfl); rfl)
      (refine mix_act (by rfl) (by rfl) (fun K hK => ?_))
      go_wp2_with fail
      refine (Deficit_any bx _ _ _ _ _ _ HY.out.2.2.2.2.drew).mono ?_
      rintro e w' ⟨rfl, rfl⟩
      rw [HDF.out]
      go_wp2_with fail
      refine ⟨.mk ((Below.refl _ _).drew), ?_⟩
      iterate 5 (refine mix_read (by kernel_rfl) (by rfl) (by rfl) (by rfl) (of_decide_eq_true (by kernel_rfl)) ?_; apply Exists.intro; apply Exists.intro; refine ⟨fun w' hw' K hK => ?_, ?_, ?_⟩; (obtain ⟨X, rfl⟩ := hw'; go_wp2_with fail; first | exact ⟨rfl, rfl⟩ | exact rfl); rfl)
      refine mix_nil ?_
      go_wp2_with fail
      obtain ⟨hbr2, he', hdo, hpp, hx⟩ := HY.out
      go_roundw
      case rel => exact ⟨k + 1, bx, by omega, by go_num, rfl, hbr2.drew, by rw [he']; exact hx.drew, by rw [he']; exact hdo, by rw [he']; exact hpp⟩
      case measure => simp [intOf]; omega
    · obtain rfl : k = 4 := by omega
      have g0 := hk0.below hbr hk0.lt
      have g1 := hk1.below hbr hk1.lt
      go_wp2_with (first
        | (refine wpList_load_row rfl 30 (.tmp 2) rfl _ rfl 30 (iCells wkCost) (0, 0) _ g0 Try.underlying30 rfl (by rw [iCells_size]; kernel_rfl) ?_)
        | (refine wpList_load_row rfl 30 (.tmp 3) rfl _ rfl 30 (iCells wkWeight) (0, 0) _ g1 Try.underlying30 rfl (by rw [iCells_size]; kernel_rfl) ?_))
      refine (next_any b _ 1000 (wkSt 4).1 (wkSt 4).2.1 (wkSt 4).2.2 hpr (by omega) hdr hxr none 0 0 [] rfl (by omega) (.inl rfl) wkCost wkWeight _ _ (of_fn wkCost) (of_fn wkWeight)).mono ?_
      rintro e w2 ⟨hbb, hor⟩
      obtain ⟨_, rfl⟩ : modesOf [] = [] ∧ e = .returned (.tuple #[.int .i64 0, .pointer (some ⟨b, 0, none⟩)]) := by
        rcases hor with h | ⟨h0, _⟩
        · exact h
        · exact absurd rfl h0
      have hps := ptr_same
      have HX := Lib.hid (And.intro hbr hbb)
      clear hbr hbb hxr hdr hpr hx0 hD hk0 hk1 hk2 hk3 g0 g1
      go_wp2_with fail
      refine (New_no _ _ (by omega)).mono ?_
      rintro e w' ⟨rfl, rfl⟩
      go_wp2_with fail
      go_ret
      exact ⟨rfl, hbw.trans ((HX.out.1.trans (HX.out.2.mono HX.out.1.size)).mono hbw.size)⟩
end Go.Proofs.Ytfbfjlogcphlfaa
