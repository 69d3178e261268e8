/- PickPlays: its closures; a function of modes as a row. -/
import Derived.Test.YtnhbcpopnhdhiaaPickP
import Derived.Test.YtnhbcpopnhdhiaaDrvE
set_option linter.unusedSimpArgs false
set_option linter.unusedVariables false
namespace Go.Proofs.Ytnhbcpopnhdhiaa
open Go.RowKit Go.Shelf
attribute [local irreducible] wpMix

theorem iCells_size (f : Nat → Int) : (iCells f).size = 29 := by simp [iCells]
theorem iCells_one (f : Nat → Int) : (iCells f).all (·.oneCell') = true := by
  refine Array.all_eq_true_iff_forall_mem.2 (fun v hv => ?_)
  simp only [iCells, List.mem_toArray, List.mem_map] at hv
  obtain ⟨i, _, rfl⟩ := hv; rfl
theorem iCells_set (f : Nat → Int) (i : Nat) (x : Int) (h : i < 29) : (iCells f).setIfInBounds i (.int .i64 x) = iCells (upd f i x) := by
  apply Array.ext'
  apply List.ext_getElem?
  intro j
  rw [Array.getElem?_toList, Array.getElem?_toList, Array.getElem?_setIfInBounds]
  by_cases hj : j < 29
  · rw [iCells_at _ _ hj, iCells_at _ _ hj, iCells_size]
    by_cases he : i = j
    · subst he; simp [upd, hj]
    · simp [upd, he, Ne.symm he]
  · have h1 : ∀ g, (iCells g)[j]? = none := fun g => Array.getElem?_eq_none (by rw [iCells_size]; omega)
    rw [h1, h1]
    rw [if_neg (by omega)]
/-- The row of c, filled up to m. -/
def upTo (c : Nat → Int) (m : Nat) : Nat → Int := fun j => if 1 ≤ j ∧ j < m then c j else 0
theorem upTo_next (c : Nat → Int) (m : Nat) (h : 1 ≤ m) : upd (upTo c m) m (c m) = upTo c (m + 1) := by
  funext j
  unfold upd upTo
  by_cases hj : j = m
  · subst hj; rw [if_pos rfl, if_pos (by omega)]
  · rw [if_neg hj]
    by_cases h2 : 1 ≤ j ∧ j < m
    · rw [if_pos h2, if_pos (by omega)]
    · rw [if_neg h2, if_neg (by omega)]
theorem upTo_in (c : Nat → Int) (j : Nat) (h1 : 1 ≤ j) (h2 : j ≤ 28) : upTo c 29 j = c j := by unfold upTo; rw [if_pos (by omega)]
theorem FnInt.upTo {w : World} {c : Nat → Int} {v : Value} (h : FnInt w c v) : FnInt w (upTo c 29) v := by
  obtain ⟨K, fs, cap, rfl, h1, h2⟩ := h
  exact ⟨K, fs, cap, rfl, h1, fun m W hW hm hm2 => by rw [upTo_in c m hm hm2]; exact h2 m W hW hm hm2⟩

/-- 100 + (mode*by[0])%9000 -/
def plCost (b0 : Int) (m : Nat) : Int := 100 + ((m : Int) * b0) % 9000
def plWeight (b1 : Int) (m : Nat) : Int := 1 + ((m : Int) * b1) % 8
theorem mul_bd {m : Nat} {b : Int} (hm : m ≤ 28) (hb : 0 ≤ b ∧ b < 65536) : 0 ≤ (m : Int) * b ∧ (m : Int) * b ≤ 1835008 := by
  refine ⟨Int.mul_nonneg (by omega) hb.1, ?_⟩
  have h1 : (m : Int) * b ≤ 28 * b := Int.mul_le_mul_of_nonneg_right (by omega) hb.1
  omega
theorem cost_fn {w : World} {g : Nat} {b0 b1 : Int} (h0 : 0 ≤ b0 ∧ b0 < 65536) (hB : Blk w g 24 #[.int .u16 b0, .int .u16 b1]) : FnInt w (plCost b0) (.func (.func 9) #[] #[.pointer (some ⟨g, 0, none⟩)]) :=
  ⟨_, _, _, rfl, enters_of Try.func9 (by kernel_rfl) rfl, fun m W hW hm1 hm2 => by
    simp only [List.append_toArray, List.nil_append]
    have hBW := hB.below hW hB.lt
    have c0 := hBW.cell 0
    have hl := hBW.lt
    have hmb := mul_bd hm2 h0
    obtain ⟨h0a, h0b⟩ := h0
    obtain ⟨p, hp⟩ : ∃ p, (m : Int) * b0 = p := ⟨_, rfl⟩
    have hpl : plCost b0 m = 100 + p % 9000 := by unfold plCost; rw [hp]
    have hmp : (0 ≤ p) ∧ p ≤ 1835008 := by rw [← hp]; exact hmb
    obtain ⟨hp0, hp1⟩ := hmp
    have HP := Lib.hid (And.intro hpl hB)
    clear hB hBW hmb hpl
    go_enter Try.func9, Try.ntmps9
    go_wp2_with fail
    go_ret
    exact ⟨by rw [HP.out.1]; rfl, Below.refl _ _⟩⟩
theorem weight_fn {w : World} {g : Nat} {b0 b1 : Int} (h0 : 0 ≤ b1 ∧ b1 < 65536) (hB : Blk w g 24 #[.int .u16 b0, .int .u16 b1]) : FnInt w (plWeight b1) (.func (.func 10) #[] #[.pointer (some ⟨g, 0, none⟩)]) :=
  ⟨_, _, _, rfl, enters_of Try.func10 (by kernel_rfl) rfl, fun m W hW hm1 hm2 => by
    simp only [List.append_toArray, List.nil_append]
    have hBW := hB.below hW hB.lt
    have c0 := hBW.cell 1
    have hl := hBW.lt
    have hmb := mul_bd hm2 h0
    obtain ⟨h0a, h0b⟩ := h0
    obtain ⟨p, hp⟩ : ∃ p, (m : Int) * b1 = p := ⟨_, rfl⟩
    have hpl : plWeight b1 m = 1 + p % 8 := by unfold plWeight; rw [hp]
    have hmp : (0 ≤ p) ∧ p ≤ 1835008 := by rw [← hp]; exact hmb
    obtain ⟨hp0, hp1⟩ := hmp
    have HP := Lib.hid (And.intro hpl hB)
    clear hB hBW hmb hpl
    go_enter Try.func10, Try.ntmps10
    go_wp2_with fail
    go_ret
    exact ⟨by rw [HP.out.1]; rfl, Below.refl _ _⟩⟩

set_option maxRecDepth 100000 in
theorem row_any (v : Value) (c : Nat → Int) (w : World) (hf : FnInt w c v) :
    Calls Try.prog 13 #[v] w fun e w' => e = .returned (.agg (iCells (upTo c 29))) ∧ Below w.heap.size w w' := by
  obtain ⟨K, fs, cap, rfl, he, hk⟩ := hf
  have HK := Lib.hid hk
  clear hk
  go_enter Try.func13, Try.ntmps13
  go_wp2_with fail
  generalize hW0 : World.alloc _ _ = W0
  have hb0 : Below w.heap.size w W0 := by rw [← hW0]; exact ((Below.refl _ _).alloc (Nat.le_refl _) _).alloc (by simp) _
  have hk0 : Blk W0 w.heap.size 38 (iCells fun _ => 0) := by rw [← hW0]; exact (Blk.new _ _ _).alloc _
  have hk1 : Blk W0 (w.heap.size + 1) 38 (iCells fun _ => 0) := by rw [← hW0]; exact (Blk.new (w.alloc _) _ _).same_g (by simp)
  clear hW0
  go_loopw [4] (fun i wr => ∃ k : Nat, 1 ≤ k ∧ k ≤ 29 ∧ i = .int .i64 k ∧ Below w.heap.size w wr ∧ Blk wr w.heap.size 38 (iCells fun _ => 0) ∧ Blk wr (w.heap.size + 1) 38 (iCells (upTo c k))) (fun i _ => 29 - (intOf i).toNat)
  case atStart => exact ⟨1, by omega, by omega, rfl, hb0, hk0, hk1.same (by congr 1; funext m; unfold upTo; rw [if_neg (by omega)])⟩
  case round =>
    obtain ⟨k, hkk1, hk2, rfl, hbr, x0, x1⟩ := hrel
    by_cases hlt : k ≤ 28
    · have HX := Lib.hid (And.intro hbr (And.intro x0 x1))
      have hsz := hbr.size
      have h28 : (k : Int) < 29 := by omega
      clear hbr x0 x1 hk0 hk1 hb0
      go_wp2_with fail
      refine (HK.out k wr HX.out.1 hkk1 hlt).mono ?_
      rintro e w' ⟨rfl, hb⟩
      have hbr := HX.out.1.trans (hb.mono hsz)
      have z0 := HX.out.2.1.below hb HX.out.2.1.lt
      have z1 := HX.out.2.2.below hb HX.out.2.2.lt
      have c1 := (z1.cell k).trans (iCells_at _ k (by omega))
      have hf1 := z1.frozen k
      have hl1 := z1.lt
      have HY := Lib.hid (And.intro hbr (And.intro z0 z1))
      clear hbr z0 z1 hb
      go_wp2_with fail
      go_roundw
      case rel =>
        obtain ⟨hbr, x0, x1⟩ := HY.out
        refine ⟨k + 1, by omega, by omega, by go_num, hbr.setCell (p := ⟨w.heap.size + 1, k, none⟩) (by simp) _, x0.far (p := ⟨w.heap.size + 1, k, none⟩) (by simp) _, (x1.set_ k _).same ?_⟩
        rw [iCells_set _ _ _ (by omega), upTo_next c k hkk1]
      case measure => simp [intOf]; omega
    · obtain rfl : k = 29 := by omega
      go_wp2_with (first
        | (refine wpList_load_row rfl 38 (.tmp 3) rfl _ rfl 38 (iCells (upTo c 29)) (0, 0) _ x1 Try.underlying38 rfl (by rw [iCells_size]; kernel_rfl) ?_)
        | (refine wpList_store_row rfl 38 (.tmp 2) (.tmp 14) rfl _ (iCells (upTo c 29)) rfl rfl 38 _ x0 (by rw [iCells_size]; kernel_rfl) (by rw [iCells_size, iCells_size]) (iCells_one _) ?_))
      refine bodyPost_ret (results_cell_row (by rfl) _ _ w.heap.size 38 (iCells (upTo c 29)) (0, 0) _ (by rfl) (x0.setRow _) Try.underlying38 rfl (by rw [iCells_size]; kernel_rfl)) rfl ?_
      exact ⟨rfl, Below_setRow hbr (Nat.le_refl _) _⟩

end Go.Proofs.Ytnhbcpopnhdhiaa
