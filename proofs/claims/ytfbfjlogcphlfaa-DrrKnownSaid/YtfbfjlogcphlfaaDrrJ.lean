/- deficits of a sharer; bounds as plain law. -/
import Derived.Test.YtfbfjlogcphlfaaDrrI
import Derived.Test.YtfbfjlogcphlfaaArr
set_option linter.unusedSimpArgs false
set_option linter.unusedVariables false
namespace Go.Proofs.Ytfbfjlogcphlfaa
open Go.RowKit

/-- No deficit is above the dearest cost and eight quanta. -/
def Bd (q : Int) (df : Nat → Int) : Prop := ∀ m, 0 ≤ df m ∧ df m ≤ 40000 + 8 * q

theorem Bd.turn {q : Int} {wanted : Nat → Bool} {cost weight : Nat → Int} {df : Nat → Int} {pt : Nat} {fed : Bool} (hq : 0 ≤ q) (h : Bd q df) : Bd q (turnD q df pt fed wanted cost weight).2.1 := by
  intro m
  have hm := h m
  have hp := h pt
  have h1 := within_bd (cost pt) 40000 (by omega)
  have h2 := within_bd (weight pt) 8 (by omega)
  have hmul : 0 ≤ q * within (weight pt) 8 ∧ q * within (weight pt) 8 ≤ 8 * q := by
    refine ⟨Int.mul_nonneg hq (by omega), ?_⟩
    have : q * within (weight pt) 8 ≤ q * 8 := Int.mul_le_mul_of_nonneg_left h2.2 hq
    omega
  unfold turnD
  generalize within (weight pt) 8 = wv at *
  generalize within (cost pt) 40000 = price at *
  generalize q * wv = x at *
  dsimp only
  split
  · split <;> split <;> simp only [upd] <;> split <;> omega
  · simp only [upd]; split <;> omega

theorem turnD_wanted {q : Int} {wanted : Nat → Bool} {cost weight : Nat → Int} {df : Nat → Int} {pt : Nat} {fed : Bool} (h : (turnD q df pt fed wanted cost weight).1 = true) : wanted pt = true := by
  unfold turnD at h
  cases hw : wanted pt with
  | true => rfl
  | false => rw [hw] at h; simp at h

theorem NextR.bd {q : Int} {wanted : Nat → Bool} {cost weight : Nat → Int} {df : Nat → Int} {pt : Nat} {fed : Bool} {r : (Nat → Int) × Nat × Bool} (hq : 0 ≤ q) (hb : Bd q df) (h : NextR q wanted cost weight df pt fed r) : Bd q r.1 ∧ wanted r.2.1 = true := by
  obtain ⟨k, hk⟩ := h
  induction k generalizing df pt fed with
  | zero => simp [nextF] at hk
  | succ k ih =>
    simp only [nextF] at hk
    split at hk
    · rename_i ht
      cases hk
      exact ⟨hb.turn hq, turnD_wanted ht⟩
    · exact ih (hb.turn hq) hk

/-- What the function deficits tells. -/
def ddef (df : Nat → Int) (m : Nat) : Int := if 1 ≤ m ∧ m ≤ 28 then df m else 0

theorem iCells_set (f : Nat → Int) (i : Nat) (x : Int) (h : i < 29) : (iCells f).setIfInBounds i (.int .i64 x) = iCells (upd f i x) := by
  apply Array.ext'
  apply List.ext_getElem?
  intro j
  rw [Array.getElem?_toList, Array.getElem?_toList, Array.getElem?_setIfInBounds]
  by_cases hj : j < 29
  · rw [iCells_at _ _ hj, iCells_at _ _ hj, iCells_size]
    by_cases he : i = j
    · subst he; simp [upd, hj]
    · simp [upd, he, Ne.symm he]
  · have h1 : ∀ g, (iCells g)[j]? = none := fun g => Array.getElem?_eq_none (by rw [iCells_size]; omega)
    rw [h1, h1]
    rw [if_neg (by omega)]

set_option maxRecDepth 100000 in
theorem deficits_any (b : Nat) (w : World) (q : Int) (df : Nat → Int) (pt : Nat) (fed : Bool) (hB : Blk w b 52 (dCells q df pt fed)) :
    Calls Try.prog 15 #[.pointer (some ⟨b, 0, none⟩)] w fun e w' => e = .returned (.agg (iCells (ddef df))) ∧ Below w.heap.size w w' := by
  go_enter Try.func15, Try.ntmps15
  go_wp2_with fail
  generalize hW0 : World.alloc _ _ = W0
  have hb0 : Below w.heap.size w W0 := by rw [← hW0]; exact ((Below.refl _ _).alloc (Nat.le_refl _) _).alloc (by simp) _
  have hk0 : Blk W0 w.heap.size 22 (iCells fun _ => 0) := by rw [← hW0]; exact (Blk.new _ _ _).alloc _
  have hk1 : Blk W0 (w.heap.size + 1) 22 (iCells fun _ => 0) := by rw [← hW0]; exact (Blk.new (w.alloc _) _ _).same_g (by simp)
  have hB0 := hB.below hb0 hB.lt
  have hlb := hB.lt
  clear hW0
  go_loopw [4] (fun i wr => ∃ k : Nat, 1 ≤ k ∧ k ≤ 29 ∧ i = .int .i64 k ∧ Below w.heap.size w wr ∧ Blk wr w.heap.size 22 (iCells fun _ => 0) ∧ Blk wr (w.heap.size + 1) 22 (iCells fun m => if 1 ≤ m ∧ m < k then df m else 0)) (fun i _ => 29 - (intOf i).toNat)
  case atStart => exact ⟨1, by omega, by omega, rfl, hb0, hk0, hk1.same (by congr 1; funext m; rw [if_neg (by omega)])⟩
  case round =>
    obtain ⟨k, hkk1, hk2, rfl, hbr, x0, x1⟩ := hrel
    have xB := hB.below hbr hlb
    by_cases hlt : k ≤ 28
    · have hdef : defOf df k = df k := by unfold defOf; rw [if_pos (by omega)]; simp
      have HX := Lib.hid (And.intro hbr (And.intro x0 x1))
      have hf1 := x1.frozen
      have hk29 : k < 29 := by omega
      have hc1 : ∃ u, wr.cell? ⟨w.heap.size + 1, k, none⟩ = some u := ⟨_, (x1.cell k).trans (iCells_at _ k hk29)⟩
      obtain ⟨u, hc1⟩ := hc1
      have hl1 := x1.lt
      have HD := Lib.hid hdef
      have h28 : (k : Int) < 29 := by omega
      clear hbr x0 x1 hdef hB0 hk0 hk1 hb0
      go_wp2_with fail
      refine (Deficit_any b _ _ _ _ _ _ xB).mono ?_
      rintro e w' ⟨rfl, rfl⟩
      rw [HD.out]
      go_wp2_with fail
      go_roundw
      case rel =>
        obtain ⟨hbr, x0, x1⟩ := HX.out
        refine ⟨k + 1, by omega, by omega, by go_num, hbr.setCell (p := ⟨w.heap.size + 1, k, none⟩) (by simp) _, x0.far (p := ⟨w.heap.size + 1, k, none⟩) (by simp) _, (x1.set_ k _).same ?_⟩
        rw [iCells_set _ _ _ (by omega)]
        congr 1
        funext m
        by_cases he : m = k
        · subst he; rw [if_pos (⟨hkk1, by omega⟩ : 1 ≤ m ∧ m < m + 1)]; simp [upd]
        · simp only [upd, if_neg he]
          by_cases h : 1 ≤ m ∧ m < k
          · rw [if_pos h, if_pos (by omega)]
          · rw [if_neg h, if_neg (by omega)]
      case measure => simp [intOf]; omega
    · obtain rfl : k = 29 := by omega
      have hd : (iCells fun m => if 1 ≤ m ∧ m < 29 then df m else 0) = iCells (ddef df) := by
        congr 1; funext m; unfold ddef; by_cases h : 1 ≤ m ∧ m < 29
        · rw [if_pos h, if_pos (by omega)]
        · rw [if_neg h, if_neg (by omega)]
      rw [hd] at x1
      clear hd
      go_wp2_with (first
        | (refine wpList_load_row rfl 22 (.tmp 3) rfl _ rfl 22 (iCells (ddef df)) (0, 0) _ x1 Try.underlying22 rfl (by rw [iCells_size]; kernel_rfl) ?_)
        | (refine wpList_store_row rfl 22 (.tmp 2) (.tmp 14) rfl _ (iCells (ddef df)) rfl rfl 22 _ x0 (by rw [iCells_size]; kernel_rfl) (by rw [iCells_size, iCells_size]) (iCells_one _) ?_))
      refine bodyPost_ret (results_cell_row (by rfl) _ _ w.heap.size 22 (iCells (ddef df)) (0, 0) _ (by rfl) (x0.setRow _) Try.underlying22 rfl (by rw [iCells_size]; kernel_rfl)) rfl ?_
      exact ⟨rfl, Below_setRow hbr (Nat.le_refl _) _⟩

end Go.Proofs.Ytfbfjlogcphlfaa
