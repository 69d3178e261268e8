import Derived.Test.YtfbfjlogcphlfaaDrrH
set_option linter.unusedSimpArgs false
set_option linter.unusedVariables false
namespace Go.Proofs.Ytfbfjlogcphlfaa
open Go.RowKit

set_option maxRecDepth 100000 in
theorem DrrPlays_no (quantum : Int) (cs : Array Value) (A : Option Addr) (len cap : Nat) (w : World) (hq : quantum < 1000 ∨ 1000000 < quantum) :
    Calls Try.prog 3 #[.int .i64 quantum, .agg cs, .slice A len cap] w fun e w' => e = .returned (.bool true) ∧ Below w.heap.size w w' := by
  go_enter Try.func3, Try.ntmps3
  go_wp2_with fail
  refine (New_no _ _ hq).mono ?_
  rintro e w1 ⟨rfl, rfl⟩
  go_wp2_with fail
  refine (RNew_no _ _ hq).mono ?_
  rintro e w1 ⟨rfl, rfl⟩
  go_wp2_with fail
  refine (works_any _).mono ?_
  rintro e w' ⟨rfl, hbe⟩
  have HBE := Lib.hid hbe
  clear hbe
  go_wp2_with fail
  go_ret
  exact ⟨rfl, ((Below.refl _ w).alloc (Nat.le_refl _) _).trans (HBE.out.mono (by simp))⟩

theorem DrrPlays_walk (v0 v1 v2 : Value) (W : World) (c0 : Came Try.prog W 3 v0) (c1 : Came Try.prog W 23 v1) (c2 : Came Try.prog W 24 v2) :
    Calls Try.prog 3 #[v0, v1, v2] W fun e w' => e = .returned (.bool true) ∧ Below W.heap.size W w' := by
  obtain ⟨q, rfl, _⟩ := c0.int Try.underlying3
  obtain ⟨tab, rfl⟩ := came_tables c1
  obtain ⟨A, len, cap, rfl, ht⟩ := c2.slice Try.underlying24
  have he : Try.prog.cellsOf 33 = 2 := by kernel_rfl
  obtain ⟨A', len', cap', vs, hcs, hn, hc, _, hvl, hR, hel⟩ := ht.slice Try.underlying24 (by rw [he]; omega)
  cases hcs
  rw [he] at hvl hel
  by_cases hq : 1000 ≤ q ∧ q ≤ 1000000
  · exact DrrPlays_yes q tab A len cap vs W hq (by unfold maxLen at hc; omega) hvl hR hel
  · exact DrrPlays_no q _ A len cap W (by omega)

end Go.Proofs.Ytfbfjlogcphlfaa
