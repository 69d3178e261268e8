/- AirTurns: the statement. -/
import Derived.Test.YtgolelpncdadkaaAirK
set_option linter.unusedSimpArgs false
set_option linter.unusedVariables false
namespace Go.Proofs.Ytgolelpncdadkaa
open Go.RowKit Go.Shelf

theorem slice_cap {P : Program} {W : World} {t e : TypeId} {v : Value} (ht : P.underlying t = some (.slice e)) (he : 0 < P.cellsOf e) (c : Came P W t v) : ∃ A len cap, v = .slice A len cap ∧ len ≤ cap ∧ cap ≤ maxLen := by
  obtain ⟨A, len, cap, rfl, h⟩ := c.slice ht
  obtain ⟨A', len', cap', vs, hcs, hn, hc, _⟩ := h.slice ht he
  cases hcs
  exact ⟨A, len, cap, rfl, hn, hc⟩

set_option maxRecDepth 100000 in
theorem AirTurns_walk (v0 v1 v2 : Value) (W : World) (c0 : Came Try.prog W 9 v0) (c1 : Came Try.prog W 36 v1) (c2 : Came Try.prog W 37 v2) :
    Calls Try.prog 4 #[v0, v1, v2] W fun e w' => e = .returned (.bool true) ∧ Below W.heap.size W w' := by
  obtain ⟨_, _, _, hv1, hc1⟩ := slice_cap Try.underlying36 (by rw [show Try.prog.cellsOf 39 = 2 by kernel_rfl]; omega) c1
  obtain ⟨_, _, _, hv2, hc2⟩ := slice_cap Try.underlying37 (by rw [show Try.prog.cellsOf 5 = 1 by kernel_rfl]; omega) c2
  obtain ⟨s, rfl, hs⟩ := c0.string Try.underlying9
  obtain ⟨A1, len1, cap1, f, rfl, h1, hf⟩ := came_turns c1
  obtain ⟨A2, len2, cap2, g, rfl, h2, hg⟩ := came_masks c2
  cases hv1
  cases hv2
  exact turns_any s hs _ _ _ hc1 f _ _ _ hc2 g W hf hg

end Go.Proofs.Ytgolelpncdadkaa
