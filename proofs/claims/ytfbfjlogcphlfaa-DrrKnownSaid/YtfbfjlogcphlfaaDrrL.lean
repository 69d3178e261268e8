import Derived.Test.YtfbfjlogcphlfaaDrrK
set_option linter.unusedSimpArgs false
set_option linter.unusedVariables false
namespace Go.Proofs.Ytfbfjlogcphlfaa
open Go.RowKit

theorem came_u32s {w : World} {v : Value} (h : Came Try.prog w 41 v) : ∃ (A : Option Addr) (len cap : Nat) (xs : List Int), v = .slice A len cap ∧ len ≤ 9223372036854775807 ∧ xs.length = len ∧ Rd w w.heap.size A (xs.map (Value.int .u32)) ∧ ∀ x ∈ xs, 0 ≤ x ∧ x < 4294967296 := by
  obtain ⟨A, len, cap, rfl, ht⟩ := h.slice Try.underlying41
  have hc1 : Try.prog.cellsOf 42 = 1 := by kernel_rfl
  obtain ⟨A', n, c, us, hcs, hn, hc, _, hul, hR, hel⟩ := ht.slice Try.underlying41 (by rw [hc1]; omega)
  cases hcs
  rw [hc1] at hul hel
  obtain ⟨xs, hz, hx⟩ : ∃ xs : List Int, us = xs.map (Value.int .u32) ∧ ∀ x ∈ xs, 0 ≤ x ∧ x < 4294967296 := by
    have : ∀ u ∈ us, ∃ x : Int, u = .int .u32 x ∧ 0 ≤ x ∧ x < 4294967296 := by
      intro u hu
      obtain ⟨i, hi, hiu⟩ := List.mem_iff_getElem.1 hu
      obtain ⟨x, hx, hwf⟩ := (hel i (by omega)).int Try.underlying42
      refine ⟨x, ?_, ?_⟩
      · have : us[i]? = some (.int .u32 x) := by
          have h3 := congrArg (fun l : List Value => l[0]?) hx
          simpa using h3
        rw [List.getElem?_eq_getElem hi] at this
        rw [← hiu]; exact Option.some.inj this
      · simp [Lit.wf, IntKind.min, IntKind.max, IntKind.signed, IntKind.bits] at hwf
        omega
    clear hel hR hul ht h
    induction us with
    | nil => exact ⟨[], rfl, by simp⟩
    | cons u us ih =>
      obtain ⟨x, rfl, h1, h2⟩ := this u (by simp)
      obtain ⟨zs, rfl, hzs⟩ := ih (fun v hv => this v (by simp [hv]))
      refine ⟨x :: zs, rfl, fun y hy => ?_⟩
      rcases List.mem_cons.1 hy with rfl | hy
      · exact ⟨h1, h2⟩
      · exact hzs y hy
  subst hz
  exact ⟨A, len, cap, xs, rfl, by unfold maxLen at hc; omega, by simpa using hul, hR, hx⟩

theorem DrrBounds_walk (v0 v1 : Value) (W : World) (c0 : Came Try.prog W 23 v0) (c1 : Came Try.prog W 41 v1) :
    Calls Try.prog 4 #[v0, v1] W fun e w' => e = .returned (.bool true) ∧ Below W.heap.size W w' := by
  obtain ⟨tab, rfl⟩ := came_tables c0
  obtain ⟨A, len, cap, xs, rfl, hm, hl, hR, hx⟩ := came_u32s c1
  exact DrrBounds_walk' tab A len cap xs W hm hl hR hx

end Go.Proofs.Ytfbfjlogcphlfaa
