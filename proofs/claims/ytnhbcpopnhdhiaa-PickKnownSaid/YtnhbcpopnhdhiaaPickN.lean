/- The chapter's examples: the plain facts. -/
import Derived.Test.YtnhbcpopnhdhiaaPickM
set_option linter.unusedSimpArgs false
set_option linter.unusedVariables false
namespace Go.Proofs.Ytnhbcpopnhdhiaa
open Go.RowKit Go.Shelf

def knA : List Cv := [(5, 2, false, false), (9, 1, true, false)]
def knC : List Cv := [(1, 29, true, false), (0, 2, false, true), (2, 0, false, false)]
def knE : List Cv := [(4, 3, true, true), (4, 9, false, true)]
def knF : List Cv := [(4, 3, true, true), (2, 9, false, true)]
def knG : List Cv := [(8, 3, false, false), (7, 3, false, false)]

section
variable {q : Int} {cost weight : Nat → Int} {s s' : St} {p n m : Int}
theorem kn_a (h : PickS q cost weight knA 1 s p n m s') : p = 1 ∧ n = 9 ∧ m = 1 ∧ s' = s := h.voice (c := (9, 1, true, false)) (by decide +kernel) (by decide +kernel)
theorem kn_b (h : PickS q cost weight [] 1 s p n m s') : p = 0 ∧ n = 0 ∧ m = 0 ∧ s' = s := h.zero (by decide +kernel) (by decide +kernel) (by decide +kernel)
theorem kn_c (h : PickS q cost weight knC 0 s p n m s') : p = 0 ∧ n = 0 ∧ m = 0 ∧ s' = s := h.zero (by decide +kernel) (by decide +kernel) (by decide +kernel)
theorem kn_e (h : PickS q cost weight knE 0 s p n m s') : p = 1 ∧ n = 4 ∧ m = 3 ∧ s' = s := h.voice (c := (4, 3, true, true)) (by decide +kernel) (by decide +kernel)
theorem kn_f (h : PickS q cost weight knF 1 s p n m s') : p = 2 ∧ n = 2 ∧ m = 9 ∧ s' = s := h.old (c := (2, 9, false, true)) (by decide +kernel) (by decide +kernel)
theorem kn_g (h : PickS 5000 (fun _ => 1000) (fun _ => 1) knG 0 s00 p n m s') : p = 3 ∧ n = 7 := by
  obtain ⟨h1, h2, c, h3, h4, h5⟩ := h.share (by decide +kernel) (by decide +kernel) (by decide +kernel)
  have hn : (nextF 5000 (wants (wantL knG)) (fun _ => 1000) (fun _ => 1) 2000 s00.1 s00.2.1 s00.2.2).map (fun r => r.2.1) = some 3 := by decide +kernel
  have hmo : modeOf knG ((3 : Nat) : Int) = some (7, 3, false, false) := by decide +kernel
  obtain ⟨r, hr, he⟩ := Option.map_eq_some_iff.1 hn
  have := h2.det ⟨2000, hr⟩
  subst this
  rw [he, hmo] at h3
  cases h3
  exact ⟨h1, h4⟩
end
theorem kn_h : voiceMay wkL1 0 = false ∧ (oldOf wkL1).isSome = false ∧ modeOf wkL1 0 = none := by decide +kernel

end Go.Proofs.Ytnhbcpopnhdhiaa
