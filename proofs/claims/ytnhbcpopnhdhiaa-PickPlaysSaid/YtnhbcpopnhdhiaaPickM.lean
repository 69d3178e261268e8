/- The answers of Pick, case by case; plain. -/
import Derived.Test.YtnhbcpopnhdhiaaPickL
set_option linter.unusedSimpArgs false
set_option linter.unusedVariables false
namespace Go.Proofs.Ytnhbcpopnhdhiaa
open Go.RowKit Go.Shelf

section
variable {q : Int} {cost weight : Nat → Int} {s s' : St} {p n m last : Int} {l : List Cv} {c : Cv}
theorem PickS.voice (h : PickS q cost weight l last s p n m s') (hv : voiceMay l last = true) (hc : voiceOf l = some c) : p = 1 ∧ n = c.1 ∧ m = c.2.1 ∧ s' = s := by
  rcases h with ⟨_, h1, ⟨c', h2, h3, h4⟩, h5⟩ | ⟨h, _⟩ | ⟨h, _⟩ | ⟨h, _⟩
  · rw [hc] at h2; cases h2; exact ⟨h1, h3, h4, h5⟩
  all_goals (rw [hv] at h; cases h)
theorem PickS.old (h : PickS q cost weight l last s p n m s') (hv : voiceMay l last = false) (hc : oldOf l = some c) : p = 2 ∧ n = c.1 ∧ m = c.2.1 ∧ s' = s := by
  rcases h with ⟨h, _⟩ | ⟨_, h1, ⟨c', h2, h3, h4⟩, h5⟩ | ⟨_, h, _⟩ | ⟨_, h, _⟩
  · rw [hv] at h; cases h
  · rw [hc] at h2; cases h2; exact ⟨h1, h3, h4, h5⟩
  all_goals (rw [hc] at h; cases h)
theorem PickS.zero (h : PickS q cost weight l last s p n m s') (hv : voiceMay l last = false) (hc : oldOf l = none) (hz : modesOf (wantL l) = []) : p = 0 ∧ n = 0 ∧ m = 0 ∧ s' = s := by
  rcases h with ⟨h, _⟩ | ⟨_, _, ⟨c', h2, _⟩, _⟩ | ⟨_, _, h, _⟩ | ⟨_, _, _, h1, h2, h3, h4⟩
  · rw [hv] at h; cases h
  · rw [hc] at h2; cases h2
  · exact absurd hz h
  · exact ⟨h1, h2, h3, h4⟩
theorem PickS.share (h : PickS q cost weight l last s p n m s') (hv : voiceMay l last = false) (hc : oldOf l = none) (hz : modesOf (wantL l) ≠ []) :
    p = 3 ∧ NextR q (wants (wantL l)) cost weight s.1 s.2.1 s.2.2 s' ∧ ∃ c, modeOf l (s'.2.1 : Int) = some c ∧ n = c.1 ∧ m = c.2.1 := by
  rcases h with ⟨h, _⟩ | ⟨_, _, ⟨c', h2, _⟩, _⟩ | ⟨_, _, _, h1, h2, h3⟩ | ⟨_, _, h, _⟩
  · rw [hv] at h; cases h
  · rw [hc] at h2; cases h2
  · exact ⟨h1, h2, h3⟩
  · exact absurd h hz
end

end Go.Proofs.Ytnhbcpopnhdhiaa
