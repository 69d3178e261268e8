/- What is given of what was accepted: plain. -/
import Derived.Test.YtkpfebgmfkaglaaSpP
set_option linter.unusedSimpArgs false
set_option linter.unusedVariables false
namespace Go.Proofs.Ytkpfebgmfkaglaa

theorem stepW_sub {s : ByteArray} {ss : List ByteArray} : ∀ l : List ByteArray, (s :: ss).Sublist l → ∃ r, stepW l s = some r ∧ ss.Sublist r
  | [], h => by simp at h
  | x :: l, h => by
    unfold stepW
    by_cases hx : x = s
    · rw [if_pos hx]
      refine ⟨l, rfl, ?_⟩
      cases h with
      | cons _ h => exact (List.sublist_cons_self _ _).trans h
      | cons_cons _ h => exact h
    · rw [if_neg hx]
      cases h with
      | cons _ h => exact stepW_sub l h
      | cons_cons _ h => exact absurd rfl hx
theorem stepP_pre {s : ByteArray} {ss : List ByteArray} {l : List ByteArray} (h : (s :: ss) <+: l) : ∃ r, stepP l s = some r ∧ ss <+: r := by
  obtain ⟨t, rfl⟩ := h
  exact ⟨ss ++ t, by simp [stepP], List.prefix_append _ _⟩

theorem ofK_cons (g : Gv) (l : List Gv) (t c : Int) : ofK (g :: l) t c = (if g.1 = t ∧ g.2.1 = c then [g.2.2] else []) ++ ofK l t c := by
  unfold ofK
  by_cases h : g.1 = t ∧ g.2.1 = c
  · rw [if_pos h, List.filter_cons, if_pos (by simp [h.1, h.2])]; rfl
  · rw [if_neg h, List.filter_cons, if_neg (by simpa using h)]; rfl

theorem firstW_sub : ∀ (gs : List Gv) (G : Int → Int → List ByteArray) (i : Nat), (∀ t c, (ofK gs t c).Sublist (G t c)) → firstF stepW G gs i = -1
  | [], _, _, _ => rfl
  | g :: gs, G, i, h => by
    have h0 := h g.1 g.2.1
    rw [ofK_cons, if_pos ⟨rfl, rfl⟩] at h0
    obtain ⟨r, hr, hs⟩ := stepW_sub _ h0
    rw [firstF, hr]
    simp only
    refine firstW_sub gs _ _ fun t c => ?_
    unfold updG
    by_cases hq : g.1 = t ∧ g.2.1 = c
    · rw [if_pos hq]; obtain ⟨rfl, rfl⟩ := hq; exact hs
    · rw [if_neg hq]
      have := h t c
      rwa [ofK_cons, if_neg hq, List.nil_append] at this
theorem firstP_pre : ∀ (gs : List Gv) (G : Int → Int → List ByteArray) (i : Nat), (∀ t c, ofK gs t c <+: G t c) → firstF stepP G gs i = -1
  | [], _, _, _ => rfl
  | g :: gs, G, i, h => by
    have h0 := h g.1 g.2.1
    rw [ofK_cons, if_pos ⟨rfl, rfl⟩] at h0
    obtain ⟨r, hr, hs⟩ := stepP_pre h0
    rw [firstF, hr]
    simp only
    refine firstP_pre gs _ _ fun t c => ?_
    unfold updG
    by_cases hq : g.1 = t ∧ g.2.1 = c
    · rw [if_pos hq]; obtain ⟨rfl, rfl⟩ := hq; exact hs
    · rw [if_neg hq]
      have := h t c
      rwa [ofK_cons, if_neg hq, List.nil_append] at this
theorem ofK_sub {gs all : List Gv} (h : gs.Sublist all) (t c : Int) : (ofK gs t c).Sublist (ofK all t c) := (h.filter _).map _
theorem ofK_pre {gs all : List Gv} (h : gs <+: all) (t c : Int) : ofK gs t c <+: ofK all t c := by
  obtain ⟨r, rfl⟩ := h
  unfold ofK
  rw [List.filter_append, List.map_append]
  exact List.prefix_append _ _

/-- A way to go on that leaves nothing new, and does not find what is not there. -/
def Fair (step : List ByteArray → ByteArray → Option (List ByteArray)) : Prop := (∀ l s r, step l s = some r → ∀ x ∈ r, x ∈ l) ∧ ∀ l s, s ∉ l → step l s = none
theorem fairP : Fair stepP := by
  refine ⟨fun l s r h x hx => ?_, fun l s h => ?_⟩
  · cases l with
    | nil => simp [stepP] at h
    | cons y l =>
      unfold stepP at h
      simp only at h
      by_cases hy : y = s
      · rw [if_pos hy] at h; cases h; exact List.mem_cons_of_mem _ hx
      · rw [if_neg hy] at h; cases h
  · cases l with
    | nil => rfl
    | cons y l => unfold stepP; simp only; rw [if_neg (fun e => h (by rw [← e]; exact List.mem_cons_self ..))]
theorem fairW : Fair stepW := by
  refine ⟨fun l => ?_, fun l => ?_⟩
  · induction l with
    | nil => intro s r h; simp [stepW] at h
    | cons y l ih =>
      intro s r h x hx
      unfold stepW at h
      by_cases hy : y = s
      · rw [if_pos hy] at h; cases h; exact List.mem_cons_of_mem _ hx
      · rw [if_neg hy] at h; exact List.mem_cons_of_mem _ (ih s r h x hx)
  · induction l with
    | nil => intro s h; rfl
    | cons y l ih =>
      intro s h
      unfold stepW
      rw [if_neg (fun e => h (by rw [← e]; exact List.mem_cons_self ..))]
      exact ih s (fun e => h (List.mem_cons_of_mem _ e))
theorem first_more {step : List ByteArray → ByteArray → Option (List ByteArray)} (hf : Fair step) (z : Gv) : ∀ (gs : List Gv) (G : Int → Int → List ByteArray) (i : Nat), (∀ t c, z.2.2 ∉ G t c) → firstF step G gs i = -1 → firstF step G (gs ++ [z]) i = ((i + gs.length : Nat) : Int)
  | [], G, i, hz, _ => by
    rw [List.nil_append, firstF, hf.2 _ _ (hz _ _)]
    simp
  | g :: gs, G, i, hz, h => by
    rw [firstF] at h
    rw [List.cons_append, firstF]
    cases hs : step (G g.1 g.2.1) g.2.2 with
    | none => rw [hs] at h; simp only at h; omega
    | some r =>
      rw [hs] at h
      simp only at h ⊢
      rw [first_more hf z gs _ (i + 1) (fun t c => ?_) h]
      · simp only [List.length_cons]; omega
      · unfold updG
        by_cases hq : g.1 = t ∧ g.2.1 = c
        · rw [if_pos hq]; exact fun e => hz _ _ (hf.1 _ _ _ hs _ e)
        · rw [if_neg hq]; exact hz t c

end Go.Proofs.Ytkpfebgmfkaglaa
