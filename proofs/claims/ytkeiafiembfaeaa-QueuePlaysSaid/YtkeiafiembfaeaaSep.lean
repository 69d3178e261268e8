/- Things that lie apart in memory, each with its own blocks: an act on one leaves the others. Plain theorems, no program. -/
import Derived.Test.YtkeiafiembfaeaaMem
import Derived.Test.YtkeiafiembfaeaaReg
set_option linter.unusedSimpArgs false
set_option linter.unusedVariables false
namespace Go.Proofs.Ytkeiafiembfaeaa
open Go.RowKit

/-- A thing: what is asked of the world and of the blocks that are its own. -/
abbrev Thing := World → (Nat → Prop) → Prop
/-- It hangs on its own blocks alone. -/
def Local (T : Thing) : Prop := (∀ w F, T w F → ∀ k, F k → k < w.heap.size) ∧ ∀ w w' F S, T w F → But S w.heap.size w w' → (∀ k, F k → ¬ S k) → T w' F
/-- What an act leaves: its own blocks, and new ones, alone have turned. -/
def Acts (T' : Thing) (F : Nat → Prop) (w w' : World) : Prop := ∃ F', T' w' F' ∧ But F w.heap.size w w' ∧ ∀ k, F' k → F k ∨ w.heap.size ≤ k

/-- The things of L lie apart, above B; what lay below B lies as in w0. -/
def Sep (B : Nat) (w0 w : World) (L : List Thing) : Prop :=
  (∀ T ∈ L, Local T) ∧ (∃ Fs : Nat → Nat → Prop, (∀ (i : Nat) (T : Thing), L[i]? = some T → T w (Fs i)) ∧ (∀ i j k, i ≠ j → Fs i k → ¬ Fs j k) ∧ (∀ i k, Fs i k → B ≤ k ∧ i < L.length)) ∧ B ≤ w.heap.size ∧ Below B w0 w

theorem Sep.nil (w : World) : Sep w.heap.size w w [] :=
  ⟨by simp, ⟨fun _ _ => False, by simp, fun _ _ _ _ h => h.elim, fun _ _ h => h.elim⟩, Nat.le_refl _, Below.refl _ _⟩
theorem Sep.world {B : Nat} {w0 w : World} {L : List Thing} (h : Sep B w0 w L) : Below B w0 w := h.2.2.2
theorem Sep.size {B : Nat} {w0 w : World} {L : List Thing} (h : Sep B w0 w L) : B ≤ w.heap.size := h.2.2.1

theorem Sep.below {B : Nat} {w0 w w' : World} {L : List Thing} (h : Sep B w0 w L) (hb : Below w.heap.size w w') : Sep B w0 w' L := by
  obtain ⟨hl, ⟨Fs, h1, h2, h3⟩, h4, h5⟩ := h
  refine ⟨hl, ⟨Fs, fun i T hi => (hl T (List.mem_of_getElem? hi)).2 w w' _ (fun _ => False) (h1 i T hi) (.of_below hb) (fun _ _ h => h), h2, h3⟩, Nat.le_trans h4 hb.size, h5.trans ?_⟩
  exact (But.of_below (S := fun _ => False) hb).below (fun _ _ h => h) h4

theorem Sep.acts_at {B : Nat} {w0 w w' : World} {L : List Thing} {i : Nat} {T T' : Thing} {Fs : Nat → Nat → Prop} (hl : ∀ T ∈ L, Local T) (h1 : ∀ (i : Nat) (T : Thing), L[i]? = some T → T w (Fs i)) (h2 : ∀ i j k, i ≠ j → Fs i k → ¬ Fs j k)
    (h3 : ∀ i k, Fs i k → B ≤ k ∧ i < L.length) (h4 : B ≤ w.heap.size) (h5 : Below B w0 w) (hi : L[i]? = some T) (hT' : Local T') (ha : Acts T' (Fs i) w w') : Sep B w0 w' (L.set i T') := by
  obtain ⟨F', hF', hb, hk⟩ := ha
  have hlt : ∀ j k, Fs j k → k < w.heap.size := fun j k hj => by
    obtain ⟨_, hj'⟩ := h3 j k hj
    exact (hl _ (List.getElem_mem hj')).1 w _ (h1 j _ (List.getElem?_eq_getElem hj')) k hj
  have hil : i < L.length := (List.getElem?_eq_some_iff.1 hi).1
  refine ⟨?_, ⟨fun j k => if j = i then F' k else Fs j k, ?_, ?_, ?_⟩, Nat.le_trans h4 hb.size, h5.trans (hb.below (fun k hk' e => by have := (h3 i k e).1; omega) h4)⟩
  · intro U hU
    rcases List.mem_or_eq_of_mem_set hU with hU | rfl
    · exact hl U hU
    · exact hT'
  · intro j U hU
    by_cases e : j = i
    · subst e
      rw [List.getElem?_set_self hil] at hU
      cases hU
      simpa using hF'
    · rw [List.getElem?_set_ne (Ne.symm e)] at hU
      simp only [e, if_false]
      exact (hl U (List.mem_of_getElem? hU)).2 w w' _ (Fs i) (h1 j U hU) hb (fun k => h2 j i k e)
  · intro j l k hjl hj hl'
    by_cases e : j = i
    · subst e
      simp only [if_true] at hj
      rw [if_neg (Ne.symm hjl)] at hl'
      rcases hk k hj with h | h
      · exact h2 j l k hjl h hl'
      · have := hlt l k hl'; omega
    · rw [if_neg e] at hj
      by_cases e' : l = i
      · subst e'
        simp only [if_true] at hl'
        rcases hk k hl' with h | h
        · exact h2 j l k e hj h
        · have := hlt j k hj; omega
      · rw [if_neg e'] at hl'
        exact h2 j l k hjl hj hl'
  · intro j k hj
    rw [List.length_set]
    by_cases e : j = i
    · subst e
      simp only [if_true] at hj
      exact ⟨(hk k hj).elim (fun h => (h3 _ k h).1) (fun h => by omega), hil⟩
    · rw [if_neg e] at hj; exact h3 j k hj

/-- A call that acts on the thing i. -/
theorem Sep.call {P : Program} {f : FuncId} {args : Array Value} {B : Nat} {w0 w : World} {L : List Thing} (h : Sep B w0 w L) (i : Nat) {T T' : Thing} {R : Ending → Prop} (hi : L[i]? = some T) (hT' : Local T')
    (hc : ∀ F, T w F → Calls P f args w fun e w' => R e ∧ Acts T' F w w') : Calls P f args w fun e w' => R e ∧ Sep B w0 w' (L.set i T') := by
  obtain ⟨hl, ⟨Fs, h1, h2, h3⟩, h4, h5⟩ := h
  exact (hc (Fs i) (h1 i T hi)).mono fun e w' ⟨hr, ha⟩ => ⟨hr, Sep.acts_at hl h1 h2 h3 h4 h5 hi hT' ha⟩

/-- A new thing. -/
theorem Sep.new {B : Nat} {w0 w w' : World} {L : List Thing} (h : Sep B w0 w L) {T' : Thing} (hT' : Local T') {F' : Nat → Prop} (hF : T' w' F') (hk : ∀ k, F' k → w.heap.size ≤ k) (hb : Below w.heap.size w w') : Sep B w0 w' (L ++ [T']) := by
  have hW := (h.below hb).2.2
  obtain ⟨hl, ⟨Fs, h1, h2, h3⟩, h4, h5⟩ := h
  have hlt : ∀ j k, Fs j k → k < w.heap.size := fun j k hj => by
    obtain ⟨_, hj'⟩ := h3 j k hj
    exact (hl _ (List.getElem_mem hj')).1 w _ (h1 j _ (List.getElem?_eq_getElem hj')) k hj
  refine ⟨?_, ⟨fun j k => if j = L.length then F' k else Fs j k, ?_, ?_, ?_⟩, hW⟩
  · intro U hU
    rcases List.mem_append.1 hU with hU | hU
    · exact hl U hU
    · rw [List.mem_singleton.1 hU]; exact hT'
  · intro j U hU
    by_cases e : j = L.length
    · subst e
      simp at hU
      subst hU
      simpa using hF
    · have hj : j < L.length := by have := (List.getElem?_eq_some_iff.1 hU).1; simp at this; omega
      rw [List.getElem?_append_left hj] at hU
      simp only [e, if_false]
      exact (hl U (List.mem_of_getElem? hU)).2 w w' _ (fun _ => False) (h1 j U hU) (.of_below hb) (fun _ _ h => h)
  · intro j l k hjl hj hl'
    by_cases e : j = L.length
    · subst e
      simp only [if_true] at hj
      rw [if_neg (Ne.symm hjl)] at hl'
      have := hk k hj
      have := hlt l k hl'
      omega
    · rw [if_neg e] at hj
      by_cases e' : l = L.length
      · subst e'
        simp only [if_true] at hl'
        have := hk k hl'
        have := hlt j k hj
        omega
      · rw [if_neg e'] at hl'
        exact h2 j l k hjl hj hl'
  · intro j k hj
    rw [List.length_append]
    by_cases e : j = L.length
    · subst e
      simp only [if_true] at hj
      exact ⟨by have := hk k hj; omega, by simp⟩
    · rw [if_neg e] at hj; exact ⟨(h3 j k hj).1, by have := (h3 j k hj).2; simp; omega⟩

end Go.Proofs.Ytkeiafiembfaeaa
