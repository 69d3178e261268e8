/- Going on, over and over: plain. -/
import Derived.Test.YtkpfebgmfkaglaaSpC
set_option linter.unusedSimpArgs false
set_option linter.unusedVariables false
namespace Go.Proofs.Ytkpfebgmfkaglaa

def foldS (step : List ByteArray → ByteArray → Option (List ByteArray)) : List ByteArray → List ByteArray → Option (List ByteArray)
  | l, [] => some l
  | l, s :: ss => (step l s).bind fun r => foldS step r ss

variable {step : List ByteArray → ByteArray → Option (List ByteArray)}
theorem foldS_snoc : ∀ (ss : List ByteArray) (l : List ByteArray) (s : ByteArray), foldS step l (ss ++ [s]) = (foldS step l ss).bind fun r => step r s
  | [], l, s => by
    simp only [List.nil_append, foldS, Option.bind_some]
    cases step l s <;> rfl
  | x :: ss, l, s => by
    simp only [List.cons_append, foldS]
    cases step l x with
    | none => rfl
    | some r => simp only [Option.bind_some]; exact foldS_snoc ss r s
theorem foldS_none : ∀ (ss ts : List ByteArray) (l : List ByteArray), foldS step l ss = none → foldS step l (ss ++ ts) = none
  | [], ts, l, h => by cases h
  | x :: ss, ts, l, h => by
    simp only [List.cons_append, foldS] at h ⊢
    cases hs : step l x with
    | none => rfl
    | some r =>
      rw [hs] at h
      simp only [Option.bind_some] at h ⊢
      exact foldS_none ss ts r h

/-- What has been gone on with, up to i. -/
def Inv (step : List ByteArray → ByteArray → Option (List ByteArray)) (G0 : Int → Int → List ByteArray) (gs : List Gv) (i : Nat) : Prop :=
  ∃ G, firstF step G0 gs 0 = firstF step G (gs.drop i) i ∧ ∀ t c, foldS step (G0 t c) (ofK (gs.take i) t c) = some (G t c)

theorem Inv.start (G0 : Int → Int → List ByteArray) (gs : List Gv) : Inv step G0 gs 0 := ⟨G0, by simp, fun t c => by simp [ofK, foldS]⟩
theorem ofK_take {gs : List Gv} {i : Nat} {t c : Int} {s : ByteArray} (hp : gs[i]? = some (t, c, s)) (t' c' : Int) : ofK (gs.take (i + 1)) t' c' = ofK (gs.take i) t' c' ++ if t = t' ∧ c = c' then [s] else [] := by
  rw [List.take_add_one, hp, Option.toList_some, ofK_snoc]
theorem Inv.stop {G0 : Int → Int → List ByteArray} {gs : List Gv} {i : Nat} (h : Inv step G0 gs i) {t c : Int} {s : ByteArray} (hp : gs[i]? = some (t, c, s)) (hf : foldS step (G0 t c) (ofK (gs.take (i + 1)) t c) = none) :
    firstF step G0 gs 0 = (i : Int) := by
  obtain ⟨G, h1, h2⟩ := h
  rw [ofK_take hp, if_pos ⟨rfl, rfl⟩, foldS_snoc, h2] at hf
  simp only [Option.bind_some] at hf
  obtain ⟨hi, hx⟩ := List.getElem?_eq_some_iff.1 hp
  rw [h1, List.drop_eq_getElem_cons hi, hx, firstF]
  simp only
  rw [hf]
theorem Inv.next {G0 : Int → Int → List ByteArray} {gs : List Gv} {i : Nat} (h : Inv step G0 gs i) {t c : Int} {s : ByteArray} (hp : gs[i]? = some (t, c, s)) {r : List ByteArray} (hf : foldS step (G0 t c) (ofK (gs.take (i + 1)) t c) = some r) :
    Inv step G0 gs (i + 1) := by
  obtain ⟨G, h1, h2⟩ := h
  have hf' := hf
  rw [ofK_take hp, if_pos ⟨rfl, rfl⟩, foldS_snoc, h2] at hf
  simp only [Option.bind_some] at hf
  obtain ⟨hi, hx⟩ := List.getElem?_eq_some_iff.1 hp
  refine ⟨updG G t c r, ?_, fun t' c' => ?_⟩
  · rw [h1, List.drop_eq_getElem_cons hi, hx, firstF]
    simp only
    rw [hf]
  · unfold updG
    by_cases hq : t = t' ∧ c = c'
    · obtain ⟨rfl, rfl⟩ := hq
      rw [if_pos ⟨rfl, rfl⟩]; exact hf'
    · rw [if_neg hq, ofK_take hp, if_neg hq, List.append_nil]; exact h2 t' c'
theorem Inv.fin {G0 : Int → Int → List ByteArray} {gs : List Gv} (h : Inv step G0 gs gs.length) : firstF step G0 gs 0 = -1 := by
  obtain ⟨G, h1, _⟩ := h
  rw [h1, List.drop_length, firstF]
theorem Inv.here {G0 : Int → Int → List ByteArray} {gs : List Gv} {i : Nat} (h : Inv step G0 gs i) (t c : Int) : ∃ r, foldS step (G0 t c) (ofK (gs.take i) t c) = some r := by
  obtain ⟨G, _, h2⟩ := h
  exact ⟨_, h2 t c⟩

theorem foldP_drop : ∀ (ss l r : List ByteArray), foldS stepP l ss = some r → r = l.drop ss.length
  | [], l, r, h => by simp [foldS] at h; simp [h]
  | s :: ss, l, r, h => by
    simp only [foldS] at h
    cases hs : stepP l s with
    | none => rw [hs] at h; cases h
    | some q =>
      rw [hs] at h
      simp only [Option.bind_some] at h
      have := foldP_drop ss q r h
      cases l with
      | nil => simp [stepP] at hs
      | cons x l' =>
        unfold stepP at hs
        simp only at hs
        by_cases hx : x = s
        · rw [if_pos hx] at hs; cases hs; rw [this, List.length_cons, List.drop_succ_cons]
        · rw [if_neg hx] at hs; cases hs
theorem stepP_some {l : List ByteArray} {n : Nat} {s : ByteArray} (h : l[n]? = some s) : stepP (l.drop n) s = some (l.drop (n + 1)) := by
  obtain ⟨hi, hx⟩ := List.getElem?_eq_some_iff.1 h
  rw [List.drop_eq_getElem_cons hi, stepP, if_pos hx]
theorem stepP_none {l : List ByteArray} {n : Nat} {s : ByteArray} (h : l[n]? ≠ some s) : stepP (l.drop n) s = none := by
  by_cases hn : n < l.length
  · rw [List.drop_eq_getElem_cons hn, stepP, if_neg (fun e => h (by rw [List.getElem?_eq_getElem hn, e]))]
  · rw [List.drop_eq_nil_of_le (by omega), stepP]

/-- The first place from k on at which s lies. -/
theorem stepW_at {l : List ByteArray} {s : ByteArray} {k n : Nat} (hk : k ≤ n) (hn : l[n]? = some s) (hb : ∀ j, k ≤ j → j < n → l[j]? ≠ some s) : stepW (l.drop k) s = some (l.drop (n + 1)) := by
  obtain ⟨d, rfl⟩ : ∃ d, n = k + d := ⟨n - k, by omega⟩
  induction d generalizing k with
  | zero =>
    obtain ⟨hi, hx⟩ := List.getElem?_eq_some_iff.1 hn
    rw [List.drop_eq_getElem_cons (i := k) hi, stepW, if_pos (show l[k] = s from hx)]
  | succ d ih =>
    have hkl : k < l.length := by have := (List.getElem?_eq_some_iff.1 hn).1; omega
    have hne : ¬ l[k] = s := fun e => hb k (by omega) (by omega) (by rw [List.getElem?_eq_getElem hkl, e])
    rw [List.drop_eq_getElem_cons hkl, stepW, if_neg hne]
    have := ih (k := k + 1) (by omega) (by rw [show k + 1 + d = k + (d + 1) by omega]; exact hn) (fun j hj1 hj2 => hb j (by omega) (by omega))
    rw [this, show k + 1 + d + 1 = k + (d + 1) + 1 by omega]
theorem stepW_no {l : List ByteArray} {s : ByteArray} {k : Nat} (hb : ∀ j, k ≤ j → l[j]? ≠ some s) : stepW (l.drop k) s = none := by
  by_cases hk : k < l.length
  · have hne : ¬ l[k] = s := fun e => hb k (by omega) (by rw [List.getElem?_eq_getElem hk, e])
    rw [List.drop_eq_getElem_cons hk, stepW, if_neg hne]
    exact stepW_no (k := k + 1) (fun j hj => hb j (by omega))
  · rw [List.drop_eq_nil_of_le (by omega), stepW]
termination_by l.length - k

end Go.Proofs.Ytkpfebgmfkaglaa
