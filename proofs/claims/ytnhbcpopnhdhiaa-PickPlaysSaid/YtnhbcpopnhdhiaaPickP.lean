/- PickFair, PickPlays, PickBlind: arguments opened; what the laws reckon; plain facts. -/
import Derived.Test.YtnhbcpopnhdhiaaPickM
import Derived.Test.YtnhbcpopnhdhiaaSl2
set_option linter.unusedSimpArgs false
set_option linter.unusedVariables false
namespace Go.Proofs.Ytnhbcpopnhdhiaa
open Go.RowKit Go.Shelf

def wfC (c : Cv) : Prop := (0 ≤ c.1 ∧ c.1 < 18446744073709551616) ∧ -9223372036854775808 ≤ c.2.1 ∧ c.2.1 < 9223372036854775808
theorem tr_cand {W : World} {cs : List Value} (h : Tr Try.prog W 45 cs) : ∃ c : Cv, cs = cC c ∧ wfC c := by
  obtain ⟨hl, hf⟩ := h.struct Try.underlying45
  rw [show Try.prog.cellsOf 45 = 4 by kernel_rfl] at hl
  have h0 : Tr Try.prog W 31 ((cs.drop 0).take (Try.prog.cellsOf 31)) := hf 0 _ rfl
  have h1 : Tr Try.prog W 3 ((cs.drop 1).take (Try.prog.cellsOf 3)) := hf 1 _ rfl
  have h2 : Tr Try.prog W 4 ((cs.drop 2).take (Try.prog.cellsOf 4)) := hf 2 _ rfl
  have h3 : Tr Try.prog W 4 ((cs.drop 3).take (Try.prog.cellsOf 4)) := hf 3 _ rfl
  obtain ⟨n, hn, wn⟩ := Tr.int Try.underlying31 h0
  obtain ⟨m, hm, wm⟩ := Tr.int Try.underlying3 h1
  obtain ⟨a, ha⟩ := Tr.bool Try.underlying4 h2
  obtain ⟨b, hb⟩ := Tr.bool Try.underlying4 h3
  rw [show Try.prog.cellsOf 31 = 1 by kernel_rfl] at hn
  rw [show Try.prog.cellsOf 3 = 1 by kernel_rfl] at hm
  rw [show Try.prog.cellsOf 4 = 1 by kernel_rfl] at ha hb
  clear h h0 h1 h2 h3 hf
  match cs, hl with
  | [x0, x1, x2, x3], _ =>
    simp at hn hm ha hb
    refine ⟨(n, m, a, b), by rw [hn, hm, ha, hb]; rfl, ?_, ?_⟩
    · simp [Lit.wf, IntKind.min, IntKind.max, IntKind.signed, IntKind.bits] at wn; omega
    · simp [Lit.wf, IntKind.min, IntKind.max, IntKind.signed, IntKind.bits] at wm; dsimp only; omega

theorem wrap64_in {x : Int} (h : -9223372036854775808 ≤ x ∧ x < 9223372036854775808) : wrap64 x = x := by unfold wrap64; omega
/-- A mode brought into the modes. -/
theorem mode_in (m : Int) : 1 ≤ wrap64 (1 + (wrap64 (m.tmod 28 + 28)).tmod 28) ∧ wrap64 (1 + (wrap64 (m.tmod 28 + 28)).tmod 28) ≤ 28 := by
  have h1 : -28 < m.tmod 28 ∧ m.tmod 28 < 28 := by
    rcases Int.le_total 0 m with h | h
    · rw [Int.tmod_eq_emod_of_nonneg h]; omega
    · have : m = -(-m) := by omega
      rw [this, Int.neg_tmod, Int.tmod_eq_emod_of_nonneg (by omega)]; omega
  have h2 : wrap64 (m.tmod 28 + 28) = m.tmod 28 + 28 := wrap64_in (by omega)
  rw [h2, Int.tmod_eq_emod_of_nonneg (by omega : 0 ≤ m.tmod 28 + 28)]
  generalize m.tmod 28 + 28 = y
  rw [wrap64_in (by omega)]
  omega

/-- Candidates that came in. -/
def CandsAt (w : World) (v : Value) (l : List Cv) : Prop := SlAt w 4 v l.length (l.flatMap cC) ∧ ∀ c ∈ l, wfC c
theorem came_cands {W : World} {v : Value} (h : Came Try.prog W 30 v) : ∃ l, CandsAt W v l := by
  obtain ⟨l, h1, h2⟩ := h.list Try.underlying30 (by kernel_rfl) (by decide) cC cC_len wfC (fun cs => tr_cand)
  exact ⟨l, h1, h2⟩
theorem came_turns {W : World} {v : Value} (h : Came Try.prog W 22 v) : ∃ ts : List (Value × List Cv), SlAt W 1 v ts.length (ts.flatMap fun x => [x.1]) ∧ ∀ x ∈ ts, CandsAt W x.1 x.2 :=
  h.list Try.underlying22 (by kernel_rfl) (by decide) (fun x : Value × List Cv => [x.1]) (fun _ => rfl) (fun x => CandsAt W x.1 x.2) (fun cs hc => by
    obtain ⟨u, l, rfl, h1, h2⟩ := Tr.list Try.underlying30 (by kernel_rfl) (by decide) hc cC cC_len wfC (fun cs => tr_cand)
    exact ⟨(u, l), rfl, h1, h2⟩)

/-- The least number of those that p holds of; 0: of none. -/
def numP (p : Cv → Bool) (a : Int) (c : Cv) : Int := if p c = true ∧ (a = 0 ∨ c.1 < a) then c.1 else a
def numF (p : Cv → Bool) (l : List Cv) : Int := l.foldl (numP p) 0
theorem numF_snoc (p : Cv → Bool) (l : List Cv) (c : Cv) : numF p (l ++ [c]) = numP p (numF p l) c := by unfold numF; rw [List.foldl_append]; rfl
theorem numF_first (p : Cv → Bool) (l : List Cv) (hl : ∀ c ∈ l, 1 ≤ c.1) : numF p l = ((firstP p l).map (·.1)).getD 0 := by
  have key : ∀ (l : List Cv) (a : Int) (o : Option Cv), (∀ c ∈ l, 1 ≤ c.1) → (∀ c, o = some c → 1 ≤ c.1) → a = (o.map (·.1)).getD 0 → l.foldl (numP p) a = ((l.foldl (better p) o).map (·.1)).getD 0 := by
    intro l
    induction l with
    | nil => exact fun a o _ _ h => h
    | cons x l ih =>
      intro a o hl ho h
      have hx := hl x (by simp)
      rw [List.foldl_cons, List.foldl_cons]
      refine ih _ _ (fun c hc => hl c (by simp [hc])) ?_ ?_
      · intro c hc
        unfold better at hc
        split at hc
        · cases o with
          | none => cases hc; exact hx
          | some z => simp only at hc; split at hc <;> cases hc <;> first | exact hx | exact ho _ rfl
        · exact ho c hc
      · subst h
        unfold better numP
        cases hp : p x with
        | false => simp
        | true =>
          cases o with
          | none => simp
          | some z =>
            have := ho z rfl
            simp only [Option.map_some, Option.getD_some, true_and]
            by_cases hlt : x.1 < z.1
            · rw [if_pos (.inr hlt)]; simp [hlt]
            · rw [if_neg (by omega)]; simp [hlt]
  exact key l 0 none hl (by simp) rfl
theorem firstP_congr {p q : Cv → Bool} {l : List Cv} (h : ∀ c ∈ l, p c = q c) : firstP p l = firstP q l := by
  have key : ∀ (l : List Cv) (a : Option Cv), (∀ c ∈ l, p c = q c) → l.foldl (better p) a = l.foldl (better q) a := by
    intro l
    induction l with
    | nil => exact fun _ _ => rfl
    | cons x l ih =>
      intro a h
      rw [List.foldl_cons, List.foldl_cons, show better p a x = better q a x by unfold better; rw [h x (by simp)]]
      exact ih _ fun c hc => h c (by simp [hc])
  exact key l none h
theorem someP_all {p : Cv → Bool} {l : List Cv} (h : ∀ c ∈ l, countsF c = true) : someP p l = firstP p l := firstP_congr fun c hc => by rw [h c hc, Bool.true_and]

def isP (l : List Cv) (n m : Int) : Bool := l.any fun c => c.1 == n && c.2.1 == m
theorem isP_mem {l : List Cv} {c : Cv} (h : c ∈ l) : isP l c.1 c.2.1 = true := List.any_eq_true.2 ⟨c, h, by simp⟩
theorem isP_snoc (l : List Cv) (c : Cv) (n m : Int) : isP (l ++ [c]) n m = (isP l n m || (c.1 == n && c.2.1 == m)) := by unfold isP; rw [List.any_append]; simp

/-- What Pick's answer comes to, of candidates that all count. -/
def FairR (l : List Cv) (last p n m : Int) (o v : Int) : Prop :=
  (p = 1 ∧ 0 < l.length ∧ n = v ∧ 0 < v ∧ isP l n m = true ∧ (last = 1 → o = 0)) ∨
  (p = 2 ∧ 0 < l.length ∧ n = o ∧ 0 < o ∧ isP l n m = true ∧ (v = 0 ∨ last = 1)) ∨
  (p = 3 ∧ 0 < l.length ∧ o = 0 ∧ v = 0 ∧ isP l n m = true) ∨
  (p = 0 ∧ l.length = 0 ∧ o = 0 ∧ v = 0)
theorem fair_of {q : Int} {cost weight : Nat → Int} {s s' : St} {p n m last : Int} {l : List Cv} (hl : ∀ c ∈ l, countsF c = true) (h : PickS q cost weight l last s p n m s') :
    FairR l last p n m (numF (fun c => c.2.2.2) l) (numF (fun c => c.2.2.1) l) := by
  have h1 : ∀ c ∈ l, 1 ≤ c.1 := fun c hc => by have := of_decide_eq_true (hl c hc); omega
  rw [numF_first _ _ h1, numF_first _ _ h1]
  have eo : oldOf l = firstP (fun c => c.2.2.2) l := someP_all hl
  have ev : voiceOf l = firstP (fun c => c.2.2.1) l := someP_all hl
  rw [← eo, ← ev]
  have mem : ∀ (p : Cv → Bool) (c : Cv), someP p l = some c → c ∈ l ∧ 1 ≤ c.1 ∧ 0 < l.length := fun p c hc => by
    have := (someP_mem hc).1
    exact ⟨this, h1 c this, List.length_pos_of_mem this⟩
  rcases h with ⟨hv, rfl, ⟨c, hc, rfl, rfl⟩, _⟩ | ⟨hv, rfl, ⟨c, hc, rfl, rfl⟩, _⟩ | ⟨hv, ho, hz, rfl, _, c, hc, rfl, rfl⟩ | ⟨hv, ho, hz, rfl, rfl, rfl, _⟩
  · obtain ⟨h2, h3, h4⟩ := mem _ c hc
    left
    refine ⟨rfl, h4, by rw [hc]; rfl, by rw [hc]; simp; omega, isP_mem h2, fun hla => ?_⟩
    subst hla
    unfold voiceMay at hv
    rw [Bool.and_eq_true] at hv
    have := hv.2
    cases ho : oldOf l with
    | none => rfl
    | some z => rw [ho] at this; cases this
  · obtain ⟨h2, h3, h4⟩ := mem _ c hc
    right; left
    refine ⟨rfl, h4, by rw [hc]; rfl, by rw [hc]; simp; omega, isP_mem h2, ?_⟩
    cases hvo : voiceOf l with
    | none => left; rfl
    | some z =>
      right
      unfold voiceMay at hv
      rw [hvo, hc] at hv
      simpa using hv
  · obtain ⟨h2, h3, h4⟩ := mem _ c hc
    right; right; left
    refine ⟨rfl, h4, by rw [ho]; rfl, ?_, isP_mem h2⟩
    cases hvo : voiceOf l with
    | none => rfl
    | some z => unfold voiceMay at hv; rw [hvo, ho] at hv; simp at hv
  · right; right; right
    have hnil : l = [] := by
      cases l with
      | nil => rfl
      | cons x l =>
        have h5 := (modesOf_wantL _).1 hz x (by simp)
        rw [hl x (by simp)] at h5
        cases h5
    subst hnil
    exact ⟨rfl, rfl, rfl, rfl⟩

end Go.Proofs.Ytnhbcpopnhdhiaa
