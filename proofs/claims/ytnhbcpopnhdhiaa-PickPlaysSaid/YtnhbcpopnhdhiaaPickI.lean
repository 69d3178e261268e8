/- Pick, by what it is picked: contracts by cases. -/
import Derived.Test.YtnhbcpopnhdhiaaPickH
set_option linter.unusedSimpArgs false
set_option linter.unusedVariables false
namespace Go.Proofs.Ytnhbcpopnhdhiaa
open Go.RowKit Go.Shelf

theorem turnD_want {q : Int} {wanted : Nat → Bool} {cost weight : Nat → Int} {df : Nat → Int} {pt : Nat} {fed : Bool} (h : (turnD q df pt fed wanted cost weight).1 = true) : wanted pt = true := by
  unfold turnD at h
  cases hw : wanted pt with
  | true => rfl
  | false => rw [hw] at h; simp at h
theorem NextR.want {q : Int} {wanted : Nat → Bool} {cost weight : Nat → Int} {df : Nat → Int} {pt : Nat} {fed : Bool} {r : (Nat → Int) × Nat × Bool} (h : NextR q wanted cost weight df pt fed r) : wanted r.2.1 = true := by
  obtain ⟨k, hk⟩ := h
  induction k generalizing df pt fed with
  | zero => simp [nextF] at hk
  | succ k ih =>
    unfold nextF at hk
    by_cases ht : (turnD q df pt fed wanted cost weight).1 = true
    · rw [if_pos ht] at hk; cases hk; exact turnD_want ht
    · rw [if_neg ht] at hk; exact ih hk

theorem firstP_none (p : Cv → Bool) (l : List Cv) : firstP p l = none ↔ ∀ x ∈ l, p x = false := by
  have key : ∀ (l : List Cv) (a : Option Cv), l.foldl (better p) a = none ↔ a = none ∧ ∀ x ∈ l, p x = false := by
    intro l
    induction l with
    | nil => intro a; simp
    | cons y l ih =>
      intro a
      rw [List.foldl_cons, ih]
      constructor
      · rintro ⟨h, h2⟩
        unfold better at h
        cases hp : p y with
        | true => rw [hp, if_pos rfl] at h; cases a with | none => cases h | some z => simp only at h; split at h <;> cases h
        | false => rw [hp, if_neg Bool.false_ne_true] at h; exact ⟨h, fun x hx => by rcases List.mem_cons.1 hx with rfl | hx; exact hp; exact h2 x hx⟩
      · rintro ⟨rfl, h2⟩
        exact ⟨by unfold better; rw [h2 y (by simp), if_neg Bool.false_ne_true], fun x hx => h2 x (by simp [hx])⟩
  unfold firstP
  rw [key]
  simp
theorem someP_none (p : Cv → Bool) (l : List Cv) : someP p l = none ↔ ∀ x ∈ l, countsF x = true → p x = false := by
  unfold someP
  rw [firstP_none]
  constructor
  · intro h x hx hc; have := h x hx; rw [hc, Bool.true_and] at this; exact this
  · intro h x hx
    cases hc : countsF x with
    | false => rfl
    | true => rw [h x hx hc]; rfl
theorem firstP_mem {p : Cv → Bool} {l : List Cv} {c : Cv} (h : firstP p l = some c) : c ∈ l ∧ p c = true ∧ ∀ x ∈ l, p x = true → c.1 ≤ x.1 := by
  have key : ∀ (l : List Cv) (a : Option Cv), l.foldl (better p) a = some c → (c ∈ l ∨ a = some c) ∧ ((a = some c → p c = true) → p c = true) ∧ (∀ x ∈ l, p x = true → c.1 ≤ x.1) ∧ ∀ y, a = some y → c.1 ≤ y.1 := by
    intro l
    induction l with
    | nil => intro a h; simp only [List.foldl_nil] at h; exact ⟨.inr h, fun f => f h, by simp, fun y hy => by rw [h] at hy; cases hy; exact Int.le_refl _⟩
    | cons y l ih =>
      intro a h
      rw [List.foldl_cons] at h
      obtain ⟨h1, h2, h3, h4⟩ := ih _ h
      cases hp : p y with
      | false =>
        have hb : better p a y = a := by unfold better; rw [hp, if_neg Bool.false_ne_true]
        rw [hb] at h1 h2 h4
        refine ⟨h1.imp (List.mem_cons_of_mem _) id, h2, fun x hx hpx => ?_, h4⟩
        rcases List.mem_cons.1 hx with rfl | hx
        · rw [hp] at hpx; cases hpx
        · exact h3 x hx hpx
      | true =>
        cases a with
        | none =>
          have hb : better p none y = some y := by unfold better; rw [hp, if_pos rfl]
          rw [hb] at h1 h2 h4
          refine ⟨.inl ?_, fun _ => h2 (fun e => by cases e; exact hp), fun x hx hpx => ?_, fun z hz => by cases hz⟩
          · rcases h1 with h1 | h1
            · exact List.mem_cons_of_mem _ h1
            · cases h1; simp
          · rcases List.mem_cons.1 hx with rfl | hx
            · exact h4 _ rfl
            · exact h3 x hx hpx
        | some z =>
          by_cases hlt : y.1 < z.1
          · have hb : better p (some z) y = some y := by unfold better; rw [hp, if_pos rfl]; simp only; rw [if_pos hlt]
            rw [hb] at h1 h2 h4
            refine ⟨.inl ?_, fun _ => h2 (fun e => by cases e; exact hp), fun x hx hpx => ?_, fun z' hz => ?_⟩
            · rcases h1 with h1 | h1
              · exact List.mem_cons_of_mem _ h1
              · cases h1; simp
            · rcases List.mem_cons.1 hx with rfl | hx
              · exact h4 _ rfl
              · exact h3 x hx hpx
            · cases hz; have := h4 _ rfl; omega
          · have hb : better p (some z) y = some z := by unfold better; rw [hp, if_pos rfl]; simp only; rw [if_neg hlt]
            rw [hb] at h1 h2 h4
            refine ⟨h1.imp (List.mem_cons_of_mem _) id, h2, fun x hx hpx => ?_, fun z' hz => h4 z' hz⟩
            rcases List.mem_cons.1 hx with rfl | hx
            · have := h4 _ rfl; omega
            · exact h3 x hx hpx
  obtain ⟨h1, h2, h3, _⟩ := key l none h
  exact ⟨h1.resolve_right (by simp), h2 (by simp), h3⟩
theorem someP_mem {p : Cv → Bool} {l : List Cv} {c : Cv} (h : someP p l = some c) : c ∈ l ∧ countsF c = true ∧ p c = true ∧ ∀ x ∈ l, countsF x = true → p x = true → c.1 ≤ x.1 := by
  obtain ⟨h1, h2, h3⟩ := firstP_mem h
  rw [Bool.and_eq_true] at h2
  exact ⟨h1, h2.1, h2.2, fun x hx hc hp => h3 x hx (by rw [hc, hp]; rfl)⟩

theorem modesOf_wantL (l : List Cv) : modesOf (wantL l) = [] ↔ ∀ x ∈ l, countsF x = false := by
  unfold modesOf wantL
  rw [List.filterMap_eq_nil_iff]
  constructor
  · intro h x hx
    cases hc : countsF x with
    | false => rfl
    | true =>
      have := h x.2.1 (List.mem_map.2 ⟨x, List.mem_filter.2 ⟨hx, hc⟩, rfl⟩)
      have hb := of_decide_eq_true hc
      rw [dif_pos hb.2] at this
      cases this
  · intro h m hm
    obtain ⟨x, hx, rfl⟩ := List.mem_map.1 hm
    obtain ⟨hx, hc⟩ := List.mem_filter.1 hx
    rw [h x hx] at hc
    cases hc
/-- Who is wanted stands among those that count. -/
theorem wants_mode {l : List Cv} {m : Nat} (h : wants (wantL l) m = true) : ∃ c, modeOf l (m : Int) = some c := by
  unfold wants at h
  obtain ⟨md, hmd, he⟩ := List.any_eq_true.1 h
  have he' : md.1 = m := by simpa using he
  unfold modesOf wantL at hmd
  obtain ⟨z, hz, hzm⟩ := List.mem_filterMap.1 hmd
  obtain ⟨x, hx, rfl⟩ := List.mem_map.1 hz
  obtain ⟨hx, hc⟩ := List.mem_filter.1 hx
  have hb := of_decide_eq_true hc
  rw [dif_pos hb.2] at hzm
  have hmm : x.2.1 = (m : Int) := by
    have := congrArg (fun o : Option Md => o.map (·.1)) hzm
    simp at this
    omega
  cases hq : modeOf l (m : Int) with
  | some c => exact ⟨c, rfl⟩
  | none =>
    unfold modeOf at hq
    have := (someP_none _ _).1 hq x hx hc
    simp [hmm] at this

end Go.Proofs.Ytnhbcpopnhdhiaa
