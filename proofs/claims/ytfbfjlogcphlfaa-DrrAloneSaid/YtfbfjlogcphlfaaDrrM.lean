/- One mode alone is wanted: plain law. -/
import Derived.Test.YtfbfjlogcphlfaaDrrL
set_option linter.unusedSimpArgs false
set_option linter.unusedVariables false
namespace Go.Proofs.Ytfbfjlogcphlfaa
open Go.RowKit

def Only (wanted : Nat → Bool) (m : Nat) : Prop := ∀ k, 1 ≤ k → k ≤ 28 → (wanted k = true ↔ k = m)
def ep (m pt : Nat) : Nat := if pt = m then 28 else (pt + 28 - m) % 28
/-- Behind the wanted one, up to the pointer, all have nothing. -/
def Past (m : Nat) (df : Nat → Int) (pt : Nat) : Prop := ∀ k, 1 ≤ k → k ≤ 28 → k ≠ m → (k + 28 - m) % 28 < ep m pt → df k = 0

section
variable {q : Int} {wanted : Nat → Bool} {cost weight : Nat → Int} {m : Nat} {df : Nat → Int} {pt : Nat} {fed : Bool}

theorem turnD_not (h : wanted pt = false) : turnD q df pt fed wanted cost weight = (false, upd df pt 0, fed) := by simp [turnD, h]

theorem turnD_other (k : Nat) (hk : k ≠ pt) : (turnD q df pt fed wanted cost weight).2.1 k = df k := by
  unfold turnD
  dsimp only
  repeat' split
  all_goals simp [upd, hk]

theorem Past.first (hm : 1 ≤ m ∧ m ≤ 28) (g : Nat → Int) : Past m g (m % 28 + 1) := by
  intro k h1 h2 hk hlt
  unfold ep at hlt
  split at hlt
  · rename_i he; omega
  · omega

theorem Past.on (hO : Only wanted m) (hm : 1 ≤ m ∧ m ≤ 28) (hp : 1 ≤ pt ∧ pt ≤ 28) (h : Past m df pt) : Past m (turnD q df pt fed wanted cost weight).2.1 (pt % 28 + 1) := by
  by_cases he : pt = m
  · subst he; exact Past.first hm _
  · have hw : wanted pt = false := by
      cases hw : wanted pt with
      | false => rfl
      | true => exact absurd ((hO pt hp.1 hp.2).1 hw) he
    rw [turnD_not hw]
    intro k h1 h2 hk hlt
    simp only [upd]
    by_cases hkp : k = pt
    · rw [if_pos hkp]
    · rw [if_neg hkp]
      refine h k h1 h2 hk ?_
      unfold ep at hlt ⊢
      rw [if_neg he]
      split at hlt <;> omega

theorem Past.stop (hO : Only wanted m) (hp : 1 ≤ pt ∧ pt ≤ 28) (h : Past m df pt) (ht : (turnD q df pt fed wanted cost weight).1 = true) : Past m (turnD q df pt fed wanted cost weight).2.1 pt := by
  obtain rfl : pt = m := (hO pt hp.1 hp.2).1 (turnD_wanted ht)
  intro k h1 h2 hk hlt
  rw [turnD_other k hk]
  exact h k h1 h2 hk hlt

theorem NextR.past {r : (Nat → Int) × Nat × Bool} (hO : Only wanted m) (hm : 1 ≤ m ∧ m ≤ 28) (hp : 1 ≤ pt ∧ pt ≤ 28) (h : Past m df pt) (hr : NextR q wanted cost weight df pt fed r) : Past m r.1 r.2.1 := by
  obtain ⟨k, hk⟩ := hr
  induction k generalizing df pt fed with
  | zero => simp [nextF] at hk
  | succ k ih =>
    simp only [nextF] at hk
    split at hk
    · rename_i ht
      cases hk
      exact h.stop hO hp ht
    · exact ih (by omega) (h.on hO hm hp) hk

theorem NextR.range {r : (Nat → Int) × Nat × Bool} (hp : 1 ≤ pt ∧ pt ≤ 28) (hr : NextR q wanted cost weight df pt fed r) : 1 ≤ r.2.1 ∧ r.2.1 ≤ 28 := by
  obtain ⟨k, hk⟩ := hr
  induction k generalizing df pt fed with
  | zero => simp [nextF] at hk
  | succ k ih =>
    simp only [nextF] at hk
    split at hk
    · cases hk; exact hp
    · exact ih (by omega) hk

/-- Of which too little is left, goes round. -/
theorem NextR.round {r : (Nat → Int) × Nat × Bool} (hO : Only wanted m) (hm : 1 ≤ m ∧ m ≤ 28) (hw0 : 0 ≤ q * within (weight m) 8) (hlow : df m + q * within (weight m) 8 < within (cost m) 40000) (hr : NextR q wanted cost weight df m fed r) : Past m r.1 r.2.1 := by
  have hw : wanted m = true := (hO m hm.1 hm.2).2 rfl
  have ht : (turnD q df m fed wanted cost weight).1 = false := by
    cases fed with
    | false => rw [turnD_fed_no hw rfl rfl (by omega) hlow]
    | true => rw [turnD_was hw rfl (by omega)]
  obtain ⟨k, hk⟩ := hr
  cases k with
  | zero => simp [nextF] at hk
  | succ k =>
    simp only [nextF, ht] at hk
    exact NextR.past hO hm (by omega) (Past.first hm _) ⟨k, hk⟩

/-- What is left of the one that was served. -/
theorem NextR.left {r : (Nat → Int) × Nat × Bool} (hq : 0 ≤ q) (hb : Bd q df) (hr : NextR q wanted cost weight df pt fed r) : r.1 r.2.1 ≤ 40000 + 8 * q - within (cost r.2.1) 40000 := by
  obtain ⟨k, hk⟩ := hr
  induction k generalizing df pt fed with
  | zero => simp [nextF] at hk
  | succ k ih =>
    simp only [nextF] at hk
    split at hk
    · rename_i ht
      cases hk
      have hw := turnD_wanted ht
      have hp := hb pt
      have h1 := within_bd (cost pt) 40000 (by omega)
      have h2 := within_bd (weight pt) 8 (by omega)
      have hmul : 0 ≤ q * within (weight pt) 8 ∧ q * within (weight pt) 8 ≤ 8 * q := by
        refine ⟨Int.mul_nonneg hq (by omega), ?_⟩
        have : q * within (weight pt) 8 ≤ q * 8 := Int.mul_le_mul_of_nonneg_left h2.2 hq
        omega
      by_cases hlt : df pt < within (cost pt) 40000
      · cases fed with
        | true => rw [turnD_was hw rfl hlt] at ht; cases ht
        | false =>
          by_cases hlt2 : df pt + q * within (weight pt) 8 < within (cost pt) 40000
          · rw [turnD_fed_no hw rfl rfl hlt hlt2] at ht; cases ht
          · rw [turnD_fed_yes hw rfl rfl hlt (by omega)]
            simp only [upd, if_true]
            omega
      · rw [turnD_has hw rfl (by omega)]
        simp only [upd, if_true]
        omega
    · exact ih (hb.turn hq) hk

theorem Past.all (h : Past m df m) (hm : 1 ≤ m ∧ m ≤ 28) (k : Nat) (h1 : 1 ≤ k) (h2 : k ≤ 28) (hk : k ≠ m) : df k = 0 := by
  refine h k h1 h2 hk ?_
  unfold ep
  rw [if_pos rfl]
  omega
end

theorem wants_any (zs : List Int) (k : Nat) (h : 1 ≤ k ∧ k ≤ 28) : wants zs k = zs.any (· == (k : Int)) := modesOf_any zs k h

theorem only_two (m : Nat) : Only (wants [(m : Int), (m : Int)]) m := by
  intro k h1 h2
  rw [wants_any _ _ ⟨h1, h2⟩]
  simp
  omega
theorem only_one (m : Nat) : Only (wants [(m : Int)]) m := by
  intro k h1 h2
  rw [wants_any _ _ ⟨h1, h2⟩]
  simp
  omega
theorem some_two (m : Nat) (hm : 1 ≤ m ∧ m ≤ 28) : modesOf [(m : Int), (m : Int)] ≠ [] := by
  intro h
  rw [modesOf_nil] at h
  have := h m hm.1 hm.2
  simp at this
theorem some_one (m : Nat) (hm : 1 ≤ m ∧ m ≤ 28) : modesOf [(m : Int)] ≠ [] := by
  intro h
  rw [modesOf_nil] at h
  have := h m hm.1 hm.2
  simp at this

end Go.Proofs.Ytfbfjlogcphlfaa
