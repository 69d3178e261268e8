/- The sharer is fair: plain law. -/
import Derived.Test.YtfbfjlogcphlfaaDrrP
set_option linter.unusedSimpArgs false
set_option linter.unusedVariables false
namespace Go.Proofs.Ytfbfjlogcphlfaa

/-- What was served, and what is left, are quanta: of each mode as many as of all others, but for one. -/
def Inv (q : Int) (wanted : Nat → Bool) (cost weight s df : Nat → Int) (pt : Nat) (fed : Bool) : Prop :=
  ∃ c : Int, ∀ j, 1 ≤ j → j ≤ 28 → wanted j = true →
    s j + df j = q * weight j * c + (if j < pt ∨ (j = pt ∧ fed = true) then q * weight j else 0) ∧ 0 ≤ df j ∧ (j ≠ pt ∨ fed = false → df j < cost j)

section
variable {q : Int} {wanted : Nat → Bool} {cost weight s df : Nat → Int} {pt : Nat} {fed : Bool}

theorem Inv.start (hC : ∀ j, 1 ≤ j → j ≤ 28 → 1 ≤ cost j ∧ cost j ≤ 40000) : Inv q wanted cost weight (fun _ => 0) (fun _ => 0) 1 false :=
  ⟨0, fun j h1 h2 _ => ⟨by rw [if_neg (by simp; omega)]; simp, by simp, fun _ => by have := hC j h1 h2; simp; omega⟩⟩

/-- The pointer goes on, when its own mode was fed (or is not wanted). -/
theorem Inv.on {g : Nat → Int} (hp : 1 ≤ pt ∧ pt ≤ 28) (hC : ∀ j, 1 ≤ j → j ≤ 28 → 1 ≤ cost j ∧ cost j ≤ 40000) (h : Inv q wanted cost weight s df pt fed) (hg : ∀ j, j ≠ pt → g j = df j)
    (hpt : wanted pt = true → s pt + g pt = s pt + df pt + (if fed = true then 0 else q * weight pt) ∧ 0 ≤ g pt ∧ g pt < cost pt) : Inv q wanted cost weight s g (pt % 28 + 1) false := by
  obtain ⟨c, h⟩ := h
  by_cases h28 : pt = 28
  · subst h28
    refine ⟨c + 1, fun j h1 h2 hw => ?_⟩
    obtain ⟨a, b, d⟩ := h j h1 h2 hw
    rw [if_neg (by simp; omega), Int.mul_add, Int.mul_one]
    by_cases hj : j = 28
    · subst hj
      obtain ⟨x, y, z⟩ := hpt hw
      refine ⟨?_, y, fun _ => z⟩
      cases fed <;> simp at a x <;> omega
    · rw [if_pos (.inl (by omega))] at a
      rw [hg j hj]
      exact ⟨by omega, b, fun _ => d (.inl hj)⟩
  · refine ⟨c, fun j h1 h2 hw => ?_⟩
    obtain ⟨a, b, d⟩ := h j h1 h2 hw
    by_cases hj : j = pt
    · subst hj
      obtain ⟨x, y, z⟩ := hpt hw
      rw [if_pos (.inl (by omega))]
      refine ⟨?_, y, fun _ => z⟩
      cases fed <;> simp at a x <;> omega
    · rw [hg j hj]
      refine ⟨?_, b, fun _ => d (.inl hj)⟩
      rw [a]
      by_cases hlt : j < pt
      · rw [if_pos (.inl hlt), if_pos (.inl (by omega))]
      · rw [if_neg (by simp; omega), if_neg (by simp; omega)]

/-- The pointer's mode is served. -/
theorem Inv.serve {g : Nat → Int} {fed' : Bool} (hp : 1 ≤ pt ∧ pt ≤ 28) (h : Inv q wanted cost weight s df pt fed) (hg : ∀ j, j ≠ pt → g j = df j) (hf : fed' = true)
    (hpt : g pt = df pt + (if fed = true then 0 else q * weight pt) - cost pt ∧ 0 ≤ g pt) : Inv q wanted cost weight (upd s pt (s pt + cost pt)) g pt fed' := by
  obtain ⟨c, h⟩ := h
  subst hf
  refine ⟨c, fun j h1 h2 hw => ?_⟩
  obtain ⟨a, b, d⟩ := h j h1 h2 hw
  by_cases hj : j = pt
  · subst hj
    obtain ⟨x, y⟩ := hpt
    rw [if_pos (.inr ⟨rfl, rfl⟩)]
    refine ⟨?_, y, fun h => by simp at h⟩
    simp only [upd, if_true]
    cases fed <;> simp at a x <;> omega
  · rw [hg j hj]
    have hu : upd s pt (s pt + cost pt) j = s j := by simp [upd, hj]
    rw [hu]
    refine ⟨?_, b, fun _ => d (.inl hj)⟩
    rw [a]
    by_cases hlt : j < pt
    · rw [if_pos (.inl hlt), if_pos (.inl hlt)]
    · rw [if_neg (by simp; omega), if_neg (by simp; omega)]

theorem within_id (n h : Int) (h1 : 1 ≤ n) (h2 : n ≤ h) : within n h = n := by unfold within; omega

theorem NextR.fair {r : (Nat → Int) × Nat × Bool} (hq : 0 ≤ q) (hC : ∀ j, 1 ≤ j → j ≤ 28 → 1 ≤ cost j ∧ cost j ≤ 40000) (hW : ∀ j, 1 ≤ j → j ≤ 28 → 1 ≤ weight j ∧ weight j ≤ 8)
    (hp : 1 ≤ pt ∧ pt ≤ 28) (h : Inv q wanted cost weight s df pt fed) (hr : NextR q wanted cost weight df pt fed r) :
    wanted r.2.1 = true ∧ (1 ≤ r.2.1 ∧ r.2.1 ≤ 28) ∧ Inv q wanted cost weight (upd s r.2.1 (s r.2.1 + cost r.2.1)) r.1 r.2.1 r.2.2 := by
  obtain ⟨k, hk⟩ := hr
  induction k generalizing df pt fed with
  | zero => simp [nextF] at hk
  | succ k ih =>
    have hc := hC pt hp.1 hp.2
    have hw8 := hW pt hp.1 hp.2
    have hP := within_id (cost pt) 40000 hc.1 hc.2
    have hV := within_id (weight pt) 8 hw8.1 hw8.2
    have hmul : 0 ≤ q * weight pt := Int.mul_nonneg hq (by omega)
    have hne : ∀ (v : Int) j, j ≠ pt → upd df pt v j = df j := fun v j hj => by simp [upd, hj]
    have hself : ∀ v : Int, upd df pt v pt = v := fun v => by simp [upd]
    simp only [nextF] at hk
    cases hw : wanted pt with
    | false =>
      have ht : turnD q df pt fed wanted cost weight = (false, upd df pt 0, fed) := by simp [turnD, hw]
      rw [ht] at hk
      exact ih (by omega) (h.on hp hC (hne _) (fun e => by rw [hw] at e; cases e)) hk
    | true =>
      obtain ⟨c, hh⟩ := h
      obtain ⟨a, b, d⟩ := hh pt hp.1 hp.2 hw
      have h : Inv q wanted cost weight s df pt fed := ⟨c, hh⟩
      clear hh
      by_cases hlt : df pt < cost pt
      · cases fed with
        | true =>
          rw [turnD_was hw hP hlt] at hk
          exact ih (by omega) (h.on hp hC (hne _) (fun _ => by rw [hself]; exact ⟨by simp, b, hlt⟩)) hk
        | false =>
          by_cases hlt2 : df pt + q * weight pt < cost pt
          · rw [turnD_fed_no hw hP hV hlt hlt2] at hk
            exact ih (by omega) (h.on hp hC (hne _) (fun _ => by rw [hself]; exact ⟨by simp; omega, by omega, hlt2⟩)) hk
          · rw [turnD_fed_yes hw hP hV hlt (by omega)] at hk
            simp only [if_true] at hk
            cases hk
            exact ⟨hw, hp, h.serve hp (hne _) rfl (by simp only [hself]; exact ⟨by simp, by omega⟩)⟩
      · cases fed with
        | false => exact absurd (d (.inr rfl)) (by omega)
        | true =>
          rw [turnD_has hw hP (by omega)] at hk
          simp only [if_true] at hk
          cases hk
          exact ⟨hw, hp, h.serve hp (hne _) rfl (by simp only [hself]; exact ⟨by simp, by omega⟩)⟩

/-- What two were served is never far apart. -/
theorem Inv.apart {dear : Int} {k : Nat} (hq : 0 ≤ q) (hW : ∀ j, 1 ≤ j → j ≤ 28 → 1 ≤ weight j ∧ weight j ≤ 8) (hd : ∀ j, 1 ≤ j → j ≤ 28 → wanted j = true → cost j ≤ dear) (hd0 : 0 ≤ dear)
    (hp : 1 ≤ pt ∧ pt ≤ 28) (hk : 1 ≤ k ∧ k ≤ 28) (hwp : wanted pt = true) (hwk : wanted k = true) (h : Inv q wanted cost weight s df pt fed) :
    s pt * weight k - s k * weight pt ≤ (3 * q + 2 * dear) * weight pt * weight k := by
  obtain ⟨c, h⟩ := h
  obtain ⟨a1, b1, d1⟩ := h pt hp.1 hp.2 hwp
  obtain ⟨a2, b2, d2⟩ := h k hk.1 hk.2 hwk
  have w1 := hW pt hp.1 hp.2
  have w2 := hW k hk.1 hk.2
  have hc := hd k hk.1 hk.2 hwk
  have e1 : s pt ≤ q * weight pt * c + q * weight pt := by
    have : 0 ≤ q * weight pt := Int.mul_nonneg hq (by omega)
    split at a1 <;> omega
  have nn : 0 ≤ (3 * q + 2 * dear) * weight pt * weight k := Int.mul_nonneg (Int.mul_nonneg (by omega) (by omega)) (by omega)
  by_cases he : k = pt
  · subst he; omega
  · have e2 : q * weight k * c - dear ≤ s k := by
      have hlt := d2 (.inl he)
      have : 0 ≤ q * weight k := Int.mul_nonneg hq (by omega)
      split at a2 <;> omega
    have f1 : s pt * weight k ≤ (q * weight pt * c + q * weight pt) * weight k := Int.mul_le_mul_of_nonneg_right e1 (by omega)
    have f2 : (q * weight k * c - dear) * weight pt ≤ s k * weight pt := Int.mul_le_mul_of_nonneg_right e2 (by omega)
    have g1 : (q * weight pt * c + q * weight pt) * weight k - (q * weight k * c - dear) * weight pt = q * (weight pt * weight k) + dear * weight pt := by
      simp only [Int.add_mul, Int.sub_mul, Int.mul_assoc]
      have : q * (weight pt * (c * weight k)) = q * (weight k * (c * weight pt)) := by
        congr 1; rw [Int.mul_left_comm, Int.mul_comm (weight pt), ← Int.mul_assoc, Int.mul_comm c, Int.mul_assoc]
      omega
    have g2 : dear * weight pt ≤ dear * (weight pt * weight k) := by
      refine Int.mul_le_mul_of_nonneg_left ?_ hd0
      have : weight pt * 1 ≤ weight pt * weight k := Int.mul_le_mul_of_nonneg_left w2.1 (by omega)
      omega
    have g3 : (3 * q + 2 * dear) * weight pt * weight k = 3 * (q * (weight pt * weight k)) + 2 * (dear * (weight pt * weight k)) := by
      rw [Int.mul_assoc, Int.add_mul, Int.mul_assoc, Int.mul_assoc]
    have g4 : 0 ≤ q * (weight pt * weight k) := Int.mul_nonneg hq (Int.mul_nonneg (by omega) (by omega))
    have g5 : 0 ≤ dear * (weight pt * weight k) := Int.mul_nonneg hd0 (Int.mul_nonneg (by omega) (by omega))
    omega
end

end Go.Proofs.Ytfbfjlogcphlfaa
