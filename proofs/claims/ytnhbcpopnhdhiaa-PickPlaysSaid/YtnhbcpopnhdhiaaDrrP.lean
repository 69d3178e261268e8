/- The sharer as plain Lean: turns, and who comes next. No program. -/
import Derived.WalkKit
set_option linter.unusedSimpArgs false
set_option linter.unusedVariables false
namespace Go.Proofs.Ytnhbcpopnhdhiaa

def upd (df : Nat → Int) (i : Nat) (v : Int) : Nat → Int := fun k => if k = i then v else df k

def within (n high : Int) : Int := min (max n 1) high

/-- What the pointer's mode comes to. -/
def turnD (q : Int) (df : Nat → Int) (pt : Nat) (fed : Bool) (wanted : Nat → Bool) (cost weight : Nat → Int) : Bool × (Nat → Int) × Bool :=
  if wanted pt then
    let price := within (cost pt) 40000
    let own := df pt
    let own1 := if own < price ∧ fed = false then own + q * within (weight pt) 8 else own
    let fed1 := if own < price ∧ fed = false then true else fed
    if own1 < price then (false, upd df pt own1, fed1) else (true, upd df pt (own1 - price), fed1)
  else (false, upd df pt 0, fed)

section
variable {q : Int} {df : Nat → Int} {pt : Nat} {wanted : Nat → Bool} {cost weight : Nat → Int} {price wv : Int}
theorem turnD_fed_no (hn : wanted pt = true) (hP : within (cost pt) 40000 = price) (hV : within (weight pt) 8 = wv) (h1 : df pt < price) (h2 : df pt + q * wv < price) :
    turnD q df pt false wanted cost weight = (false, upd df pt (df pt + q * wv), true) := by simp [turnD, hn, hP, hV, h1, h2]
theorem turnD_fed_yes (hn : wanted pt = true) (hP : within (cost pt) 40000 = price) (hV : within (weight pt) 8 = wv) (h1 : df pt < price) (h2 : price ≤ df pt + q * wv) :
    turnD q df pt false wanted cost weight = (true, upd df pt (df pt + q * wv - price), true) := by
  have h3 : ¬ df pt + q * wv < price := by omega
  simp [turnD, hn, hP, hV, h1, h3]
theorem turnD_has {fed : Bool} (hn : wanted pt = true) (hP : within (cost pt) 40000 = price) (h1 : price ≤ df pt) :
    turnD q df pt fed wanted cost weight = (true, upd df pt (df pt - price), fed) := by
  have h3 : ¬ df pt < price := by omega
  simp [turnD, hn, hP, h3]
theorem turnD_was (hn : wanted pt = true) (hP : within (cost pt) 40000 = price) (h1 : df pt < price) :
    turnD q df pt true wanted cost weight = (false, upd df pt (df pt), true) := by
  simp [turnD, hn, hP, h1]
theorem upd_upd (df : Nat → Int) (i : Nat) (x y : Int) : upd (upd df i x) i y = upd df i y := by funext k; unfold upd; split <;> rfl
theorem upd_self (df : Nat → Int) (i : Nat) : upd df i (df i) = df := by funext k; unfold upd; split <;> simp_all
end

section
variable {q : Int} {wanted : Nat → Bool} {cost weight : Nat → Int}

theorem within_bd (a b : Int) (hb : 1 ≤ b) : 1 ≤ within a b ∧ within a b ≤ b := by unfold within; omega

/-- Who comes next: in k turns at most. -/
def nextF (q : Int) (wanted : Nat → Bool) (cost weight : Nat → Int) : Nat → (Nat → Int) → Nat → Bool → Option ((Nat → Int) × Nat × Bool)
  | 0, _, _, _ => none
  | k + 1, df, pt, fed =>
    if (turnD q df pt fed wanted cost weight).1 then some ((turnD q df pt fed wanted cost weight).2.1, pt, (turnD q df pt fed wanted cost weight).2.2)
    else nextF q wanted cost weight k (turnD q df pt fed wanted cost weight).2.1 (pt % 28 + 1) false

/-- The next one of a sharer, whatever turns it takes. -/
def NextR (q : Int) (wanted : Nat → Bool) (cost weight : Nat → Int) (df : Nat → Int) (pt : Nat) (fed : Bool) (r : (Nat → Int) × Nat × Bool) : Prop := ∃ k, nextF q wanted cost weight k df pt fed = some r

theorem nextF_mono {k : Nat} {df : Nat → Int} {pt : Nat} {fed : Bool} {r : (Nat → Int) × Nat × Bool} (h : nextF q wanted cost weight k df pt fed = some r) (j : Nat) (hj : k ≤ j) : nextF q wanted cost weight j df pt fed = some r := by
  induction k generalizing df pt fed j with
  | zero => simp [nextF] at h
  | succ k ih =>
    obtain ⟨j, rfl⟩ : ∃ i, j = i + 1 := ⟨j - 1, by omega⟩
    simp only [nextF] at h ⊢
    split
    · rename_i ht; rw [if_pos ht] at h; exact h
    · rename_i ht; rw [if_neg ht] at h; exact ih h j (by omega)

theorem NextR.det {df : Nat → Int} {pt : Nat} {fed : Bool} {r r' : (Nat → Int) × Nat × Bool} (h : NextR q wanted cost weight df pt fed r) (k : NextR q wanted cost weight df pt fed r') : r = r' := by
  obtain ⟨a, ha⟩ := h
  obtain ⟨b, hb⟩ := k
  have h1 := nextF_mono ha (a + b) (by omega)
  have h2 := nextF_mono hb (a + b) (by omega)
  rw [h1] at h2
  exact Option.some.inj h2

theorem NextR.stop {df : Nat → Int} {pt : Nat} {fed : Bool} (h : (turnD q df pt fed wanted cost weight).1 = true) :
    NextR q wanted cost weight df pt fed ((turnD q df pt fed wanted cost weight).2.1, pt, (turnD q df pt fed wanted cost weight).2.2) := ⟨1, by simp [nextF, h]⟩
theorem NextR.on {df : Nat → Int} {pt : Nat} {fed : Bool} {r : (Nat → Int) × Nat × Bool} (h : (turnD q df pt fed wanted cost weight).1 = false)
    (k : NextR q wanted cost weight (turnD q df pt fed wanted cost weight).2.1 (pt % 28 + 1) false r) : NextR q wanted cost weight df pt fed r := by
  obtain ⟨n, hn⟩ := k
  exact ⟨n + 1, by simp [nextF, h, hn]⟩

/-- Deficits that no sum runs over. -/
def Dok (df : Nat → Int) : Prop := ∀ m, 0 ≤ df m ∧ df m ≤ 1000000000000

theorem Dok.turn {df : Nat → Int} {pt : Nat} {fed : Bool} (hq : 0 ≤ q ∧ q ≤ 1000000) (h : Dok df) : Dok (turnD q df pt fed wanted cost weight).2.1 := by
  intro m
  have hm := h m
  have hp := h pt
  have h1 := within_bd (cost pt) 40000 (by omega)
  have h2 := within_bd (weight pt) 8 (by omega)
  have hmul : 0 ≤ q * within (weight pt) 8 ∧ q * within (weight pt) 8 ≤ 8000000 := by
    refine ⟨Int.mul_nonneg hq.1 (by omega), ?_⟩
    have : q * within (weight pt) 8 ≤ 1000000 * within (weight pt) 8 := Int.mul_le_mul_of_nonneg_right hq.2 (by omega)
    omega
  unfold turnD
  generalize within (weight pt) 8 = wv at *
  generalize within (cost pt) 40000 = price at *
  generalize q * wv = x at *
  dsimp only
  split
  · split <;> split <;> simp only [upd] <;> split <;> omega
  · simp only [upd]; split <;> omega

/-- How many turns are still to come, at most, till the wanted mode m0 is served. -/
def mu (m0 : Nat) (df : Nat → Int) (pt : Nat) (fed : Bool) : Nat := (40001 - df m0).toNat * 29 + (m0 + 28 - pt) % 28 + (if fed then 28 else 0)

theorem mu_on {m0 : Nat} {df : Nat → Int} {pt : Nat} {fed : Bool} (hq : 1000 ≤ q) (hm : 1 ≤ m0 ∧ m0 ≤ 28) (hp : 1 ≤ pt ∧ pt ≤ 28) (hw : wanted m0 = true) (h : (turnD q df pt fed wanted cost weight).1 = false) :
    mu m0 (turnD q df pt fed wanted cost weight).2.1 (pt % 28 + 1) false < mu m0 df pt fed := by
  have h1 := within_bd (cost pt) 40000 (by omega)
  have h2 := within_bd (weight pt) 8 (by omega)
  have hmul : 1000 ≤ q * within (weight pt) 8 := by
    have : q * 1 ≤ q * within (weight pt) 8 := Int.mul_le_mul_of_nonneg_left h2.1 (by omega)
    omega
  unfold turnD at h ⊢
  generalize within (weight pt) 8 = wv at *
  generalize within (cost pt) 40000 = price at *
  generalize q * wv = x at *
  dsimp only at h ⊢
  by_cases he : pt = m0
  · subst he
    rw [hw] at h ⊢
    simp only [if_true] at h ⊢
    cases fed
    · by_cases hlt : df pt < price
      · simp only [hlt, true_and, if_true] at h ⊢
        by_cases hlt2 : df pt + x < price
        · simp only [hlt2, if_true, mu, upd] at h ⊢
          have hA : (40001 - (df pt + x)).toNat + 1 ≤ (40001 - df pt).toNat := by omega
          have hC : (pt + 28 - (pt % 28 + 1)) % 28 ≤ 27 := Nat.le_of_lt_succ (Nat.mod_lt _ (by omega))
          generalize (40001 - (df pt + x)).toNat = A at *
          generalize (40001 - df pt).toNat = B at *
          generalize (pt + 28 - (pt % 28 + 1)) % 28 = C at *
          simp
          omega
        · simp only [hlt2, if_false] at h; cases h
      · simp only [hlt, false_and, if_false] at h; cases h
    · by_cases hlt : df pt < price
      · simp only [hlt, Bool.true_eq_false, and_false, if_false, if_true, mu, upd] at h ⊢
        have hC : (pt + 28 - (pt % 28 + 1)) % 28 ≤ 27 := Nat.le_of_lt_succ (Nat.mod_lt _ (by omega))
        generalize (40001 - df pt).toNat = B at *
        generalize (pt + 28 - (pt % 28 + 1)) % 28 = C at *
        simp
        omega
      · simp only [hlt, false_and, if_false] at h; cases h
  · have hu : ∀ v, upd df pt v m0 = df m0 := fun v => by simp [upd, Ne.symm he]
    have hd : (m0 + 28 - (pt % 28 + 1)) % 28 < (m0 + 28 - pt) % 28 := by omega
    have key : ∀ g : Nat → Int, g m0 = df m0 → mu m0 g (pt % 28 + 1) false < mu m0 df pt fed := fun g hgm => by
      simp only [mu, hgm]
      generalize (40001 - df m0).toNat = B at *
      generalize (m0 + 28 - (pt % 28 + 1)) % 28 = C at *
      generalize (m0 + 28 - pt) % 28 = D at *
      cases fed <;> simp <;> omega
    refine key _ ?_
    clear key h
    repeat' split
    all_goals exact hu _

/-- The reference's rounds: the pointer's mode is fed in a round of its own. -/
theorem NextR.feed {df : Nat → Int} {pt : Nat} {r : (Nat → Int) × Nat × Bool} (hw : wanted pt = true) (hlt : df pt < within (cost pt) 40000)
    (k : NextR q wanted cost weight (upd df pt (df pt + q * within (weight pt) 8)) pt true r) : NextR q wanted cost weight df pt false r := by
  have hu : upd df pt (df pt + q * within (weight pt) 8) pt = df pt + q * within (weight pt) 8 := by simp [upd]
  have ht : turnD q (upd df pt (df pt + q * within (weight pt) 8)) pt true wanted cost weight = turnD q df pt false wanted cost weight := by
    unfold turnD
    simp [hw, hu, hlt, upd_upd]
  obtain ⟨n, hn⟩ := k
  cases n with
  | zero => simp [nextF] at hn
  | succ n =>
    refine ⟨n + 1, ?_⟩
    simp only [nextF, ht] at hn ⊢
    exact hn

/-- How many rounds of the reference's are still to come, at most. -/
def muR (m0 : Nat) (df : Nat → Int) (pt : Nat) (fed : Bool) : Nat := (40001 - df m0).toNat * 58 + 2 * ((m0 + 28 - pt) % 28) + (if fed then (if pt = m0 then 57 else 0) else 1)

theorem muR_feed {m0 : Nat} {df : Nat → Int} {pt : Nat} (hq : 1000 ≤ q) (hlt : df pt < within (cost pt) 40000) :
    muR m0 (upd df pt (df pt + q * within (weight pt) 8)) pt true < muR m0 df pt false := by
  have h1 := within_bd (cost pt) 40000 (by omega)
  have h2 := within_bd (weight pt) 8 (by omega)
  have hmul : 1000 ≤ q * within (weight pt) 8 := by
    have : q * 1 ≤ q * within (weight pt) 8 := Int.mul_le_mul_of_nonneg_left h2.1 (by omega)
    omega
  generalize within (weight pt) 8 = wv at *
  generalize within (cost pt) 40000 = price at *
  generalize q * wv = x at *
  unfold muR
  by_cases he : pt = m0
  · subst he
    have hA : (40001 - (df pt + x)).toNat + 1 ≤ (40001 - df pt).toNat := by omega
    have hu : upd df pt (df pt + x) pt = df pt + x := by simp [upd]
    rw [hu]
    generalize (40001 - (df pt + x)).toNat = A at *
    generalize (40001 - df pt).toNat = B at *
    generalize (pt + 28 - pt) % 28 = C at *
    simp
    omega
  · have hu : upd df pt (df pt + x) m0 = df m0 := by simp [upd, Ne.symm he]
    rw [hu]
    generalize (40001 - df m0).toNat = B at *
    generalize (m0 + 28 - pt) % 28 = C at *
    simp [he]

/-- The pointer goes on: its mode was fed already, or it is not wanted. -/
theorem muR_on {m0 : Nat} {df g : Nat → Int} {pt : Nat} {fed : Bool} (hm : 1 ≤ m0 ∧ m0 ≤ 28) (hp : 1 ≤ pt ∧ pt ≤ 28) (h : fed = true ∨ pt ≠ m0) (hg : g m0 = df m0) :
    muR m0 g (pt % 28 + 1) false < muR m0 df pt fed := by
  unfold muR
  rw [hg]
  generalize (40001 - df m0).toNat = B at *
  by_cases he : pt = m0
  · subst he
    have hf : fed = true := h.resolve_right (fun h => h rfl)
    have hC : (pt + 28 - (pt % 28 + 1)) % 28 ≤ 27 := Nat.le_of_lt_succ (Nat.mod_lt _ (by omega))
    generalize (pt + 28 - (pt % 28 + 1)) % 28 = C at *
    subst hf
    simp
    omega
  · have hd : (m0 + 28 - (pt % 28 + 1)) % 28 < (m0 + 28 - pt) % 28 := by omega
    generalize (m0 + 28 - (pt % 28 + 1)) % 28 = C at *
    generalize (m0 + 28 - pt) % 28 = D at *
    cases fed <;> simp [he] <;> omega
end

end Go.Proofs.Ytnhbcpopnhdhiaa
