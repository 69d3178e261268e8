/- The modes: plain Lean. No program. -/
import Derived.WalkKit
set_option linter.unusedSimpArgs false
set_option linter.unusedVariables false
namespace Go.Proofs.Ytmiobfnjegdhdaa

def mFlat : List Int := [0, 0, 0, 0,
  0, 16008, 3072, -235, 0, 21408, 5232, -124, 0, 25728, 6312, -30, 0, 32208, 7032, 100, 0, 38688, 9552, 223, 0, 43040, 10632, 310, 0, 48408, 11712, 403, 0, 51648, 12432, 468, 0, 53840, 13152, 518, 0, 57472, 14232, 620, 0, 58192, 0, 642,
  1, 38688, 9552, 550, 1, 43040, 10632, 662, 1, 48408, 11712, 791, 1, 53840, 13152, 935, 1, 57472, 14232, 1069, 1, 58192, 0, 1098,
  2, 43040, 10632, 897, 2, 48408, 11712, 1021, 2, 51648, 12432, 1103, 2, 53840, 13152, 1161, 2, 57472, 14232, 1289, 2, 58192, 0, 1313,
  3, 48408, 11712, 1273, 3, 51648, 12432, 1364, 3, 53840, 13152, 1428, 3, 57472, 14232, 1569, 3, 58192, 0, 1605]
/-- The column c of the row n. -/
def mAt (n c : Nat) : Int := mFlat.getD (4 * n + c) 0

/-- The rows below n are laid. -/
def mRows (n : Nat) : Array Value := ((List.range 116).map fun i => Value.int .i64 (if i < 4 * n then mFlat.getD i 0 else 0)).toArray
theorem mRows_size (n : Nat) : (mRows n).size = 116 := by simp [mRows]
theorem mRows_one (n : Nat) : (mRows n).all (·.oneCell') = true := by
  refine Array.all_eq_true_iff_forall_mem.2 (fun v hv => ?_)
  simp only [mRows, List.mem_toArray, List.mem_map] at hv
  obtain ⟨i, _, rfl⟩ := hv; rfl
theorem mRows_at (n i c : Nat) (hi : i < n) (hc : c < 4) (hn : n ≤ 29) : (mRows n)[4 * i + c]? = some (.int .i64 (mAt i c)) := by
  simp only [mRows, List.getElem?_toArray, List.getElem?_map, mAt]
  rw [List.getElem?_range (by omega)]
  simp only [Option.map_some]
  rw [if_pos (by omega)]
theorem mRows_next (n : Nat) (h : n < 29) :
    ((((mRows n).setIfInBounds (4 * n) (.int .i64 (mAt n 0))).setIfInBounds (4 * n + 1) (.int .i64 (mAt n 1))).setIfInBounds (4 * n + 2) (.int .i64 (mAt n 2))).setIfInBounds (4 * n + 3) (.int .i64 (mAt n 3)) = mRows (n + 1) := by
  simp only [mRows, List.setIfInBounds_toArray]
  congr 1
  apply List.ext_getElem?
  intro j
  simp only [List.getElem?_set, List.length_set, List.length_map, List.length_range, List.getElem?_map, mAt]
  by_cases hj : j < 116
  · rw [List.getElem?_range hj]
    simp only [Option.map_some]
    by_cases h3 : 4 * n + 3 = j
    · subst h3; first | (simp [hj]; done) | (simp [hj]; omega)
    · rw [if_neg h3]
      by_cases h2 : 4 * n + 2 = j
      · subst h2; first | (simp [hj]; done) | (simp [hj]; omega)
      · rw [if_neg h2]
        by_cases h1 : 4 * n + 1 = j
        · subst h1; first | (simp [hj]; done) | (simp [hj]; omega)
        · rw [if_neg h1]
          by_cases h0 : 4 * n = j
          · subst h0; first | (simp [hj]; done) | (simp [hj]; omega)
          · rw [if_neg h0]
            by_cases hlt : j < 4 * n
            · rw [if_pos hlt, if_pos (by omega)]
            · rw [if_neg hlt, if_neg (by omega)]
  · rw [if_neg (by omega), if_neg (by omega), if_neg (by omega), if_neg (by omega), List.getElem?_eq_none (by simpa using hj)]
    rfl

/-- The lists of the program. -/
def mLong : List Int := [16008, 21408, 25728, 32208, 38688, 43040, 48408, 51648, 53840, 57472, 58192]
def mShort : List Int := [3072, 5232, 6312, 7032, 9552, 10632, 11712, 12432, 13152, 14232, 0]
def mOf (m : Nat) : List Int := match m with
  | 0 => [0, 1, 2, 3, 4, 5, 6, 7, 8, 9, 10]
  | 1 => [4, 5, 6, 8, 9, 10]
  | 2 => [5, 6, 7, 8, 9, 10]
  | _ => [6, 7, 8, 9, 10]
def mNeed (m : Nat) : List Int := match m with
  | 0 => [-235, -124, -30, 100, 223, 310, 403, 468, 518, 620, 642]
  | 1 => [550, 662, 791, 935, 1069, 1098]
  | 2 => [897, 1021, 1103, 1161, 1289, 1313]
  | _ => [1273, 1364, 1428, 1569, 1605]
def mStart (m : Nat) : Nat := match m with
  | 0 => 1
  | 1 => 12
  | 2 => 18
  | 3 => 24
  | _ => 29
theorem mStart_next : ∀ m, m < 4 → mStart m + (mOf m).length = mStart (m + 1) ∧ (mNeed m).length = (mOf m).length := by decide
/-- What a round lays. -/
theorem m_round : ∀ m, m < 4 → ∀ i, i < (mOf m).length → ∃ r : Nat, r < 11 ∧ (mOf m)[i]? = some (r : Int) ∧
    mLong[r]? = some (mAt (mStart m + i) 1) ∧ mShort[r]? = some (mAt (mStart m + i) 2) ∧ (mNeed m)[i]? = some (mAt (mStart m + i) 3) ∧ (m : Int) = mAt (mStart m + i) 0 ∧ mStart m + i < 29 := by
  intro m hm i hi
  refine ⟨((mOf m).getD i 0).toNat, ?_⟩
  have : ∀ m, m < 4 → ∀ i, i < (mOf m).length → ((mOf m).getD i 0).toNat < 11 ∧ (mOf m)[i]? = some ((((mOf m).getD i 0).toNat : Nat) : Int) ∧
    mLong[((mOf m).getD i 0).toNat]? = some (mAt (mStart m + i) 1) ∧ mShort[((mOf m).getD i 0).toNat]? = some (mAt (mStart m + i) 2) ∧ (mNeed m)[i]? = some (mAt (mStart m + i) 3) ∧ (m : Int) = mAt (mStart m + i) 0 ∧ mStart m + i < 29 := by decide +kernel
  exact this m hm i hi

/-- The column c of the row of any number. -/
def inR (num : Int) : Bool := decide (1 ≤ num ∧ num ≤ 28)
def col (num : Int) (c : Nat) : Int := if inR num = true then mAt num.toNat c else 0
theorem mAt_bd : ∀ n, n < 29 → (0 ≤ mAt n 0 ∧ mAt n 0 ≤ 3) ∧ (0 ≤ mAt n 1 ∧ mAt n 1 ≤ 60000) ∧ (0 ≤ mAt n 2 ∧ mAt n 2 ≤ 16000) ∧ (-300 ≤ mAt n 3 ∧ mAt n 3 ≤ 1700) := by decide +kernel
theorem col_bd (num : Int) : (0 ≤ col num 0 ∧ col num 0 ≤ 3) ∧ (0 ≤ col num 1 ∧ col num 1 ≤ 60000) ∧ (0 ≤ col num 2 ∧ col num 2 ≤ 16000) ∧ (-300 ≤ col num 3 ∧ col num 3 ≤ 1700) := by
  unfold col
  split
  · rename_i h
    have h2 : 1 ≤ num ∧ num ≤ 28 := by simpa [inR] using h
    exact mAt_bd num.toNat (by omega)
  · decide
/-- Bits of a frame; 0: there is no such mode. -/
def mBits (num : Int) (short : Bool) : Int := if short = true then col num 2 else col num 1
def mIs (num : Int) (short : Bool) : Bool := decide (0 < mBits num short)
def mField (num : Int) (short : Bool) : Int := mBits num short / 8 - 10
def mAll (short : Bool) : Int := if short = true then 16200 else 64800
def mSlots (num : Int) (short : Bool) : Int := mAll short / (90 * (2 + col num 0))
def mSymbols (num : Int) (short pilots : Bool) : Int := 90 * (1 + mSlots num short) + (if pilots = true then 36 * ((mSlots num short - 1) / 16) else 0)
theorem mBits_bd (num : Int) (short : Bool) : 0 ≤ mBits num short ∧ mBits num short ≤ 60000 := by
  unfold mBits
  have := col_bd num
  split <;> omega
theorem mSlots_bd (num : Int) (short : Bool) : 1 ≤ mSlots num short ∧ mSlots num short ≤ 360 := by
  have := (col_bd num).1
  unfold mSlots mAll
  have h : col num 0 = 0 ∨ col num 0 = 1 ∨ col num 0 = 2 ∨ col num 0 = 3 := by omega
  rcases h with h | h | h | h <;> rw [h] <;> cases short <;> decide

theorem m_pos : ∀ n, n < 29 → 1 ≤ n → 0 < mAt n 1 := by decide +kernel
theorem mIs_false (num : Int) : mIs num false = inR num := by
  unfold mIs mBits col
  simp only [Bool.false_eq_true, if_false]
  cases h : inR num with
  | true =>
    have h2 : 1 ≤ num ∧ num ≤ 28 := by simpa [inR] using h
    have := m_pos num.toNat (by omega) (by omega)
    simpa using this
  | false => simp
theorem inR_of {num : Int} (h : inR num = true) : ∃ n : Nat, num = n ∧ 1 ≤ n ∧ n ≤ 28 := by
  have h2 : 1 ≤ num ∧ num ≤ 28 := by simpa [inR] using h
  exact ⟨num.toNat, by omega, by omega, by omega⟩
/-- Who needs less. -/
def sturd (a b : Int) : Bool := inR a && inR b && decide (col a 3 < col b 3)

/-- The reference's place in its rows of rates. -/
def mRate : List Int := [-1, 0, 1, 2, 3, 4, 5, 6, 7, 8, 9, 10, 4, 5, 6, 8, 9, 10, 5, 6, 7, 8, 9, 10, 6, 7, 8, 9, 10]
def rateOf (num : Int) : Int := if inR num = true then mRate.getD num.toNat (-1) else -1
theorem rate_laws : ∀ n, n < 29 → 1 ≤ n → (0 ≤ mRate.getD n (-1) ∧ mRate.getD n (-1) ≤ 10) ∧ mLong[(mRate.getD n (-1)).toNat]? = some (mAt n 1) ∧ mShort[(mRate.getD n (-1)).toNat]? = some (mAt n 2) ∧
    (0 < mAt n 1) ∧ (0 < mAt n 2 ↔ mRate.getD n (-1) ≠ 10) ∧ ((mRate.getD n (-1)) ≠ 10 → (mRate.getD n (-1)).toNat < 10) := by decide +kernel
/-- The multiples of sixteen, from 1 to k. -/
theorem mult16 (k : Nat) : ((k : Int) + 1) / 16 = (k : Int) / 16 + if ((k : Int) + 1) % 16 = 0 then 1 else 0 := by split <;> omega

end Go.Proofs.Ytmiobfnjegdhdaa
