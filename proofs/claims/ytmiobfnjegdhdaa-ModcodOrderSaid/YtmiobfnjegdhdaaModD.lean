/- The reference's functions of modes, walked. -/
import Derived.Test.YtmiobfnjegdhdaaModC
set_option linter.unusedSimpArgs false
set_option linter.unusedVariables false
namespace Go.Proofs.Ytmiobfnjegdhdaa
open Go.RowKit

theorem lit_cell (w : World) (t : TypeId) (l : List Int) (k : Nat) (x : Int) (h : l[k]? = some x) : (w.alloc (.cells (l.map (Value.int .i64)).toArray t)).cell? ⟨w.heap.size, k, none⟩ = some (.int .i64 x) := by
  rw [(Blk.new w t _).cell]
  simp [h]

theorem rate_a (n : Nat) (hn : 1 ≤ n ∧ n ≤ 11) (w : World) :
    Calls Try.prog 23 #[.int .i64 (n : Int)] w fun e w' => e = .returned (.int .i64 ((n : Int) - 1)) ∧ Below w.heap.size w w' := by
  obtain ⟨h1, h2⟩ := hn
  have g1 : decide ((1 : Int) ≤ n) = true := by simp; omega
  have g2 : decide ((n : Int) ≤ 11) = true := by simp; omega
  go_enter Try.func23, Try.ntmps23
  go_wp2_with fail
  go_ret
  exact ⟨rfl, Below.refl _ _⟩

theorem rate_b (k : Nat) (x : Int) (hk : k < 6) (hx : ([4, 5, 6, 8, 9, 10] : List Int)[k]? = some x) (w : World) :
    Calls Try.prog 23 #[.int .i64 (12 + (k : Int))] w fun e w' => e = .returned (.int .i64 x) ∧ Below w.heap.size w w' := by
  have g0 : decide ((12 : Int) + k ≤ 11) = false := by first | (rw [decide_eq_true_iff]; omega) | (rw [decide_eq_false_iff_not]; omega)
  have l0 : decide ((1 : Int) ≤ 12 + k) = true := by first | (rw [decide_eq_true_iff]; omega) | (rw [decide_eq_false_iff_not]; omega)
  have ge : decide ((12 : Int) ≤ 12 + k) = true := by rw [decide_eq_true_iff]; omega
  have gf : decide ((12 : Int) + k ≤ 17) = true := by rw [decide_eq_true_iff]; omega
  have c := lit_cell w 3 [4, 5, 6, 8, 9, 10] k x hx
  simp only [List.map_cons, List.map_nil] at c
  have hk' : (k : Int) < 6 := by omega
  have hs : (12 : Int) + k - 12 = k := by omega
  clear hx
  go_enter Try.func23, Try.ntmps23
  go_wp2_with fail
  go_ret
  exact ⟨rfl, (Below.refl _ _).alloc (Nat.le_refl _) _⟩

theorem rate_c (k : Nat) (x : Int) (hk : k < 6) (hx : ([5, 6, 7, 8, 9, 10] : List Int)[k]? = some x) (w : World) :
    Calls Try.prog 23 #[.int .i64 (18 + (k : Int))] w fun e w' => e = .returned (.int .i64 x) ∧ Below w.heap.size w w' := by
  have g0 : decide ((18 : Int) + k ≤ 11) = false := by first | (rw [decide_eq_true_iff]; omega) | (rw [decide_eq_false_iff_not]; omega)
  have l0 : decide ((1 : Int) ≤ 18 + k) = true := by first | (rw [decide_eq_true_iff]; omega) | (rw [decide_eq_false_iff_not]; omega)
  have g1 : decide ((18 : Int) + k ≤ 17) = false := by first | (rw [decide_eq_true_iff]; omega) | (rw [decide_eq_false_iff_not]; omega)
  have l1 : decide ((12 : Int) ≤ 18 + k) = true := by first | (rw [decide_eq_true_iff]; omega) | (rw [decide_eq_false_iff_not]; omega)
  have ge : decide ((18 : Int) ≤ 18 + k) = true := by rw [decide_eq_true_iff]; omega
  have gf : decide ((18 : Int) + k ≤ 23) = true := by rw [decide_eq_true_iff]; omega
  have c := lit_cell w 3 [5, 6, 7, 8, 9, 10] k x hx
  simp only [List.map_cons, List.map_nil] at c
  have hk' : (k : Int) < 6 := by omega
  have hs : (18 : Int) + k - 18 = k := by omega
  clear hx
  go_enter Try.func23, Try.ntmps23
  go_wp2_with fail
  go_ret
  exact ⟨rfl, (Below.refl _ _).alloc (Nat.le_refl _) _⟩

theorem rate_d (k : Nat) (x : Int) (hk : k < 5) (hx : ([6, 7, 8, 9, 10] : List Int)[k]? = some x) (w : World) :
    Calls Try.prog 23 #[.int .i64 (24 + (k : Int))] w fun e w' => e = .returned (.int .i64 x) ∧ Below w.heap.size w w' := by
  have g0 : decide ((24 : Int) + k ≤ 11) = false := by first | (rw [decide_eq_true_iff]; omega) | (rw [decide_eq_false_iff_not]; omega)
  have l0 : decide ((1 : Int) ≤ 24 + k) = true := by first | (rw [decide_eq_true_iff]; omega) | (rw [decide_eq_false_iff_not]; omega)
  have g1 : decide ((24 : Int) + k ≤ 17) = false := by first | (rw [decide_eq_true_iff]; omega) | (rw [decide_eq_false_iff_not]; omega)
  have l1 : decide ((12 : Int) ≤ 24 + k) = true := by first | (rw [decide_eq_true_iff]; omega) | (rw [decide_eq_false_iff_not]; omega)
  have g2 : decide ((24 : Int) + k ≤ 23) = false := by first | (rw [decide_eq_true_iff]; omega) | (rw [decide_eq_false_iff_not]; omega)
  have l2 : decide ((18 : Int) ≤ 24 + k) = true := by first | (rw [decide_eq_true_iff]; omega) | (rw [decide_eq_false_iff_not]; omega)
  have ge : decide ((24 : Int) ≤ 24 + k) = true := by rw [decide_eq_true_iff]; omega
  have gf : decide ((24 : Int) + k ≤ 28) = true := by rw [decide_eq_true_iff]; omega
  have c := lit_cell w 3 [6, 7, 8, 9, 10] k x hx
  simp only [List.map_cons, List.map_nil] at c
  have hk' : (k : Int) < 5 := by omega
  have hs : (24 : Int) + k - 24 = k := by omega
  clear hx
  go_enter Try.func23, Try.ntmps23
  go_wp2_with fail
  go_ret
  exact ⟨rfl, (Below.refl _ _).alloc (Nat.le_refl _) _⟩

theorem rate_lo (num : Int) (h : num < 1) (w : World) :
    Calls Try.prog 23 #[.int .i64 num] w fun e w' => e = .returned (.int .i64 (-1)) ∧ Below w.heap.size w w' := by
  have g1 : decide ((1 : Int) ≤ num) = false := by rw [decide_eq_false_iff_not]; omega
  have l1 : decide (num ≤ 11) = true := by rw [decide_eq_true_iff]; omega
  have g12 : decide ((12 : Int) ≤ num) = false := by rw [decide_eq_false_iff_not]; omega
  have l12 : decide (num ≤ 17) = true := by rw [decide_eq_true_iff]; omega
  have g18 : decide ((18 : Int) ≤ num) = false := by rw [decide_eq_false_iff_not]; omega
  have l18 : decide (num ≤ 23) = true := by rw [decide_eq_true_iff]; omega
  have g24 : decide ((24 : Int) ≤ num) = false := by rw [decide_eq_false_iff_not]; omega
  have l24 : decide (num ≤ 28) = true := by rw [decide_eq_true_iff]; omega
  clear h
  go_enter Try.func23, Try.ntmps23
  go_wp2_with fail
  go_ret
  exact ⟨rfl, Below.refl _ _⟩

theorem rate_hi (num : Int) (h : 28 < num) (w : World) :
    Calls Try.prog 23 #[.int .i64 num] w fun e w' => e = .returned (.int .i64 (-1)) ∧ Below w.heap.size w w' := by
  have g1 : decide ((1 : Int) ≤ num) = true := by rw [decide_eq_true_iff]; omega
  have l1 : decide (num ≤ 11) = false := by rw [decide_eq_false_iff_not]; omega
  have g12 : decide ((12 : Int) ≤ num) = true := by rw [decide_eq_true_iff]; omega
  have l12 : decide (num ≤ 17) = false := by rw [decide_eq_false_iff_not]; omega
  have g18 : decide ((18 : Int) ≤ num) = true := by rw [decide_eq_true_iff]; omega
  have l18 : decide (num ≤ 23) = false := by rw [decide_eq_false_iff_not]; omega
  have g24 : decide ((24 : Int) ≤ num) = true := by rw [decide_eq_true_iff]; omega
  have l24 : decide (num ≤ 28) = false := by rw [decide_eq_false_iff_not]; omega
  clear h
  go_enter Try.func23, Try.ntmps23
  go_wp2_with fail
  go_ret
  exact ⟨rfl, Below.refl _ _⟩

theorem mRate_1 : ∀ n, 1 ≤ n → n ≤ 11 → mRate.getD n (-1) = (n : Int) - 1 := by
  have : ∀ n, n < 12 → 1 ≤ n → mRate.getD n (-1) = (n : Int) - 1 := by decide
  intro n h1 h2; exact this n (by omega) h1
theorem mRate_2 : ∀ k, k < 6 → ([4, 5, 6, 8, 9, 10] : List Int)[k]? = some (mRate.getD (12 + k) (-1)) := by decide
theorem mRate_3 : ∀ k, k < 6 → ([5, 6, 7, 8, 9, 10] : List Int)[k]? = some (mRate.getD (18 + k) (-1)) := by decide
theorem mRate_4 : ∀ k, k < 5 → ([6, 7, 8, 9, 10] : List Int)[k]? = some (mRate.getD (24 + k) (-1)) := by decide

theorem rate_any (num : Int) (w : World) :
    Calls Try.prog 23 #[.int .i64 num] w fun e w' => e = .returned (.int .i64 (rateOf num)) ∧ Below w.heap.size w w' := by
  cases hi : inR num with
  | false =>
    have h2 : ¬ (1 ≤ num ∧ num ≤ 28) := by simpa [inR] using hi
    rw [show rateOf num = -1 by simp [rateOf, hi]]
    by_cases h : num < 1
    · exact rate_lo num h w
    · exact rate_hi num (by omega) w
  | true =>
    obtain ⟨n, rfl, h1, h2⟩ := inR_of hi
    rw [show rateOf (n : Int) = mRate.getD n (-1) by simp [rateOf, hi]]
    by_cases ha : n ≤ 11
    · rw [mRate_1 n h1 ha]; exact rate_a n ⟨h1, ha⟩ w
    · by_cases hb : n ≤ 17
      · obtain ⟨k, rfl⟩ : ∃ k, n = 12 + k := ⟨n - 12, by omega⟩
        have := rate_b k _ (by omega) (mRate_2 k (by omega)) w
        simpa using this
      · by_cases hc : n ≤ 23
        · obtain ⟨k, rfl⟩ : ∃ k, n = 18 + k := ⟨n - 18, by omega⟩
          have := rate_c k _ (by omega) (mRate_3 k (by omega)) w
          simpa using this
        · obtain ⟨k, rfl⟩ : ∃ k, n = 24 + k := ⟨n - 24, by omega⟩
          have := rate_d k _ (by omega) (mRate_4 k (by omega)) w
          simpa using this

/-- What is and is not, by rates. -/
theorem mIs_rate (num : Int) (short : Bool) : mIs num short = (decide (0 ≤ rateOf num) && !(short && (rateOf num == 10))) := by
  cases hi : inR num with
  | false => cases short <;> simp [mIs, mBits, col, rateOf, hi]
  | true =>
    obtain ⟨n, rfl, h1, h2⟩ := inR_of hi
    obtain ⟨⟨l0, l1⟩, l2, l3, l4, l5, l6⟩ := rate_laws n (by omega) h1
    have hr : rateOf (n : Int) = mRate.getD n (-1) := by simp [rateOf, hi]
    rw [hr, show decide (0 ≤ mRate.getD n (-1)) = true from decide_eq_true l0]
    cases short
    · simp only [mIs, mBits, col, hi, if_true, Int.toNat_natCast]; simp; exact l4
    · simp only [mIs, mBits, col, hi, if_true, Int.toNat_natCast, Bool.true_and]
      rw [Bool.eq_iff_iff]
      simp only [decide_eq_true_iff, Bool.not_eq_true', beq_eq_false_iff_ne]
      exact l5

theorem RIs_any (num : Int) (short pil : Bool) (w : World) :
    Calls Try.prog 8 #[.agg (modeV num short pil)] w fun e w' => e = .returned (.bool (mIs num short)) ∧ Below w.heap.size w w' := by
  have key : ∀ x b, decide (0 ≤ rateOf num) = x → short = b → Calls Try.prog 8 #[.agg (modeV num b pil)] w fun e w' => e = .returned (.bool (x && !(b && (rateOf num == 10)))) ∧ Below w.heap.size w w' := by
    intro x b hx hb
    clear hb
    cases x <;> cases b
    all_goals
      go_enter Try.func8, Try.ntmps8
      go_wp2_with fail
      refine (rate_any _ _).mono ?_
      rintro e w1 ⟨rfl, hb1⟩
      have hy := (Blk.new w 23 _).below hb1 (by simp)
      have c0 := hy.cell 0
      have c1 := hy.cell 1
      have hbw : Below w.heap.size w w1 := ((Below.refl _ w).alloc (Nat.le_refl _) _).trans (hb1.mono (by simp))
      have hl := hy.lt
      have HB := Lib.hid hbw
      clear hb1 hbw hy
      generalize hr : rateOf num = r at *
      have HR := Lib.hid hr
      clear hr
      go_wp2_with fail
      first
        | (go_ret
           exact ⟨ret_bool (by simp), HB.out⟩)
        | (refine (rate_any _ _).mono ?_
           rintro e w2 ⟨rfl, hb2⟩
           have H2 := Lib.hid hb2
           clear hb2
           rw [HR.out]
           go_wp2_with fail
           go_ret
           exact ⟨ret_bool (by simp [HR.out]), HB.out.trans (H2.out.mono HB.out.size)⟩)
  rw [mIs_rate]
  exact key _ _ rfl rfl

theorem RKbch_short (n : Nat) (pil : Bool) (w : World) (h : 1 ≤ n ∧ n ≤ 28) (hi : mIs (n : Int) true = true) :
    Calls Try.prog 14 #[.agg (modeV n true pil)] w fun e w' => e = .returned (.int .i64 (mBits n true)) ∧ Below w.heap.size w w' := by
  have hin : inR (n : Int) = true := by simp [inR]; omega
  have hr : rateOf (n : Int) = mRate.getD n (-1) := by simp [rateOf, hin]
  have hm := mIs_rate (n : Int) true
  obtain ⟨⟨l0, l1⟩, l2, l3, l4, l5, l6⟩ := rate_laws n (by omega) h.1
  rw [← hr] at l0 l1 l2 l3 l5 l6
  have hbits : mBits (n : Int) true = mAt n 2 := by simp [mBits, col, hin]
  obtain ⟨k, hk⟩ : ∃ k : Nat, rateOf (n : Int) = k := ⟨(rateOf (n : Int)).toNat, by omega⟩
  have hx : ([3072, 5232, 6312, 7032, 9552, 10632, 11712, 12432, 13152, 14232] : List Int)[k]? = some (mAt n 2) := by
    rw [hk, Int.toNat_natCast] at l2 l3
    have hne : rateOf (n : Int) ≠ 10 := by
      intro he
      rw [hi, he] at hm
      simp at hm
    have hk10 := l6 hne
    rw [hk, Int.toNat_natCast] at hk10
    rw [← l3]
    unfold mShort
    match k, hk10 with
    | 0, _ => rfl
    | 1, _ => rfl
    | 2, _ => rfl
    | 3, _ => rfl
    | 4, _ => rfl
    | 5, _ => rfl
    | 6, _ => rfl
    | 7, _ => rfl
    | 8, _ => rfl
    | 9, _ => rfl
  have hkl : (k : Int) < 10 := by
    have := (List.getElem?_eq_some_iff.1 hx).1
    simp at this; omega
  have H := Lib.hid (And.intro hk (And.intro hx hbits))
  clear hin hr hm l0 l1 l2 l3 l4 l5 l6 hbits hk hx hi h
  go_enter Try.func14, Try.ntmps14
  go_wp2_with fail
  refine (rate_any _ _).mono ?_
  rintro e w1 ⟨rfl, hb1⟩
  rw [H.out.1]
  have c := ((Blk.new (w.alloc (.cells (modeV n true pil) 23)) 3 (ints [3072, 5232, 6312, 7032, 9552, 10632, 11712, 12432, 13152, 14232])).below hb1 (by simp)).cell k
  rw [ints_at H.out.2.1] at c
  have hl := ((Blk.new (w.alloc (.cells (modeV n true pil) 23)) 3 (ints [3072, 5232, 6312, 7032, 9552, 10632, 11712, 12432, 13152, 14232])).below hb1 (by simp)).lt
  simp only [World.size_alloc] at c hl
  have hbw : Below w.heap.size w w1 := (((Below.refl _ w).alloc (Nat.le_refl _) _).alloc (by simp) _).trans (hb1.mono (by simp; omega))
  have HB := Lib.hid hbw
  clear hb1 hbw
  go_wp2_with fail
  go_ret
  exact ⟨ret_int H.out.2.2.symm, HB.out⟩

theorem RKbch_long (n : Nat) (pil : Bool) (w : World) (h : 1 ≤ n ∧ n ≤ 28) (hi : mIs (n : Int) false = true) :
    Calls Try.prog 14 #[.agg (modeV n false pil)] w fun e w' => e = .returned (.int .i64 (mBits n false)) ∧ Below w.heap.size w w' := by
  have hin : inR (n : Int) = true := by simp [inR]; omega
  have hr : rateOf (n : Int) = mRate.getD n (-1) := by simp [rateOf, hin]
  have hm := mIs_rate (n : Int) false
  obtain ⟨⟨l0, l1⟩, l2, l3, l4, l5, l6⟩ := rate_laws n (by omega) h.1
  rw [← hr] at l0 l1 l2 l3 l5 l6
  have hbits : mBits (n : Int) false = mAt n 1 := by simp [mBits, col, hin]
  obtain ⟨k, hk⟩ : ∃ k : Nat, rateOf (n : Int) = k := ⟨(rateOf (n : Int)).toNat, by omega⟩
  have hx : ([16008, 21408, 25728, 32208, 38688, 43040, 48408, 51648, 53840, 57472, 58192] : List Int)[k]? = some (mAt n 1) := by
    rw [hk, Int.toNat_natCast] at l2 l3
    exact l2
  have hkl : (k : Int) < 11 := by
    have := (List.getElem?_eq_some_iff.1 hx).1
    simp at this; omega
  have H := Lib.hid (And.intro hk (And.intro hx hbits))
  clear hin hr hm l0 l1 l2 l3 l4 l5 l6 hbits hk hx hi h
  go_enter Try.func14, Try.ntmps14
  go_wp2_with fail
  refine (rate_any _ _).mono ?_
  rintro e w1 ⟨rfl, hb1⟩
  rw [H.out.1]
  have c := ((Blk.new (w.alloc (.cells (modeV n false pil) 23)) 3 (ints [16008, 21408, 25728, 32208, 38688, 43040, 48408, 51648, 53840, 57472, 58192])).below hb1 (by simp)).cell k
  rw [ints_at H.out.2.1] at c
  have hl := ((Blk.new (w.alloc (.cells (modeV n false pil) 23)) 3 (ints [16008, 21408, 25728, 32208, 38688, 43040, 48408, 51648, 53840, 57472, 58192])).below hb1 (by simp)).lt
  simp only [World.size_alloc] at c hl
  have hbw : Below w.heap.size w w1 := (((Below.refl _ w).alloc (Nat.le_refl _) _).alloc (by simp) _).trans (hb1.mono (by simp; omega))
  have HB := Lib.hid hbw
  clear hb1 hbw
  go_wp2_with fail
  go_ret
  exact ⟨ret_int H.out.2.2.symm, HB.out⟩

theorem RKbch_yes (n : Nat) (short pil : Bool) (w : World) (h : 1 ≤ n ∧ n ≤ 28) (hi : mIs (n : Int) short = true) :
    Calls Try.prog 14 #[.agg (modeV n short pil)] w fun e w' => e = .returned (.int .i64 (mBits n short)) ∧ Below w.heap.size w w' := by
  cases short
  · exact RKbch_long n pil w h hi
  · exact RKbch_short n pil w h hi

theorem RField_yes (n : Nat) (short pil : Bool) (w : World) (h : 1 ≤ n ∧ n ≤ 28) (hi : mIs (n : Int) short = true) :
    Calls Try.prog 15 #[.agg (modeV n short pil)] w fun e w' => e = .returned (.int .i64 (mField n short)) ∧ Below w.heap.size w w' := by
  have H := Lib.hid (And.intro h hi)
  clear h hi
  go_enter Try.func15, Try.ntmps15
  go_wp2_with fail
  refine (RKbch_yes n short pil _ H.out.1 H.out.2).mono ?_
  rintro e w1 ⟨rfl, hb1⟩
  have HB := Lib.hid hb1
  clear hb1
  have hbd := mBits_bd (n : Int) short
  generalize hx : mBits (n : Int) short = x at *
  have HX := Lib.hid hx
  clear hx
  go_wp2_with fail
  go_ret
  exact ⟨ret_int (by unfold mField; rw [HX.out]), ((Below.refl _ w).alloc (Nat.le_refl _) _).trans (HB.out.mono (by simp))⟩

theorem mod_law : ∀ n, n < 29 → 1 ≤ n → mAt n 0 = (if 12 ≤ n then 1 else 0) + (if 18 ≤ n then 1 else 0) + (if 24 ≤ n then 1 else 0) := by decide +kernel

theorem RModulation_yes (n : Nat) (w : World) (h : 1 ≤ n ∧ n ≤ 28) :
    Calls Try.prog 21 #[.int .i64 (n : Int)] w fun e w' => e = .returned (.int .i64 (mAt n 0)) ∧ Below w.heap.size w w' := by
  have hm := mod_law n (by omega) h.1
  have HM := Lib.hid hm
  clear hm
  have key : ∀ x y z, decide ((12 : Int) ≤ n) = x → decide ((18 : Int) ≤ n) = y → decide ((24 : Int) ≤ n) = z →
      Calls Try.prog 21 #[.int .i64 (n : Int)] w fun e w' => e = .returned (.int .i64 ((if x then 1 else 0) + (if y then 1 else 0) + (if z then 1 else 0))) ∧ Below w.heap.size w w' := by
    intro x y z hx hy hz
    cases x <;> cases y <;> cases z
    all_goals
      go_enter Try.func21, Try.ntmps21
      go_wp2_with fail
      refine wp_loop_rounds 4 ?_
      rw [rounds_succ]
      go_wp2_with fail
      rw [rounds_succ]
      go_wp2_with fail
      rw [rounds_succ]
      go_wp2_with fail
      rw [rounds_succ]
      go_wp2_with fail
      go_ret
      exact ⟨rfl, (Below.refl _ _).alloc (Nat.le_refl _) _⟩
  have := key _ _ _ rfl rfl rfl
  rw [HM.out]
  refine this.mono ?_
  rintro e w' ⟨rfl, hb⟩
  refine ⟨?_, hb⟩
  have e1 : decide ((12 : Int) ≤ n) = decide (12 ≤ n) := by rw [Bool.eq_iff_iff]; simp; omega
  have e2 : decide ((18 : Int) ≤ n) = decide (18 ≤ n) := by rw [Bool.eq_iff_iff]; simp; omega
  have e3 : decide ((24 : Int) ≤ n) = decide (24 ≤ n) := by rw [Bool.eq_iff_iff]; simp; omega
  rw [e1, e2, e3]
  simp

end Go.Proofs.Ytmiobfnjegdhdaa
