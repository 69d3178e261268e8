/- ModcodSizes. -/
import Derived.Test.YtmiobfnjegdhdaaModF
set_option linter.unusedSimpArgs false
set_option linter.unusedVariables false
namespace Go.Proofs.Ytmiobfnjegdhdaa
open Go.RowKit

theorem size_laws : ∀ n : Nat, n < 29 → 1 ≤ n →
    (mBits n false % 8 != 0) = false ∧ 0 ≤ mBits n false ∧ ¬ mField n false < 300 ∧ mField n false ≤ 10000 ∧ ¬ mSymbols n false true ≤ mSymbols n false false ∧ (0 ≤ mSymbols n false false ∧ mSymbols n false false ≤ 40000) ∧
    decide (mSymbols n false false * (2 + mAt n 0) < mBits n false) = false ∧ ¬ 1000000 < mSymbols n false true ∧ mIs n false = true := by decide +kernel
theorem size_laws2 : ∀ n : Nat, n < 29 → 1 ≤ n → mIs n true = false ∨ (
    (mBits n true % 8 != 0) = false ∧ ¬ mBits n false ≤ mBits n true ∧ ¬ mSymbols n false false ≤ mSymbols n true false ∧ (0 ≤ mSymbols n true false ∧ mSymbols n true false ≤ 40000) ∧
    decide (mSymbols n true false * (2 + mAt n 0) < mBits n true) = false ∧ ¬ mBits n true < 3072) := by decide +kernel

set_option maxRecDepth 100000 in
set_option maxHeartbeats 4000000 in
theorem ModcodSizes_any (num : Int) (w : World) (hnum : -9223372036854775808 ≤ num ∧ num ≤ 9223372036854775807) :
    Calls Try.prog 5 #[.int .i64 num] w fun e w' => e = .returned (.bool true) ∧ Below w.heap.size w w' := by
  have ht : -27 ≤ num.tmod 28 ∧ num.tmod 28 ≤ 27 := by
    have h1 := Int.lt_tmod_of_pos num (show (0 : Int) < 28 by decide)
    have h2 := Int.tmod_lt_of_pos num (show (0 : Int) < 28 by decide)
    omega
  go_enter Try.func5, Try.ntmps5
  go_wp2_with fail
  obtain ⟨n, hn, hn1, hn2⟩ : ∃ n : Nat, 1 + num.tmod 28 % 28 = n ∧ 1 ≤ n ∧ n ≤ 28 := ⟨(1 + num.tmod 28 % 28).toNat, by omega, by omega, by omega⟩
  rw [hn]
  clear hn ht hnum
  generalize hw0 : World.alloc _ _ = w0
  have hb0 : Below w.heap.size w w0 := by rw [← hw0]; exact ((Below.refl _ _).alloc (Nat.le_refl _) _).alloc (by simp) _
  have y0 : Blk w0 w.heap.size 23 (modeV n false false) := by rw [← hw0]; exact (Blk.new _ _ _).alloc _
  have z0 : Blk w0 (w.heap.size + 1) 23 (modeV n true false) := by rw [← hw0]; exact (Blk.new (w.alloc _) _ _).same_g (by simp)
  have H0 := Lib.hid hb0
  clear hw0 hb0
  have yc0_0 := y0.cell 0
  have yc1_0 := y0.cell 1
  have yc2_0 := y0.cell 2
  have yl0 := y0.lt
  have zl0 := z0.lt
  obtain ⟨l1, l2, l3, l4, l5, l6, l7, l8, hi⟩ := size_laws n (by omega) hn1
  have h := And.intro hn1 hn2
  have HI := Lib.hid (And.intro h hi)
  clear hi h
  have hff : (mField n false != mBits n false / 8 - 10) = false := by unfold mField; simp
  have hb1 := mBits_bd n false
  have hm3 := (mAt_bd n (by omega)).1
  cases his : mIs n true with
  | true =>
    obtain ⟨k1, k2, k3, k4, k5, k6⟩ := (size_laws2 n (by omega) hn1).resolve_left (by rw [his]; decide)
    have hb2 := mBits_bd n true
    have HS := Lib.hid his
    clear his
    go_wp2_with fail
    refine (Kbch_yes n false false _ HI.out.2).mono ?_
    rintro e w1 ⟨rfl, hb⟩
    have hbw : Below w.heap.size w w1 := Below.trans (by repeat (first | exact H0.out | (refine Below.alloc ?_ (by have := H0.out.size; simp; try omega) _))) (hb.mono (by have := H0.out.size; simp; try omega))
    have y1 := Blk.below (by repeat (first | exact y0 | refine Blk.alloc ?_ _)) hb (Nat.lt_of_lt_of_le y0.lt (by simp; try omega))
    have yl1 := y1.lt
    have yc0_1 := y1.cell 0
    have yc1_1 := y1.cell 1
    have yc2_1 := y1.cell 2
    have z1 := Blk.below (by repeat (first | exact z0 | refine Blk.alloc ?_ _)) hb (Nat.lt_of_lt_of_le z0.lt (by simp; try omega))
    have zl1 := z1.lt
    have H1 := Lib.hid hbw
    clear hb hbw
    try clear yc0_0 yc1_0 yc2_0 yl0 zl0
    go_wp2_with fail
    refine (Field_yes n false false _ HI.out.2).mono ?_
    rintro e w2 ⟨rfl, hb⟩
    have hbw : Below w.heap.size w w2 := Below.trans (by repeat (first | exact H1.out | (refine Below.alloc ?_ (by have := H1.out.size; simp; try omega) _))) (hb.mono (by have := H1.out.size; simp; try omega))
    have y2 := Blk.below (by repeat (first | exact y1 | refine Blk.alloc ?_ _)) hb (Nat.lt_of_lt_of_le y1.lt (by simp; try omega))
    have yl2 := y2.lt
    have yc0_2 := y2.cell 0
    have yc1_2 := y2.cell 1
    have yc2_2 := y2.cell 2
    have z2 := Blk.below (by repeat (first | exact z1 | refine Blk.alloc ?_ _)) hb (Nat.lt_of_lt_of_le z1.lt (by simp; try omega))
    have zl2 := z2.lt
    have H2 := Lib.hid hbw
    clear hb hbw
    try clear yc0_1 yc1_1 yc2_1 yl1 zl1
    go_wp2_with fail
    refine (Symbols_yes n false false _ HI.out.2).mono ?_
    rintro e w3 ⟨rfl, hb⟩
    have hbw : Below w.heap.size w w3 := Below.trans (by repeat (first | exact H2.out | (refine Below.alloc ?_ (by have := H2.out.size; simp; try omega) _))) (hb.mono (by have := H2.out.size; simp; try omega))
    have y3 := Blk.below (by repeat (first | exact y2 | refine Blk.alloc ?_ _)) hb (Nat.lt_of_lt_of_le y2.lt (by simp; try omega))
    have yl3 := y3.lt
    have yc0_3 := y3.cell 0
    have yc1_3 := y3.cell 1
    have yc2_3 := y3.cell 2
    have z3 := Blk.below (by repeat (first | exact z2 | refine Blk.alloc ?_ _)) hb (Nat.lt_of_lt_of_le z2.lt (by simp; try omega))
    have zl3 := z3.lt
    have H3 := Lib.hid hbw
    clear hb hbw
    try clear yc0_2 yc1_2 yc2_2 yl2 zl2
    go_wp2_with fail
    refine (Symbols_yes n false true _ HI.out.2).mono ?_
    rintro e w4 ⟨rfl, hb⟩
    have hbw : Below w.heap.size w w4 := Below.trans (by repeat (first | exact H3.out | (refine Below.alloc ?_ (by have := H3.out.size; simp; try omega) _))) (hb.mono (by have := H3.out.size; simp; try omega))
    have y4 := Blk.below (by repeat (first | exact y3 | refine Blk.alloc ?_ _)) hb (Nat.lt_of_lt_of_le y3.lt (by simp; try omega))
    have yl4 := y4.lt
    have yc0_4 := y4.cell 0
    have yc1_4 := y4.cell 1
    have yc2_4 := y4.cell 2
    have z4 := Blk.below (by repeat (first | exact z3 | refine Blk.alloc ?_ _)) hb (Nat.lt_of_lt_of_le z3.lt (by simp; try omega))
    have zl4 := z4.lt
    have H4 := Lib.hid hbw
    clear hb hbw
    try clear yc0_3 yc1_3 yc2_3 yl3 zl3
    go_wp2_with fail
    refine (Modulation_yes n _ HI.out.1).mono ?_
    rintro e w5 ⟨rfl, hb⟩
    have hbw : Below w.heap.size w w5 := Below.trans (by repeat (first | exact H4.out | (refine Below.alloc ?_ (by have := H4.out.size; simp; try omega) _))) (hb.mono (by have := H4.out.size; simp; try omega))
    have y5 := Blk.below (by repeat (first | exact y4 | refine Blk.alloc ?_ _)) hb (Nat.lt_of_lt_of_le y4.lt (by simp; try omega))
    have yl5 := y5.lt
    have yc0_5 := y5.cell 0
    have yc1_5 := y5.cell 1
    have yc2_5 := y5.cell 2
    have z5 := Blk.below (by repeat (first | exact z4 | refine Blk.alloc ?_ _)) hb (Nat.lt_of_lt_of_le z4.lt (by simp; try omega))
    have zl5 := z5.lt
    have zc0_5 := z5.cell 0
    have zc1_5 := z5.cell 1
    have zc2_5 := z5.cell 2
    have H5 := Lib.hid hbw
    clear hb hbw
    try clear yc0_4 yc1_4 yc2_4 yl4 zc0_4 zc1_4 zc2_4 zl4
    generalize mBits n false = vb at *
    generalize mField n false = vf at *
    generalize mSymbols n false false = vs at *
    generalize mSymbols n false true = vp at *
    generalize mAt n 0 = vm at *
    have hmul : 0 ≤ vs * (2 + vm) ∧ vs * (2 + vm) ≤ 200000 := by
      refine ⟨Int.mul_nonneg l6.1 (by omega), ?_⟩
      have : vs * (2 + vm) ≤ vs * 5 := Int.mul_le_mul_of_nonneg_left (by omega) l6.1
      omega
    go_wp2_with fail
    refine (Kbch_yes n true false _ HS.out).mono ?_
    rintro e w6 ⟨rfl, hb⟩
    have hbw : Below w.heap.size w w6 := Below.trans (by repeat (first | exact H5.out | (refine Below.alloc ?_ (by have := H5.out.size; simp; try omega) _))) (hb.mono (by have := H5.out.size; simp; try omega))
    have y6 := Blk.below (by repeat (first | exact y5 | refine Blk.alloc ?_ _)) hb (Nat.lt_of_lt_of_le y5.lt (by simp; try omega))
    have yl6 := y6.lt
    have z6 := Blk.below (by repeat (first | exact z5 | refine Blk.alloc ?_ _)) hb (Nat.lt_of_lt_of_le z5.lt (by simp; try omega))
    have zl6 := z6.lt
    have zc0_6 := z6.cell 0
    have zc1_6 := z6.cell 1
    have zc2_6 := z6.cell 2
    have H6 := Lib.hid hbw
    clear hb hbw
    try clear yl5 zc0_5 zc1_5 zc2_5 zl5
    go_wp2_with fail
    refine (Symbols_yes n true false _ HS.out).mono ?_
    rintro e w7 ⟨rfl, hb⟩
    have hbw : Below w.heap.size w w7 := Below.trans (by repeat (first | exact H6.out | (refine Below.alloc ?_ (by have := H6.out.size; simp; try omega) _))) (hb.mono (by have := H6.out.size; simp; try omega))
    have y7 := Blk.below (by repeat (first | exact y6 | refine Blk.alloc ?_ _)) hb (Nat.lt_of_lt_of_le y6.lt (by simp; try omega))
    have yl7 := y7.lt
    have z7 := Blk.below (by repeat (first | exact z6 | refine Blk.alloc ?_ _)) hb (Nat.lt_of_lt_of_le z6.lt (by simp; try omega))
    have zl7 := z7.lt
    have zc0_7 := z7.cell 0
    have zc1_7 := z7.cell 1
    have zc2_7 := z7.cell 2
    have H7 := Lib.hid hbw
    clear hb hbw
    try clear yl6 zc0_6 zc1_6 zc2_6 zl6
    go_wp2_with fail
    refine (Is_any n true false _).mono ?_
    rintro e w8 ⟨rfl, hb⟩
    have hbw : Below w.heap.size w w8 := Below.trans (by repeat (first | exact H7.out | (refine Below.alloc ?_ (by have := H7.out.size; simp; try omega) _))) (hb.mono (by have := H7.out.size; simp; try omega))
    have y8 := Blk.below (by repeat (first | exact y7 | refine Blk.alloc ?_ _)) hb (Nat.lt_of_lt_of_le y7.lt (by simp; try omega))
    have yl8 := y8.lt
    have z8 := Blk.below (by repeat (first | exact z7 | refine Blk.alloc ?_ _)) hb (Nat.lt_of_lt_of_le z7.lt (by simp; try omega))
    have zl8 := z8.lt
    have zc0_8 := z8.cell 0
    have zc1_8 := z8.cell 1
    have zc2_8 := z8.cell 2
    have H8 := Lib.hid hbw
    clear hb hbw
    try clear yl7 zc0_7 zc1_7 zc2_7 zl7
    rw [HS.out]
    generalize mBits n true = wb at *
    generalize mSymbols n true false = ws at *
    have hmul2 : 0 ≤ ws * (2 + vm) ∧ ws * (2 + vm) ≤ 200000 := by
      refine ⟨Int.mul_nonneg k4.1 (by omega), ?_⟩
      have : ws * (2 + vm) ≤ ws * 5 := Int.mul_le_mul_of_nonneg_left (by omega) k4.1
      omega
    go_wp2_with fail
    refine (works_any _).mono ?_
    rintro e w9 ⟨rfl, hb⟩
    have hbw : Below w.heap.size w w9 := Below.trans (by repeat (first | exact H8.out | (refine Below.alloc ?_ (by have := H8.out.size; simp; try omega) _))) (hb.mono (by have := H8.out.size; simp; try omega))
    have H9 := Lib.hid hbw
    clear hb hbw
    go_wp2_with fail
    go_ret
    exact ⟨rfl, H9.out⟩
  | false =>
    have HS := Lib.hid his
    clear his
    go_wp2_with fail
    refine (Kbch_yes n false false _ HI.out.2).mono ?_
    rintro e w1 ⟨rfl, hb⟩
    have hbw : Below w.heap.size w w1 := Below.trans (by repeat (first | exact H0.out | (refine Below.alloc ?_ (by have := H0.out.size; simp; try omega) _))) (hb.mono (by have := H0.out.size; simp; try omega))
    have y1 := Blk.below (by repeat (first | exact y0 | refine Blk.alloc ?_ _)) hb (Nat.lt_of_lt_of_le y0.lt (by simp; try omega))
    have yl1 := y1.lt
    have yc0_1 := y1.cell 0
    have yc1_1 := y1.cell 1
    have yc2_1 := y1.cell 2
    have z1 := Blk.below (by repeat (first | exact z0 | refine Blk.alloc ?_ _)) hb (Nat.lt_of_lt_of_le z0.lt (by simp; try omega))
    have zl1 := z1.lt
    have H1 := Lib.hid hbw
    clear hb hbw
    try clear yc0_0 yc1_0 yc2_0 yl0 zl0
    go_wp2_with fail
    refine (Field_yes n false false _ HI.out.2).mono ?_
    rintro e w2 ⟨rfl, hb⟩
    have hbw : Below w.heap.size w w2 := Below.trans (by repeat (first | exact H1.out | (refine Below.alloc ?_ (by have := H1.out.size; simp; try omega) _))) (hb.mono (by have := H1.out.size; simp; try omega))
    have y2 := Blk.below (by repeat (first | exact y1 | refine Blk.alloc ?_ _)) hb (Nat.lt_of_lt_of_le y1.lt (by simp; try omega))
    have yl2 := y2.lt
    have yc0_2 := y2.cell 0
    have yc1_2 := y2.cell 1
    have yc2_2 := y2.cell 2
    have z2 := Blk.below (by repeat (first | exact z1 | refine Blk.alloc ?_ _)) hb (Nat.lt_of_lt_of_le z1.lt (by simp; try omega))
    have zl2 := z2.lt
    have H2 := Lib.hid hbw
    clear hb hbw
    try clear yc0_1 yc1_1 yc2_1 yl1 zl1
    go_wp2_with fail
    refine (Symbols_yes n false false _ HI.out.2).mono ?_
    rintro e w3 ⟨rfl, hb⟩
    have hbw : Below w.heap.size w w3 := Below.trans (by repeat (first | exact H2.out | (refine Below.alloc ?_ (by have := H2.out.size; simp; try omega) _))) (hb.mono (by have := H2.out.size; simp; try omega))
    have y3 := Blk.below (by repeat (first | exact y2 | refine Blk.alloc ?_ _)) hb (Nat.lt_of_lt_of_le y2.lt (by simp; try omega))
    have yl3 := y3.lt
    have yc0_3 := y3.cell 0
    have yc1_3 := y3.cell 1
    have yc2_3 := y3.cell 2
    have z3 := Blk.below (by repeat (first | exact z2 | refine Blk.alloc ?_ _)) hb (Nat.lt_of_lt_of_le z2.lt (by simp; try omega))
    have zl3 := z3.lt
    have H3 := Lib.hid hbw
    clear hb hbw
    try clear yc0_2 yc1_2 yc2_2 yl2 zl2
    go_wp2_with fail
    refine (Symbols_yes n false true _ HI.out.2).mono ?_
    rintro e w4 ⟨rfl, hb⟩
    have hbw : Below w.heap.size w w4 := Below.trans (by repeat (first | exact H3.out | (refine Below.alloc ?_ (by have := H3.out.size; simp; try omega) _))) (hb.mono (by have := H3.out.size; simp; try omega))
    have y4 := Blk.below (by repeat (first | exact y3 | refine Blk.alloc ?_ _)) hb (Nat.lt_of_lt_of_le y3.lt (by simp; try omega))
    have yl4 := y4.lt
    have yc0_4 := y4.cell 0
    have yc1_4 := y4.cell 1
    have yc2_4 := y4.cell 2
    have z4 := Blk.below (by repeat (first | exact z3 | refine Blk.alloc ?_ _)) hb (Nat.lt_of_lt_of_le z3.lt (by simp; try omega))
    have zl4 := z4.lt
    have H4 := Lib.hid hbw
    clear hb hbw
    try clear yc0_3 yc1_3 yc2_3 yl3 zl3
    go_wp2_with fail
    refine (Modulation_yes n _ HI.out.1).mono ?_
    rintro e w5 ⟨rfl, hb⟩
    have hbw : Below w.heap.size w w5 := Below.trans (by repeat (first | exact H4.out | (refine Below.alloc ?_ (by have := H4.out.size; simp; try omega) _))) (hb.mono (by have := H4.out.size; simp; try omega))
    have y5 := Blk.below (by repeat (first | exact y4 | refine Blk.alloc ?_ _)) hb (Nat.lt_of_lt_of_le y4.lt (by simp; try omega))
    have yl5 := y5.lt
    have yc0_5 := y5.cell 0
    have yc1_5 := y5.cell 1
    have yc2_5 := y5.cell 2
    have z5 := Blk.below (by repeat (first | exact z4 | refine Blk.alloc ?_ _)) hb (Nat.lt_of_lt_of_le z4.lt (by simp; try omega))
    have zl5 := z5.lt
    have zc0_5 := z5.cell 0
    have zc1_5 := z5.cell 1
    have zc2_5 := z5.cell 2
    have H5 := Lib.hid hbw
    clear hb hbw
    try clear yc0_4 yc1_4 yc2_4 yl4 zc0_4 zc1_4 zc2_4 zl4
    generalize mBits n false = vb at *
    generalize mField n false = vf at *
    generalize mSymbols n false false = vs at *
    generalize mSymbols n false true = vp at *
    generalize mAt n 0 = vm at *
    have hmul : 0 ≤ vs * (2 + vm) ∧ vs * (2 + vm) ≤ 200000 := by
      refine ⟨Int.mul_nonneg l6.1 (by omega), ?_⟩
      have : vs * (2 + vm) ≤ vs * 5 := Int.mul_le_mul_of_nonneg_left (by omega) l6.1
      omega
    go_wp2_with fail
    refine (Kbch_no n true false _ HS.out).mono ?_
    rintro e w6 ⟨rfl, hb⟩
    have hbw : Below w.heap.size w w6 := Below.trans (by repeat (first | exact H5.out | (refine Below.alloc ?_ (by have := H5.out.size; simp; try omega) _))) (hb.mono (by have := H5.out.size; simp; try omega))
    have y6 := Blk.below (by repeat (first | exact y5 | refine Blk.alloc ?_ _)) hb (Nat.lt_of_lt_of_le y5.lt (by simp; try omega))
    have yl6 := y6.lt
    have z6 := Blk.below (by repeat (first | exact z5 | refine Blk.alloc ?_ _)) hb (Nat.lt_of_lt_of_le z5.lt (by simp; try omega))
    have zl6 := z6.lt
    have zc0_6 := z6.cell 0
    have zc1_6 := z6.cell 1
    have zc2_6 := z6.cell 2
    have H6 := Lib.hid hbw
    clear hb hbw
    try clear yl5 zc0_5 zc1_5 zc2_5 zl5
    go_wp2_with fail
    refine (Symbols_no n true false _ HS.out).mono ?_
    rintro e w7 ⟨rfl, hb⟩
    have hbw : Below w.heap.size w w7 := Below.trans (by repeat (first | exact H6.out | (refine Below.alloc ?_ (by have := H6.out.size; simp; try omega) _))) (hb.mono (by have := H6.out.size; simp; try omega))
    have y7 := Blk.below (by repeat (first | exact y6 | refine Blk.alloc ?_ _)) hb (Nat.lt_of_lt_of_le y6.lt (by simp; try omega))
    have yl7 := y7.lt
    have z7 := Blk.below (by repeat (first | exact z6 | refine Blk.alloc ?_ _)) hb (Nat.lt_of_lt_of_le z6.lt (by simp; try omega))
    have zl7 := z7.lt
    have zc0_7 := z7.cell 0
    have zc1_7 := z7.cell 1
    have zc2_7 := z7.cell 2
    have H7 := Lib.hid hbw
    clear hb hbw
    try clear yl6 zc0_6 zc1_6 zc2_6 zl6
    go_wp2_with fail
    refine (Is_any n true false _).mono ?_
    rintro e w8 ⟨rfl, hb⟩
    have hbw : Below w.heap.size w w8 := Below.trans (by repeat (first | exact H7.out | (refine Below.alloc ?_ (by have := H7.out.size; simp; try omega) _))) (hb.mono (by have := H7.out.size; simp; try omega))
    have y8 := Blk.below (by repeat (first | exact y7 | refine Blk.alloc ?_ _)) hb (Nat.lt_of_lt_of_le y7.lt (by simp; try omega))
    have yl8 := y8.lt
    have z8 := Blk.below (by repeat (first | exact z7 | refine Blk.alloc ?_ _)) hb (Nat.lt_of_lt_of_le z7.lt (by simp; try omega))
    have zl8 := z8.lt
    have zc0_8 := z8.cell 0
    have zc1_8 := z8.cell 1
    have zc2_8 := z8.cell 2
    have H8 := Lib.hid hbw
    clear hb hbw
    try clear yl7 zc0_7 zc1_7 zc2_7 zl7
    rw [HS.out]
    go_wp2_with fail
    refine (works_any _).mono ?_
    rintro e w9 ⟨rfl, hb⟩
    have hbw : Below w.heap.size w w9 := Below.trans (by repeat (first | exact H8.out | (refine Below.alloc ?_ (by have := H8.out.size; simp; try omega) _))) (hb.mono (by have := H8.out.size; simp; try omega))
    have H9 := Lib.hid hbw
    clear hb hbw
    go_wp2_with fail
    go_ret
    exact ⟨rfl, H9.out⟩

theorem ModcodSizes_walk (v0 : Value) (W : World) (c0 : Came Try.prog W 3 v0) :
    Calls Try.prog 5 #[v0] W fun e w' => e = .returned (.bool true) ∧ Below W.heap.size W w' := by
  obtain ⟨a, rfl, h⟩ := c0.int Try.underlying3
  simp [Lit.wf, IntKind.min, IntKind.max, IntKind.signed, IntKind.bits] at h
  exact ModcodSizes_any a W (by omega)

end Go.Proofs.Ytmiobfnjegdhdaa
