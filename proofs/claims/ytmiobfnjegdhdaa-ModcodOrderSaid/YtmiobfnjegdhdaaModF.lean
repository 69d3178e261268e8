/- ModcodTells, ModcodNeeds, ModcodSizes. -/
import Derived.Test.YtmiobfnjegdhdaaModE
set_option linter.unusedSimpArgs false
set_option linter.unusedVariables false
namespace Go.Proofs.Ytmiobfnjegdhdaa
open Go.RowKit

theorem came_mode {w : World} {v : Value} (h : Came Try.prog w 23 v) : ∃ num short pil, v = .agg (modeV num short pil) := by
  obtain ⟨cs, rfl, ht⟩ := h.struct Try.underlying23
  obtain ⟨hlen, hf⟩ := ht.struct Try.underlying23
  have h0 : Tr Try.prog w 3 ((cs.toList.drop 0).take (Try.prog.cellsOf 3)) := hf 0 _ rfl
  have h1 : Tr Try.prog w 4 ((cs.toList.drop 1).take (Try.prog.cellsOf 4)) := hf 1 _ rfl
  have h2 : Tr Try.prog w 4 ((cs.toList.drop 2).take (Try.prog.cellsOf 4)) := hf 2 _ rfl
  rw [show Try.prog.cellsOf 23 = 3 by kernel_rfl] at hlen
  rw [show Try.prog.cellsOf 3 = 1 by kernel_rfl] at h0
  rw [show Try.prog.cellsOf 4 = 1 by kernel_rfl] at h1 h2
  obtain ⟨num, e0, _⟩ := h0.int Try.underlying3
  obtain ⟨short, e1⟩ := h1.bool Try.underlying4
  obtain ⟨pil, e2⟩ := h2.bool Try.underlying4
  refine ⟨num, short, pil, ?_⟩
  obtain ⟨l⟩ := cs
  simp only at hlen e0 e1 e2
  match l, hlen with
  | [a, b, c], _ =>
    simp at e0 e1 e2
    rw [e0, e1, e2]

set_option maxHeartbeats 1000000 in
theorem works_any (w : World) : Calls Try.prog 13 #[] w fun e w' => e = .returned (.bool true) ∧ Below w.heap.size w w' := by
  have H0 := Lib.hid (Below.refl w.heap.size w)
  have hs : sturd 1 2 = true := by decide +kernel
  have hb : mBits 1 false = 16008 := by decide +kernel
  have hy : mSymbols 1 false true = 33282 := by decide +kernel
  have HS := Lib.hid (And.intro hs (And.intro hb hy))
  clear hs hb hy
  go_enter Try.func13, Try.ntmps13
  go_wp2_with fail
  refine (Kbch_yes 1 false false _ (by decide +kernel)).mono ?_
  rintro e w1 ⟨rfl, hb⟩
  have hbw : Below w.heap.size w w1 := Below.trans (by repeat (first | exact H0.out | (refine Below.alloc ?_ (by have := H0.out.size; simp; try omega) _))) (hb.mono (by have := H0.out.size; simp; try omega))
  have H1 := Lib.hid hbw
  clear hb hbw
  rw [HS.out.2.1]
  go_wp2_with fail
  refine (Symbols_yes 1 false true _ (by decide +kernel)).mono ?_
  rintro e w2 ⟨rfl, hb⟩
  have hbw : Below w.heap.size w w2 := Below.trans (by repeat (first | exact H1.out | (refine Below.alloc ?_ (by have := H1.out.size; simp; try omega) _))) (hb.mono (by have := H1.out.size; simp; try omega))
  have H2 := Lib.hid hbw
  clear hb hbw
  rw [HS.out.2.2]
  go_wp2_with fail
  refine (Sturdier_any 1 2 _).mono ?_
  rintro e w3 ⟨rfl, hb⟩
  have hbw : Below w.heap.size w w3 := Below.trans (by repeat (first | exact H2.out | (refine Below.alloc ?_ (by have := H2.out.size; simp; try omega) _))) (hb.mono (by have := H2.out.size; simp; try omega))
  have H3 := Lib.hid hbw
  clear hb hbw
  rw [HS.out.1]
  go_wp2_with fail
  go_ret
  exact ⟨rfl, H3.out⟩

set_option maxRecDepth 100000 in
set_option maxHeartbeats 2000000 in
theorem ModcodTells_yes (n : Nat) (short pil : Bool) (w : World) (h : 1 ≤ n ∧ n ≤ 28) (hi : mIs (n : Int) short = true) :
    Calls Try.prog 3 #[.agg (modeV n short pil)] w fun e w' => e = .returned (.bool true) ∧ Below w.heap.size w w' := by
  have H0 := Lib.hid (Below.refl w.heap.size w)
  have HI := Lib.hid (And.intro hi h)
  clear hi h
  go_enter Try.func3, Try.ntmps3
  go_wp2_with fail
  refine (RIs_any n short pil _).mono ?_
  rintro e w1 ⟨rfl, hb⟩
  have y1 := (Blk.new w 23 (modeV n short pil)).below hb (by simp)
  have yc0_1 := y1.cell 0
  have yc1_1 := y1.cell 1
  have yc2_1 := y1.cell 2
  have yl1 := y1.lt
  have hbw : Below w.heap.size w w1 := ((Below.refl _ w).alloc (Nat.le_refl _) _).trans (hb.mono (by simp))
  have H1 := Lib.hid hbw
  clear hb hbw
  rw [HI.out.1]
  go_wp2_with fail
  refine (Kbch_yes n short pil _ HI.out.1).mono ?_
  rintro e w2 ⟨rfl, hb⟩
  have hbw : Below w.heap.size w w2 := Below.trans (by repeat (first | exact H1.out | (refine Below.alloc ?_ (by have := H1.out.size; simp; try omega) _))) (hb.mono (by have := H1.out.size; simp; try omega))
  have y2 := Blk.below (by repeat (first | exact y1 | refine Blk.alloc ?_ _)) hb (Nat.lt_of_lt_of_le y1.lt (by simp; try omega))
  have yl2 := y2.lt
  have yc0_2 := y2.cell 0
  have yc1_2 := y2.cell 1
  have yc2_2 := y2.cell 2
  have H2 := Lib.hid hbw
  clear hb hbw
  try clear yc0_1 yc1_1 yc2_1 yl1
  go_wp2_with fail
  refine (Field_yes n short pil _ HI.out.1).mono ?_
  rintro e w3 ⟨rfl, hb⟩
  have hbw : Below w.heap.size w w3 := Below.trans (by repeat (first | exact H2.out | (refine Below.alloc ?_ (by have := H2.out.size; simp; try omega) _))) (hb.mono (by have := H2.out.size; simp; try omega))
  have y3 := Blk.below (by repeat (first | exact y2 | refine Blk.alloc ?_ _)) hb (Nat.lt_of_lt_of_le y2.lt (by simp; try omega))
  have yl3 := y3.lt
  have yc0_3 := y3.cell 0
  have yc1_3 := y3.cell 1
  have yc2_3 := y3.cell 2
  have H3 := Lib.hid hbw
  clear hb hbw
  try clear yc0_2 yc1_2 yc2_2 yl2
  go_wp2_with fail
  refine (Symbols_yes n short pil _ HI.out.1).mono ?_
  rintro e w4 ⟨rfl, hb⟩
  have hbw : Below w.heap.size w w4 := Below.trans (by repeat (first | exact H3.out | (refine Below.alloc ?_ (by have := H3.out.size; simp; try omega) _))) (hb.mono (by have := H3.out.size; simp; try omega))
  have y4 := Blk.below (by repeat (first | exact y3 | refine Blk.alloc ?_ _)) hb (Nat.lt_of_lt_of_le y3.lt (by simp; try omega))
  have yl4 := y4.lt
  have yc0_4 := y4.cell 0
  have yc1_4 := y4.cell 1
  have yc2_4 := y4.cell 2
  have H4 := Lib.hid hbw
  clear hb hbw
  try clear yc0_3 yc1_3 yc2_3 yl3
  go_wp2_with fail
  refine (Is_any n short pil _).mono ?_
  rintro e w5 ⟨rfl, hb⟩
  have hbw : Below w.heap.size w w5 := Below.trans (by repeat (first | exact H4.out | (refine Below.alloc ?_ (by have := H4.out.size; simp; try omega) _))) (hb.mono (by have := H4.out.size; simp; try omega))
  have y5 := Blk.below (by repeat (first | exact y4 | refine Blk.alloc ?_ _)) hb (Nat.lt_of_lt_of_le y4.lt (by simp; try omega))
  have yl5 := y5.lt
  have yc0_5 := y5.cell 0
  have yc1_5 := y5.cell 1
  have yc2_5 := y5.cell 2
  have H5 := Lib.hid hbw
  clear hb hbw
  try clear yc0_4 yc1_4 yc2_4 yl4
  rw [HI.out.1]
  go_wp2_with fail
  refine (RKbch_yes n short pil _ HI.out.2 HI.out.1).mono ?_
  rintro e w6 ⟨rfl, hb⟩
  have hbw : Below w.heap.size w w6 := Below.trans (by repeat (first | exact H5.out | (refine Below.alloc ?_ (by have := H5.out.size; simp; try omega) _))) (hb.mono (by have := H5.out.size; simp; try omega))
  have y6 := Blk.below (by repeat (first | exact y5 | refine Blk.alloc ?_ _)) hb (Nat.lt_of_lt_of_le y5.lt (by simp; try omega))
  have yl6 := y6.lt
  have yc0_6 := y6.cell 0
  have yc1_6 := y6.cell 1
  have yc2_6 := y6.cell 2
  have H6 := Lib.hid hbw
  clear hb hbw
  try clear yc0_5 yc1_5 yc2_5 yl5
  go_wp2_with fail
  refine (RField_yes n short pil _ HI.out.2 HI.out.1).mono ?_
  rintro e w7 ⟨rfl, hb⟩
  have hbw : Below w.heap.size w w7 := Below.trans (by repeat (first | exact H6.out | (refine Below.alloc ?_ (by have := H6.out.size; simp; try omega) _))) (hb.mono (by have := H6.out.size; simp; try omega))
  have y7 := Blk.below (by repeat (first | exact y6 | refine Blk.alloc ?_ _)) hb (Nat.lt_of_lt_of_le y6.lt (by simp; try omega))
  have yl7 := y7.lt
  have yc0_7 := y7.cell 0
  have yc1_7 := y7.cell 1
  have yc2_7 := y7.cell 2
  have H7 := Lib.hid hbw
  clear hb hbw
  try clear yc0_6 yc1_6 yc2_6 yl6
  go_wp2_with fail
  refine (RSymbols_yes n short pil _ HI.out.2).mono ?_
  rintro e w8 ⟨rfl, hb⟩
  have hbw : Below w.heap.size w w8 := Below.trans (by repeat (first | exact H7.out | (refine Below.alloc ?_ (by have := H7.out.size; simp; try omega) _))) (hb.mono (by have := H7.out.size; simp; try omega))
  have y8 := Blk.below (by repeat (first | exact y7 | refine Blk.alloc ?_ _)) hb (Nat.lt_of_lt_of_le y7.lt (by simp; try omega))
  have yl8 := y8.lt
  have yc0_8 := y8.cell 0
  have yc1_8 := y8.cell 1
  have yc2_8 := y8.cell 2
  have H8 := Lib.hid hbw
  clear hb hbw
  try clear yc0_7 yc1_7 yc2_7 yl7
  go_wp2_with fail
  refine (works_any _).mono ?_
  rintro e w9 ⟨rfl, hb⟩
  have hbw : Below w.heap.size w w9 := Below.trans (by repeat (first | exact H8.out | (refine Below.alloc ?_ (by have := H8.out.size; simp; try omega) _))) (hb.mono (by have := H8.out.size; simp; try omega))
  have H9 := Lib.hid hbw
  clear hb hbw
  go_wp2_with fail
  go_ret
  exact ⟨rfl, H9.out⟩

set_option maxRecDepth 100000 in
set_option maxHeartbeats 2000000 in
theorem ModcodTells_no (num : Int) (short pil : Bool) (w : World) (hi : mIs num short = false) :
    Calls Try.prog 3 #[.agg (modeV num short pil)] w fun e w' => e = .returned (.bool true) ∧ Below w.heap.size w w' := by
  have H0 := Lib.hid (Below.refl w.heap.size w)
  have HI := Lib.hid hi
  clear hi
  go_enter Try.func3, Try.ntmps3
  go_wp2_with fail
  refine (RIs_any num short pil _).mono ?_
  rintro e w1 ⟨rfl, hb⟩
  have y1 := (Blk.new w 23 (modeV num short pil)).below hb (by simp)
  have yc0_1 := y1.cell 0
  have yc1_1 := y1.cell 1
  have yc2_1 := y1.cell 2
  have yl1 := y1.lt
  have hbw : Below w.heap.size w w1 := ((Below.refl _ w).alloc (Nat.le_refl _) _).trans (hb.mono (by simp))
  have H1 := Lib.hid hbw
  clear hb hbw
  rw [HI.out]
  go_wp2_with fail
  refine (Kbch_no num short pil _ HI.out).mono ?_
  rintro e w2 ⟨rfl, hb⟩
  have hbw : Below w.heap.size w w2 := Below.trans (by repeat (first | exact H1.out | (refine Below.alloc ?_ (by have := H1.out.size; simp; try omega) _))) (hb.mono (by have := H1.out.size; simp; try omega))
  have y2 := Blk.below (by repeat (first | exact y1 | refine Blk.alloc ?_ _)) hb (Nat.lt_of_lt_of_le y1.lt (by simp; try omega))
  have yl2 := y2.lt
  have yc0_2 := y2.cell 0
  have yc1_2 := y2.cell 1
  have yc2_2 := y2.cell 2
  have H2 := Lib.hid hbw
  clear hb hbw
  try clear yc0_1 yc1_1 yc2_1 yl1
  go_wp2_with fail
  refine (Field_no num short pil _ HI.out).mono ?_
  rintro e w3 ⟨rfl, hb⟩
  have hbw : Below w.heap.size w w3 := Below.trans (by repeat (first | exact H2.out | (refine Below.alloc ?_ (by have := H2.out.size; simp; try omega) _))) (hb.mono (by have := H2.out.size; simp; try omega))
  have y3 := Blk.below (by repeat (first | exact y2 | refine Blk.alloc ?_ _)) hb (Nat.lt_of_lt_of_le y2.lt (by simp; try omega))
  have yl3 := y3.lt
  have yc0_3 := y3.cell 0
  have yc1_3 := y3.cell 1
  have yc2_3 := y3.cell 2
  have H3 := Lib.hid hbw
  clear hb hbw
  try clear yc0_2 yc1_2 yc2_2 yl2
  go_wp2_with fail
  refine (Symbols_no num short pil _ HI.out).mono ?_
  rintro e w4 ⟨rfl, hb⟩
  have hbw : Below w.heap.size w w4 := Below.trans (by repeat (first | exact H3.out | (refine Below.alloc ?_ (by have := H3.out.size; simp; try omega) _))) (hb.mono (by have := H3.out.size; simp; try omega))
  have y4 := Blk.below (by repeat (first | exact y3 | refine Blk.alloc ?_ _)) hb (Nat.lt_of_lt_of_le y3.lt (by simp; try omega))
  have yl4 := y4.lt
  have yc0_4 := y4.cell 0
  have yc1_4 := y4.cell 1
  have yc2_4 := y4.cell 2
  have H4 := Lib.hid hbw
  clear hb hbw
  try clear yc0_3 yc1_3 yc2_3 yl3
  go_wp2_with fail
  refine (Is_any num short pil _).mono ?_
  rintro e w5 ⟨rfl, hb⟩
  have hbw : Below w.heap.size w w5 := Below.trans (by repeat (first | exact H4.out | (refine Below.alloc ?_ (by have := H4.out.size; simp; try omega) _))) (hb.mono (by have := H4.out.size; simp; try omega))
  have y5 := Blk.below (by repeat (first | exact y4 | refine Blk.alloc ?_ _)) hb (Nat.lt_of_lt_of_le y4.lt (by simp; try omega))
  have yl5 := y5.lt
  have yc0_5 := y5.cell 0
  have yc1_5 := y5.cell 1
  have yc2_5 := y5.cell 2
  have H5 := Lib.hid hbw
  clear hb hbw
  try clear yc0_4 yc1_4 yc2_4 yl4
  rw [HI.out]
  go_wp2_with fail
  refine (works_any _).mono ?_
  rintro e w6 ⟨rfl, hb⟩
  have hbw : Below w.heap.size w w6 := Below.trans (by repeat (first | exact H5.out | (refine Below.alloc ?_ (by have := H5.out.size; simp; try omega) _))) (hb.mono (by have := H5.out.size; simp; try omega))
  have H6 := Lib.hid hbw
  clear hb hbw
  go_wp2_with fail
  go_ret
  exact ⟨rfl, H6.out⟩

theorem ModcodTells_walk (v0 : Value) (W : World) (c0 : Came Try.prog W 23 v0) :
    Calls Try.prog 3 #[v0] W fun e w' => e = .returned (.bool true) ∧ Below W.heap.size W w' := by
  obtain ⟨num, short, pil, rfl⟩ := came_mode c0
  cases hi : mIs num short with
  | false => exact ModcodTells_no num short pil W hi
  | true =>
    have hr : inR num = true := by
      cases hr : inR num with
      | true => rfl
      | false => cases short <;> simp [mIs, mBits, col, hr] at hi
    obtain ⟨n, rfl, h⟩ := inR_of hr
    exact ModcodTells_yes n short pil W h hi

theorem sturd_in (n m : Nat) (hn : 1 ≤ n ∧ n ≤ 28) (hm : 1 ≤ m ∧ m ≤ 28) : sturd n m = decide (mAt n 3 < mAt m 3) := by
  have h1 : inR (n : Int) = true := by simp [inR]; omega
  have h2 : inR (m : Int) = true := by simp [inR]; omega
  simp [sturd, col, h1, h2]
theorem sturd_no (a b : Int) (h : inR a = false ∨ inR b = false) : sturd a b = false := by
  rcases h with h | h <;> simp [sturd, h]

set_option maxRecDepth 100000 in
set_option maxHeartbeats 2000000 in
theorem ModcodNeeds_both (n m : Nat) (w : World) (hn : 1 ≤ n ∧ n ≤ 28) (hm : 1 ≤ m ∧ m ≤ 28) :
    Calls Try.prog 4 #[.int .i64 n, .int .i64 m] w fun e w' => e = .returned (.bool true) ∧ Below w.heap.size w w' := by
  have H0 := Lib.hid (Below.refl w.heap.size w)
  have HI := Lib.hid (And.intro hn (And.intro hm (sturd_in n m hn hm)))
  have g1 : decide ((1 : Int) ≤ n) = true := by rw [decide_eq_true_iff]; omega
  have g2 : decide ((n : Int) ≤ 28) = true := by rw [decide_eq_true_iff]; omega
  have g3 : decide ((1 : Int) ≤ m) = true := by rw [decide_eq_true_iff]; omega
  have g4 : decide ((m : Int) ≤ 28) = true := by rw [decide_eq_true_iff]; omega
  clear hn hm
  go_enter Try.func4, Try.ntmps4
  go_wp2_with fail
  refine (Need_yes n _ HI.out.1).mono ?_
  rintro e w1 ⟨rfl, hb⟩
  have hbw : Below w.heap.size w w1 := Below.trans (by repeat (first | exact H0.out | (refine Below.alloc ?_ (by have := H0.out.size; simp; try omega) _))) (hb.mono (by have := H0.out.size; simp; try omega))
  have H1 := Lib.hid hbw
  clear hb hbw
  go_wp2_with fail
  refine (Modulation_yes n _ HI.out.1).mono ?_
  rintro e w2 ⟨rfl, hb⟩
  have hbw : Below w.heap.size w w2 := Below.trans (by repeat (first | exact H1.out | (refine Below.alloc ?_ (by have := H1.out.size; simp; try omega) _))) (hb.mono (by have := H1.out.size; simp; try omega))
  have H2 := Lib.hid hbw
  clear hb hbw
  go_wp2_with fail
  refine (RNeed_yes n _ HI.out.1.2).mono ?_
  rintro e w3 ⟨rfl, hb⟩
  have hbw : Below w.heap.size w w3 := Below.trans (by repeat (first | exact H2.out | (refine Below.alloc ?_ (by have := H2.out.size; simp; try omega) _))) (hb.mono (by have := H2.out.size; simp; try omega))
  have H3 := Lib.hid hbw
  clear hb hbw
  go_wp2_with fail
  refine (RModulation_yes n _ HI.out.1).mono ?_
  rintro e w4 ⟨rfl, hb⟩
  have hbw : Below w.heap.size w w4 := Below.trans (by repeat (first | exact H3.out | (refine Below.alloc ?_ (by have := H3.out.size; simp; try omega) _))) (hb.mono (by have := H3.out.size; simp; try omega))
  have H4 := Lib.hid hbw
  clear hb hbw
  go_wp2_with fail
  refine (Sturdier_any n m _).mono ?_
  rintro e w5 ⟨rfl, hb⟩
  have hbw : Below w.heap.size w w5 := Below.trans (by repeat (first | exact H4.out | (refine Below.alloc ?_ (by have := H4.out.size; simp; try omega) _))) (hb.mono (by have := H4.out.size; simp; try omega))
  have H5 := Lib.hid hbw
  clear hb hbw
  rw [HI.out.2.2]
  go_wp2_with fail
  refine (RNeed_yes n _ HI.out.1.2).mono ?_
  rintro e w6 ⟨rfl, hb⟩
  have hbw : Below w.heap.size w w6 := Below.trans (by repeat (first | exact H5.out | (refine Below.alloc ?_ (by have := H5.out.size; simp; try omega) _))) (hb.mono (by have := H5.out.size; simp; try omega))
  have H6 := Lib.hid hbw
  clear hb hbw
  go_wp2_with fail
  refine (RNeed_yes m _ HI.out.2.1.2).mono ?_
  rintro e w7 ⟨rfl, hb⟩
  have hbw : Below w.heap.size w w7 := Below.trans (by repeat (first | exact H6.out | (refine Below.alloc ?_ (by have := H6.out.size; simp; try omega) _))) (hb.mono (by have := H6.out.size; simp; try omega))
  have H7 := Lib.hid hbw
  clear hb hbw
  go_wp2_with fail
  refine (works_any _).mono ?_
  rintro e w8 ⟨rfl, hb⟩
  have hbw : Below w.heap.size w w8 := Below.trans (by repeat (first | exact H7.out | (refine Below.alloc ?_ (by have := H7.out.size; simp; try omega) _))) (hb.mono (by have := H7.out.size; simp; try omega))
  have H8 := Lib.hid hbw
  clear hb hbw
  go_wp2_with fail
  go_ret
  exact ⟨ret_bool (by simp), H8.out⟩

theorem outR {a : Int} (h : inR a = false) : (decide ((1 : Int) ≤ a) = false) ∨ (decide ((1 : Int) ≤ a) = true ∧ decide (a ≤ (28 : Int)) = false) := by
  have h2 : ¬ (1 ≤ a ∧ a ≤ 28) := by simpa [inR] using h
  by_cases h1 : 1 ≤ a
  · right; simp; omega
  · left; simp; omega

set_option maxRecDepth 100000 in
set_option maxHeartbeats 2000000 in
theorem ModcodNeeds_one (n : Nat) (b : Int) (w : World) (hn : 1 ≤ n ∧ n ≤ 28) (hb0 : inR b = false) :
    Calls Try.prog 4 #[.int .i64 n, .int .i64 b] w fun e w' => e = .returned (.bool true) ∧ Below w.heap.size w w' := by
  have H0 := Lib.hid (Below.refl w.heap.size w)
  have HI := Lib.hid (And.intro hn (sturd_no n b (.inr hb0)))
  have g1 : decide ((1 : Int) ≤ n) = true := by rw [decide_eq_true_iff]; omega
  have g2 : decide ((n : Int) ≤ 28) = true := by rw [decide_eq_true_iff]; omega
  have ho := outR hb0
  clear hn hb0
  rcases ho with g3 | ⟨g3, g4⟩
  all_goals
    go_enter Try.func4, Try.ntmps4
    go_wp2_with fail
    refine (Need_yes n _ HI.out.1).mono ?_
    rintro e w1 ⟨rfl, hb⟩
    have hbw : Below w.heap.size w w1 := Below.trans (by repeat (first | exact H0.out | (refine Below.alloc ?_ (by have := H0.out.size; simp; try omega) _))) (hb.mono (by have := H0.out.size; simp; try omega))
    have H1 := Lib.hid hbw
    clear hb hbw
    go_wp2_with fail
    refine (Modulation_yes n _ HI.out.1).mono ?_
    rintro e w2 ⟨rfl, hb⟩
    have hbw : Below w.heap.size w w2 := Below.trans (by repeat (first | exact H1.out | (refine Below.alloc ?_ (by have := H1.out.size; simp; try omega) _))) (hb.mono (by have := H1.out.size; simp; try omega))
    have H2 := Lib.hid hbw
    clear hb hbw
    go_wp2_with fail
    refine (RNeed_yes n _ HI.out.1.2).mono ?_
    rintro e w3 ⟨rfl, hb⟩
    have hbw : Below w.heap.size w w3 := Below.trans (by repeat (first | exact H2.out | (refine Below.alloc ?_ (by have := H2.out.size; simp; try omega) _))) (hb.mono (by have := H2.out.size; simp; try omega))
    have H3 := Lib.hid hbw
    clear hb hbw
    go_wp2_with fail
    refine (RModulation_yes n _ HI.out.1).mono ?_
    rintro e w4 ⟨rfl, hb⟩
    have hbw : Below w.heap.size w w4 := Below.trans (by repeat (first | exact H3.out | (refine Below.alloc ?_ (by have := H3.out.size; simp; try omega) _))) (hb.mono (by have := H3.out.size; simp; try omega))
    have H4 := Lib.hid hbw
    clear hb hbw
    go_wp2_with fail
    refine (Sturdier_any n b _).mono ?_
    rintro e w5 ⟨rfl, hb⟩
    have hbw : Below w.heap.size w w5 := Below.trans (by repeat (first | exact H4.out | (refine Below.alloc ?_ (by have := H4.out.size; simp; try omega) _))) (hb.mono (by have := H4.out.size; simp; try omega))
    have H5 := Lib.hid hbw
    clear hb hbw
    rw [HI.out.2]
    go_wp2_with fail
    refine (works_any _).mono ?_
    rintro e w6 ⟨rfl, hb⟩
    have hbw : Below w.heap.size w w6 := Below.trans (by repeat (first | exact H5.out | (refine Below.alloc ?_ (by have := H5.out.size; simp; try omega) _))) (hb.mono (by have := H5.out.size; simp; try omega))
    have H6 := Lib.hid hbw
    clear hb hbw
    go_wp2_with fail
    go_ret
    exact ⟨rfl, H6.out⟩

set_option maxRecDepth 100000 in
set_option maxHeartbeats 2000000 in
theorem ModcodNeeds_none (a b : Int) (w : World) (ha : inR a = false) :
    Calls Try.prog 4 #[.int .i64 a, .int .i64 b] w fun e w' => e = .returned (.bool true) ∧ Below w.heap.size w w' := by
  have H0 := Lib.hid (Below.refl w.heap.size w)
  have HI := Lib.hid (And.intro ha (And.intro (sturd_no a b (.inl ha)) (sturd_no b a (.inr ha))))
  have ho := outR ha
  have hob : (decide ((1 : Int) ≤ b) = false) ∨ (decide ((1 : Int) ≤ b) = true ∧ decide (b ≤ (28 : Int)) = false) ∨ (decide ((1 : Int) ≤ b) = true ∧ decide (b ≤ (28 : Int)) = true) := by
    by_cases h1 : 1 ≤ b
    · by_cases h2 : b ≤ 28
      · right; right; simp; omega
      · right; left; simp; omega
    · left; simp; omega
  clear ha
  rcases ho with g1 | ⟨g1, g2⟩ <;> rcases hob with g3 | ⟨g3, g4⟩ | ⟨g3, g4⟩
  all_goals
    go_enter Try.func4, Try.ntmps4
    go_wp2_with fail
    refine (Need_no a _ HI.out.1).mono ?_
    rintro e w1 ⟨rfl, hb⟩
    have hbw : Below w.heap.size w w1 := Below.trans (by repeat (first | exact H0.out | (refine Below.alloc ?_ (by have := H0.out.size; simp; try omega) _))) (hb.mono (by have := H0.out.size; simp; try omega))
    have H1 := Lib.hid hbw
    clear hb hbw
    go_wp2_with fail
    refine (Modulation_no a _ HI.out.1).mono ?_
    rintro e w2 ⟨rfl, hb⟩
    have hbw : Below w.heap.size w w2 := Below.trans (by repeat (first | exact H1.out | (refine Below.alloc ?_ (by have := H1.out.size; simp; try omega) _))) (hb.mono (by have := H1.out.size; simp; try omega))
    have H2 := Lib.hid hbw
    clear hb hbw
    go_wp2_with fail
    refine (Sturdier_any a b _).mono ?_
    rintro e w3 ⟨rfl, hb⟩
    have hbw : Below w.heap.size w w3 := Below.trans (by repeat (first | exact H2.out | (refine Below.alloc ?_ (by have := H2.out.size; simp; try omega) _))) (hb.mono (by have := H2.out.size; simp; try omega))
    have H3 := Lib.hid hbw
    clear hb hbw
    rw [HI.out.2.1]
    go_wp2_with fail
    refine (Sturdier_any b a _).mono ?_
    rintro e w4 ⟨rfl, hb⟩
    have hbw : Below w.heap.size w w4 := Below.trans (by repeat (first | exact H3.out | (refine Below.alloc ?_ (by have := H3.out.size; simp; try omega) _))) (hb.mono (by have := H3.out.size; simp; try omega))
    have H4 := Lib.hid hbw
    clear hb hbw
    rw [HI.out.2.2]
    go_wp2_with fail
    refine (works_any _).mono ?_
    rintro e w5 ⟨rfl, hb⟩
    have hbw : Below w.heap.size w w5 := Below.trans (by repeat (first | exact H4.out | (refine Below.alloc ?_ (by have := H4.out.size; simp; try omega) _))) (hb.mono (by have := H4.out.size; simp; try omega))
    have H5 := Lib.hid hbw
    clear hb hbw
    go_wp2_with fail
    go_ret
    exact ⟨rfl, H5.out⟩

theorem ModcodNeeds_walk (v0 v1 : Value) (W : World) (c0 : Came Try.prog W 3 v0) (c1 : Came Try.prog W 3 v1) :
    Calls Try.prog 4 #[v0, v1] W fun e w' => e = .returned (.bool true) ∧ Below W.heap.size W w' := by
  obtain ⟨a, rfl, _⟩ := c0.int Try.underlying3
  obtain ⟨b, rfl, _⟩ := c1.int Try.underlying3
  cases ha : inR a with
  | false => exact ModcodNeeds_none a b W ha
  | true =>
    obtain ⟨n, rfl, hn⟩ := inR_of ha
    cases hb : inR b with
    | false => exact ModcodNeeds_one n b W hn hb
    | true =>
      obtain ⟨m, rfl, hm⟩ := inR_of hb
      exact ModcodNeeds_both n m W hn hm

end Go.Proofs.Ytmiobfnjegdhdaa
