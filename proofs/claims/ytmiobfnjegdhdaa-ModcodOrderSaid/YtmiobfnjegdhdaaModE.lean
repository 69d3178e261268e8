/- The reference's symbols and needs; the chapter's rows. -/
import Derived.Test.YtmiobfnjegdhdaaModD
set_option linter.unusedSimpArgs false
set_option linter.unusedVariables false
namespace Go.Proofs.Ytmiobfnjegdhdaa
open Go.RowKit

theorem need_law : ∀ n, n < 29 → ([0, -235, -124, -30, 100, 223, 310, 403, 468, 518, 620, 642, 550, 662, 791, 935, 1069, 1098, 897, 1021, 1103, 1161, 1289, 1313, 1273, 1364, 1428, 1569, 1605] : List Int)[n]? = some (mAt n 3) := by decide +kernel

theorem RNeed_yes (n : Nat) (w : World) (h : n ≤ 28) :
    Calls Try.prog 20 #[.int .i64 (n : Int)] w fun e w' => e = .returned (.int .i64 (mAt n 3)) ∧ Below w.heap.size w w' := by
  have c := lit_cell w 3 _ n _ (need_law n (by omega))
  simp only [List.map_cons, List.map_nil] at c
  have hn : (n : Int) < 29 := by omega
  generalize hx : mAt n 3 = x at c
  have HX := Lib.hid hx
  clear hx h
  go_enter Try.func20, Try.ntmps20
  go_wp2_with fail
  go_ret
  exact ⟨rfl, (Below.refl _ _).alloc (Nat.le_refl _) _⟩


set_option maxHeartbeats 1000000 in
theorem RSymbols_sp (n : Nat) (w : World) (h : 1 ≤ n ∧ n ≤ 28) :
    Calls Try.prog 16 #[.agg (modeV n true true)] w fun e w' => e = .returned (.int .i64 (mSymbols n true true)) ∧ Below w.heap.size w w' := by
  have hc : col (n : Int) 0 = mAt n 0 := by simp [col, inR, h.1, h.2]; omega
  have hbd := (mAt_bd n (by omega)).1
  have hs : 1 ≤ 16200 / (90 * (2 + mAt n 0)) ∧ 16200 / (90 * (2 + mAt n 0)) ≤ 360 := by rw [← hc]; exact mSlots_bd n true
  have e0 : mSymbols (n : Int) true true = 90 * (1 + 16200 / (90 * (2 + mAt n 0))) + (if true = true then 36 * ((16200 / (90 * (2 + mAt n 0)) - 1) / 16) else 0) := by rw [← hc]; rfl
  have HC := Lib.hid (And.intro h e0)
  clear hc h e0
  go_enter Try.func16, Try.ntmps16
  go_wp2_with fail
  refine (RModulation_yes n _ HC.out.1).mono ?_
  rintro e w1 ⟨rfl, hb1⟩
  have hy := (Blk.new w 23 _).below hb1 (by simp)
  have c2 := hy.cell 2
  have hl := hy.lt
  have hbw : Below w.heap.size w w1 := ((Below.refl _ w).alloc (Nat.le_refl _) _).trans (hb1.mono (by simp))
  have HB := Lib.hid hbw
  clear hb1 hbw hy
  go_wp2_with fail
  obtain ⟨S, hS⟩ : ∃ S : Nat, 16200 / (90 * (2 + mAt n 0)) = S := ⟨(16200 / (90 * (2 + mAt n 0))).toNat, by omega⟩
  have HS := Lib.hid hS
  rw [hS] at hs ⊢
  clear hS
  go_loop [5, 6] (fun m i => ∃ k : Nat, 1 ≤ k ∧ k ≤ S ∧ i = .int .i64 k ∧ m = .int .i64 (90 + 90 * S + 36 * (((k : Int) - 1) / 16))) (fun _ i => S - (intOf i).toNat)
  case atStart => exact ⟨1, by omega, by omega, rfl, by simp⟩
  case round =>
    obtain ⟨k, hk1, hk2, rfl, rfl⟩ := hrel
    by_cases hlt : k < S
    · have hlt' : (k : Int) < S := by omega
      have hq : 0 ≤ ((k : Int) - 1) / 16 ∧ ((k : Int) - 1) / 16 ≤ 360 := by omega
      by_cases h16 : (k : Int) % 16 = 0
      · have hb : ((k : Int) % 16 == 0) = true := by simpa using h16
        have H16 := Lib.hid h16
        clear h16
        go_wp2_with fail
        go_round
        case rel => exact ⟨k + 1, by omega, by omega, by go_num, by have := H16.out; congr 1; omega⟩
        case measure => simp [intOf]; omega
      · have hb : ((k : Int) % 16 == 0) = false := by simpa using h16
        have H16 := Lib.hid h16
        clear h16
        go_wp2_with fail
        go_round
        case rel => exact ⟨k + 1, by omega, by omega, by go_num, by have := H16.out; congr 1; omega⟩
        case measure => simp [intOf]; omega
    · obtain rfl : k = S := by omega
      go_wp2_with fail
      go_ret
      exact ⟨ret_int (by rw [HC.out.2, HS.out]; simp; omega), HB.out⟩

set_option maxHeartbeats 1000000 in
theorem RSymbols_sn (n : Nat) (w : World) (h : 1 ≤ n ∧ n ≤ 28) :
    Calls Try.prog 16 #[.agg (modeV n true false)] w fun e w' => e = .returned (.int .i64 (mSymbols n true false)) ∧ Below w.heap.size w w' := by
  have hc : col (n : Int) 0 = mAt n 0 := by simp [col, inR, h.1, h.2]; omega
  have hbd := (mAt_bd n (by omega)).1
  have hs : 1 ≤ 16200 / (90 * (2 + mAt n 0)) ∧ 16200 / (90 * (2 + mAt n 0)) ≤ 360 := by rw [← hc]; exact mSlots_bd n true
  have e0 : mSymbols (n : Int) true false = 90 * (1 + 16200 / (90 * (2 + mAt n 0))) + (if false = true then 36 * ((16200 / (90 * (2 + mAt n 0)) - 1) / 16) else 0) := by rw [← hc]; rfl
  have HC := Lib.hid (And.intro h e0)
  clear hc h e0
  go_enter Try.func16, Try.ntmps16
  go_wp2_with fail
  refine (RModulation_yes n _ HC.out.1).mono ?_
  rintro e w1 ⟨rfl, hb1⟩
  have hy := (Blk.new w 23 _).below hb1 (by simp)
  have c2 := hy.cell 2
  have hl := hy.lt
  have hbw : Below w.heap.size w w1 := ((Below.refl _ w).alloc (Nat.le_refl _) _).trans (hb1.mono (by simp))
  have HB := Lib.hid hbw
  clear hb1 hbw hy
  go_wp2_with fail
  go_ret
  exact ⟨ret_int (by rw [HC.out.2]; simp; omega), HB.out⟩

set_option maxHeartbeats 1000000 in
theorem RSymbols_lp (n : Nat) (w : World) (h : 1 ≤ n ∧ n ≤ 28) :
    Calls Try.prog 16 #[.agg (modeV n false true)] w fun e w' => e = .returned (.int .i64 (mSymbols n false true)) ∧ Below w.heap.size w w' := by
  have hc : col (n : Int) 0 = mAt n 0 := by simp [col, inR, h.1, h.2]; omega
  have hbd := (mAt_bd n (by omega)).1
  have hs : 1 ≤ 64800 / (90 * (2 + mAt n 0)) ∧ 64800 / (90 * (2 + mAt n 0)) ≤ 360 := by rw [← hc]; exact mSlots_bd n false
  have e0 : mSymbols (n : Int) false true = 90 * (1 + 64800 / (90 * (2 + mAt n 0))) + (if true = true then 36 * ((64800 / (90 * (2 + mAt n 0)) - 1) / 16) else 0) := by rw [← hc]; rfl
  have HC := Lib.hid (And.intro h e0)
  clear hc h e0
  go_enter Try.func16, Try.ntmps16
  go_wp2_with fail
  refine (RModulation_yes n _ HC.out.1).mono ?_
  rintro e w1 ⟨rfl, hb1⟩
  have hy := (Blk.new w 23 _).below hb1 (by simp)
  have c2 := hy.cell 2
  have hl := hy.lt
  have hbw : Below w.heap.size w w1 := ((Below.refl _ w).alloc (Nat.le_refl _) _).trans (hb1.mono (by simp))
  have HB := Lib.hid hbw
  clear hb1 hbw hy
  go_wp2_with fail
  obtain ⟨S, hS⟩ : ∃ S : Nat, 64800 / (90 * (2 + mAt n 0)) = S := ⟨(64800 / (90 * (2 + mAt n 0))).toNat, by omega⟩
  have HS := Lib.hid hS
  rw [hS] at hs ⊢
  clear hS
  go_loop [5, 6] (fun m i => ∃ k : Nat, 1 ≤ k ∧ k ≤ S ∧ i = .int .i64 k ∧ m = .int .i64 (90 + 90 * S + 36 * (((k : Int) - 1) / 16))) (fun _ i => S - (intOf i).toNat)
  case atStart => exact ⟨1, by omega, by omega, rfl, by simp⟩
  case round =>
    obtain ⟨k, hk1, hk2, rfl, rfl⟩ := hrel
    by_cases hlt : k < S
    · have hlt' : (k : Int) < S := by omega
      have hq : 0 ≤ ((k : Int) - 1) / 16 ∧ ((k : Int) - 1) / 16 ≤ 360 := by omega
      by_cases h16 : (k : Int) % 16 = 0
      · have hb : ((k : Int) % 16 == 0) = true := by simpa using h16
        have H16 := Lib.hid h16
        clear h16
        go_wp2_with fail
        go_round
        case rel => exact ⟨k + 1, by omega, by omega, by go_num, by have := H16.out; congr 1; omega⟩
        case measure => simp [intOf]; omega
      · have hb : ((k : Int) % 16 == 0) = false := by simpa using h16
        have H16 := Lib.hid h16
        clear h16
        go_wp2_with fail
        go_round
        case rel => exact ⟨k + 1, by omega, by omega, by go_num, by have := H16.out; congr 1; omega⟩
        case measure => simp [intOf]; omega
    · obtain rfl : k = S := by omega
      go_wp2_with fail
      go_ret
      exact ⟨ret_int (by rw [HC.out.2, HS.out]; simp; omega), HB.out⟩

set_option maxHeartbeats 1000000 in
theorem RSymbols_ln (n : Nat) (w : World) (h : 1 ≤ n ∧ n ≤ 28) :
    Calls Try.prog 16 #[.agg (modeV n false false)] w fun e w' => e = .returned (.int .i64 (mSymbols n false false)) ∧ Below w.heap.size w w' := by
  have hc : col (n : Int) 0 = mAt n 0 := by simp [col, inR, h.1, h.2]; omega
  have hbd := (mAt_bd n (by omega)).1
  have hs : 1 ≤ 64800 / (90 * (2 + mAt n 0)) ∧ 64800 / (90 * (2 + mAt n 0)) ≤ 360 := by rw [← hc]; exact mSlots_bd n false
  have e0 : mSymbols (n : Int) false false = 90 * (1 + 64800 / (90 * (2 + mAt n 0))) + (if false = true then 36 * ((64800 / (90 * (2 + mAt n 0)) - 1) / 16) else 0) := by rw [← hc]; rfl
  have HC := Lib.hid (And.intro h e0)
  clear hc h e0
  go_enter Try.func16, Try.ntmps16
  go_wp2_with fail
  refine (RModulation_yes n _ HC.out.1).mono ?_
  rintro e w1 ⟨rfl, hb1⟩
  have hy := (Blk.new w 23 _).below hb1 (by simp)
  have c2 := hy.cell 2
  have hl := hy.lt
  have hbw : Below w.heap.size w w1 := ((Below.refl _ w).alloc (Nat.le_refl _) _).trans (hb1.mono (by simp))
  have HB := Lib.hid hbw
  clear hb1 hbw hy
  go_wp2_with fail
  go_ret
  exact ⟨ret_int (by rw [HC.out.2]; simp; omega), HB.out⟩

theorem RSymbols_yes (n : Nat) (short pil : Bool) (w : World) (h : 1 ≤ n ∧ n ≤ 28) :
    Calls Try.prog 16 #[.agg (modeV n short pil)] w fun e w' => e = .returned (.int .i64 (mSymbols n short pil)) ∧ Below w.heap.size w w' := by
  cases short <;> cases pil
  · exact RSymbols_ln n w h
  · exact RSymbols_lp n w h
  · exact RSymbols_sn n w h
  · exact RSymbols_sp n w h

end Go.Proofs.Ytmiobfnjegdhdaa
