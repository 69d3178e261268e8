/- The program's functions of modes, walked. -/
import Derived.Test.YtmiobfnjegdhdaaModA
import Derived.Test.YtmiobfnjegdhdaaRes
import Derived.Shelf.Abstract
import Derived.RangeFuncCalls
set_option linter.unusedSimpArgs false
set_option linter.unusedVariables false
namespace Go.Proofs.Ytmiobfnjegdhdaa
open Go.RowKit

def rowV (n : Nat) : Array Value := #[.int .i64 (mAt n 0), .int .i64 (mAt n 1), .int .i64 (mAt n 2), .int .i64 (mAt n 3)]

/-- An element of the rows. -/
theorem index_rows (w : World) : ∀ n : Nat, n ≤ 28 → (Instr.index 43 (.agg (mRows 29)) (.int .i64 (n : Int))).run Try.prog w = .ok (.agg (rowV n)) w
  | 0, _ => by kernel_rfl
  | 1, _ => by kernel_rfl
  | 2, _ => by kernel_rfl
  | 3, _ => by kernel_rfl
  | 4, _ => by kernel_rfl
  | 5, _ => by kernel_rfl
  | 6, _ => by kernel_rfl
  | 7, _ => by kernel_rfl
  | 8, _ => by kernel_rfl
  | 9, _ => by kernel_rfl
  | 10, _ => by kernel_rfl
  | 11, _ => by kernel_rfl
  | 12, _ => by kernel_rfl
  | 13, _ => by kernel_rfl
  | 14, _ => by kernel_rfl
  | 15, _ => by kernel_rfl
  | 16, _ => by kernel_rfl
  | 17, _ => by kernel_rfl
  | 18, _ => by kernel_rfl
  | 19, _ => by kernel_rfl
  | 20, _ => by kernel_rfl
  | 21, _ => by kernel_rfl
  | 22, _ => by kernel_rfl
  | 23, _ => by kernel_rfl
  | 24, _ => by kernel_rfl
  | 25, _ => by kernel_rfl
  | 26, _ => by kernel_rfl
  | 27, _ => by kernel_rfl
  | 28, _ => by kernel_rfl
  | n + 29, h => absurd h (by omega)

theorem rowV_one (n : Nat) : (rowV n).all (·.oneCell') = true := by simp [rowV, Value.oneCell']
theorem rowV_size (n : Nat) : (rowV n).size = 4 := rfl

set_option maxHeartbeats 1000000 in
theorem row_in (n : Nat) (w : World) (h : 1 ≤ n ∧ n ≤ 28) :
    Calls Try.prog 29 #[.int .i64 (n : Int)] w fun e w' => e = .returned (.tuple #[.agg (rowV n), .bool true]) ∧ Below w.heap.size w w' := by
  obtain ⟨h1, h2⟩ := h
  have g1 : decide ((n : Int) < 1) = false := by simp; omega
  have g2 : decide ((28 : Int) < n) = false := by simp; omega
  go_enter Try.func29, Try.ntmps29
  go_wp2_with fail
  refine (rows_any _).mono ?_
  rintro e w1 ⟨rfl, hb⟩
  have hi := index_rows w1 n h2
  generalize mRows 29 = M at *
  generalize hr : rowV n = r at *
  have hy : Blk w1 w.heap.size 40 #[.int .i64 0, .int .i64 0, .int .i64 0, .int .i64 0] := (Blk.new w _ _).below hb (by simp)
  have hbw : Below w.heap.size w w1 := ((Below.refl _ w).alloc (Nat.le_refl _) _).trans (hb.mono (by simp))
  have HB := Lib.hid hbw
  clear hb hbw
  go_wp2_with (refine wpList_store_row rfl 40 (.tmp 2) (.tmp 13) rfl w.heap.size r rfl rfl 40 #[.int .i64 0, .int .i64 0, .int .i64 0, .int .i64 0] hy (by rw [← hr]; kernel_rfl) (by rw [← hr]; rfl) (by rw [← hr]; exact rowV_one n) ?_)
  have hz : Blk (w1.setRow w.heap.size r) w.heap.size 40 r := hy.setRow _
  refine bodyPost_ret (res_cell_tmp rfl _ _ w.heap.size 40 r _ rfl hz Try.underlying40 rfl (by rw [← hr]; kernel_rfl)) rfl ⟨by rw [hr]; rfl, ?_⟩
  exact Below_setRow HB.out (Nat.le_refl _) _

theorem row_out (a : Int) (w : World) (h : a < 1 ∨ 28 < a) :
    Calls Try.prog 29 #[.int .i64 a] w fun e w' => e = .returned (.tuple #[.agg #[.int .i64 0, .int .i64 0, .int .i64 0, .int .i64 0], .bool false]) ∧ Below w.heap.size w w' := by
  have key : ∀ g1 g2 : Bool, decide (a < 1) = g1 → decide (28 < a) = g2 → (g1 || g2) = true →
      Calls Try.prog 29 #[.int .i64 a] w fun e w' => e = .returned (.tuple #[.agg #[.int .i64 0, .int .i64 0, .int .i64 0, .int .i64 0], .bool false]) ∧ Below w.heap.size w w' := by
    intro g1 g2 h1 h2 h3
    cases g1 <;> cases g2
    · cases h3
    all_goals
      clear h h3
      go_enter Try.func29, Try.ntmps29
      go_wp2_with fail
      refine bodyPost_ret (res_cell_tmp rfl _ _ w.heap.size 40 _ _ rfl (Blk.new w _ _) Try.underlying40 rfl (by kernel_rfl)) rfl ⟨rfl, ?_⟩
      exact (Below.refl _ _).alloc (Nat.le_refl _) _
  refine key _ _ rfl rfl ?_
  rcases h with h | h
  · simp [h]
  · simp [h]

theorem row_any (a : Int) (w : World) :
    Calls Try.prog 29 #[.int .i64 a] w fun e w' => e = .returned (.tuple #[.agg #[.int .i64 (col a 0), .int .i64 (col a 1), .int .i64 (col a 2), .int .i64 (col a 3)], .bool (inR a)]) ∧ Below w.heap.size w w' := by
  by_cases h : 1 ≤ a ∧ a ≤ 28
  · obtain ⟨n, rfl⟩ : ∃ n : Nat, a = n := ⟨a.toNat, by omega⟩
    have hr : inR (n : Int) = true := by simp [inR]; omega
    refine (row_in n w (by omega)).mono ?_
    rintro e w' ⟨rfl, hb⟩
    refine ⟨?_, hb⟩
    simp only [col, hr, if_true, Int.toNat_natCast, rowV]
  · have hr : inR a = false := by simp [inR]; omega
    refine (row_out a w (by omega)).mono ?_
    rintro e w' ⟨rfl, hb⟩
    refine ⟨?_, hb⟩
    simp [col, hr]

/-- A mode's cells. -/
abbrev modeV (num : Int) (short pil : Bool) : Array Value := #[.int .i64 num, .bool short, .bool pil]

theorem bits_any (num : Int) (short pil : Bool) (w : World) :
    Calls Try.prog 26 #[.agg (modeV num short pil)] w fun e w' => e = .returned (.int .i64 (mBits num short)) ∧ Below w.heap.size w w' := by
  have key : ∀ b, short = b → Calls Try.prog 26 #[.agg (modeV num b pil)] w fun e w' => e = .returned (.int .i64 (mBits num b)) ∧ Below w.heap.size w w' := by
    intro b hb
    cases b
    all_goals
      go_enter Try.func26, Try.ntmps26
      go_wp2_with fail
      refine (row_any _ _).mono ?_
      rintro e w1 ⟨rfl, hb1⟩
      have hm : mBits num true = col num 2 := rfl
      have hm' : mBits num false = col num 1 := rfl
      have HM := Lib.hid (And.intro hm hm')
      clear hm hm'
      generalize col num 0 = x0 at *
      generalize col num 1 = x1 at *
      generalize col num 2 = x2 at *
      generalize col num 3 = x3 at *
      have hy := (Blk.new w 23 _).below hb1 (by simp)
      have c1 := hy.cell 1
      have hbw : Below w.heap.size w w1 := ((Below.refl _ w).alloc (Nat.le_refl _) _).trans (hb1.mono (by simp))
      have hl := hy.lt
      have HB := Lib.hid hbw
      clear hb1 hbw hy
      go_wp2_with fail
      go_ret
      exact ⟨ret_int (by first | exact HM.out.1.symm | exact HM.out.2.symm), HB.out.trans (((Below.refl _ _).alloc (Nat.le_refl _) _).mono HB.out.size)⟩
  exact key short rfl

theorem Is_any (num : Int) (short pil : Bool) (w : World) :
    Calls Try.prog 12 #[.agg (modeV num short pil)] w fun e w' => e = .returned (.bool (mIs num short)) ∧ Below w.heap.size w w' := by
  go_enter Try.func12, Try.ntmps12
  go_wp2_with fail
  refine (bits_any _ _ _ _).mono ?_
  rintro e w1 ⟨rfl, hb1⟩
  have HB := Lib.hid hb1
  clear hb1
  generalize hx : mBits num short = x
  have HX := Lib.hid hx
  clear hx
  go_wp2_with fail
  go_ret
  exact ⟨ret_bool (by rw [mIs, HX.out]), ((Below.refl _ w).alloc (Nat.le_refl _) _).trans (HB.out.mono (by simp))⟩

/-- A function that tells n, whenever it is asked. -/
def FnTo (w : World) (v : Value) (n : Int) : Prop := ∃ K first cap, v = .func (.func K) first cap ∧ (∀ args w, (callFunc K args).run Try.prog w = .ok (.enter K args) w) ∧
  ∀ W, Below w.heap.size w W → Calls Try.prog K (first ++ cap) W fun e W' => e = .returned (.int .i64 n) ∧ Below W.heap.size W W'

theorem told_yes (num : Int) (short pil : Bool) (v : Value) (n : Int) (w : World) (h : mIs num short = true) (hv : FnTo w v n) :
    Calls Try.prog 24 #[.agg (modeV num short pil), v] w fun e w' => e = .returned (.tuple #[.int .i64 n, .int .i64 0]) ∧ Below w.heap.size w w' := by
  obtain ⟨K, first, cap, rfl, he, hc⟩ := hv
  have HC := Lib.hid hc
  clear hc
  go_enter Try.func24, Try.ntmps24
  go_wp2_with fail
  refine (Is_any _ _ _ _).mono ?_
  rintro e w1 ⟨rfl, hb1⟩
  have hbw : Below w.heap.size w w1 := ((Below.refl _ w).alloc (Nat.le_refl _) _).trans (hb1.mono (by simp))
  have HB := Lib.hid hbw
  clear hb1 hbw
  rw [h]
  go_wp2_with fail
  refine (HC.out w1 HB.out).mono ?_
  rintro e w2 ⟨rfl, hb2⟩
  have HB2 := Lib.hid hb2
  clear hb2
  go_wp2_with fail
  go_ret2
  exact ⟨rfl, HB.out.trans (HB2.out.mono HB.out.size)⟩

theorem told_no (num : Int) (short pil : Bool) (v : Value) (w : World) (h : mIs num short = false) :
    Calls Try.prog 24 #[.agg (modeV num short pil), v] w fun e w' => e = .returned (.tuple #[.int .i64 0, .int .i64 15]) ∧ Below w.heap.size w w' := by
  go_enter Try.func24, Try.ntmps24
  go_wp2_with fail
  refine (Is_any _ _ _ _).mono ?_
  rintro e w1 ⟨rfl, hb1⟩
  have hbw : Below w.heap.size w w1 := ((Below.refl _ w).alloc (Nat.le_refl _) _).trans (hb1.mono (by simp))
  have HB := Lib.hid hbw
  clear hb1 hbw
  rw [h]
  go_wp2_with fail
  go_ret2
  exact ⟨rfl, HB.out⟩

theorem Kbch1_fn (g : Nat) (num : Int) (short pil : Bool) (w : World) (hB : Blk w g 23 (modeV num short pil)) :
    FnTo w (.func (.func 25) #[] #[.pointer (some ⟨g, 0, none⟩)]) (mBits num short) := by
  refine ⟨_, _, _, rfl, enters_of Try.func25 (by kernel_rfl) rfl, fun W hW => ?_⟩
  have hB := hB.below hW hB.lt
  have c0 := hB.cell 0
  have c1 := hB.cell 1
  have c2 := hB.cell 2
  have hg := hB.lt
  clear hW hB
  simp only [List.append_toArray, List.nil_append]
  go_enter Try.func25, Try.ntmps25
  go_wp2_with fail
  refine (bits_any _ _ _ _).mono ?_
  rintro e w1 ⟨rfl, hb1⟩
  have HB := Lib.hid hb1
  clear hb1
  have hbd := mBits_bd num short
  generalize hx : mBits num short = x at *
  have HX := Lib.hid hx
  clear hx
  go_wp2_with fail
  go_ret
  exact ⟨ret_int (by first | exact HX.out.symm | (unfold mField; rw [HX.out])), HB.out⟩

theorem Field1_fn (g : Nat) (num : Int) (short pil : Bool) (w : World) (hB : Blk w g 23 (modeV num short pil)) :
    FnTo w (.func (.func 27) #[] #[.pointer (some ⟨g, 0, none⟩)]) (mField num short) := by
  refine ⟨_, _, _, rfl, enters_of Try.func27 (by kernel_rfl) rfl, fun W hW => ?_⟩
  have hB := hB.below hW hB.lt
  have c0 := hB.cell 0
  have c1 := hB.cell 1
  have c2 := hB.cell 2
  have hg := hB.lt
  clear hW hB
  simp only [List.append_toArray, List.nil_append]
  go_enter Try.func27, Try.ntmps27
  go_wp2_with fail
  refine (bits_any _ _ _ _).mono ?_
  rintro e w1 ⟨rfl, hb1⟩
  have HB := Lib.hid hb1
  clear hb1
  have hbd := mBits_bd num short
  generalize hx : mBits num short = x at *
  have HX := Lib.hid hx
  clear hx
  go_wp2_with fail
  go_ret
  exact ⟨ret_int (by first | exact HX.out.symm | (unfold mField; rw [HX.out])), HB.out⟩

theorem Symbols1_fn (g : Nat) (num : Int) (short pil : Bool) (w : World) (hB : Blk w g 23 (modeV num short pil)) :
    FnTo w (.func (.func 28) #[] #[.pointer (some ⟨g, 0, none⟩)]) (mSymbols num short pil) := by
  refine ⟨_, _, _, rfl, enters_of Try.func28 (by kernel_rfl) rfl, fun W hW => ?_⟩
  have hB := hB.below hW hB.lt
  have c0 := hB.cell 0
  have c1 := hB.cell 1
  have c2 := hB.cell 2
  have hg := hB.lt
  have HB := Lib.hid hB
  clear hW hB
  have key : ∀ b p, short = b → pil = p → Calls Try.prog 28 #[.pointer (some ⟨g, 0, none⟩)] W fun e W' => e = .returned (.int .i64 (mSymbols num b p)) ∧ Below W.heap.size W W' := by
    intro b p hb hp
    cases b <;> cases p
    all_goals
      subst hb hp
      go_enter Try.func28, Try.ntmps28
      go_wp2_with fail
      refine (row_any _ _).mono ?_
      rintro e w1 ⟨rfl, hb1⟩
      have d1 := (HB.out.below hb1 hg).cell 1
      have d2 := (HB.out.below hb1 hg).cell 2
      have hg1 : g < w1.heap.size := Nat.lt_of_lt_of_le hg hb1.size
      have hbd := (col_bd num).1
      have H1 := Lib.hid hb1
      clear hb1 c1 c2
      have hss : 1 ≤ 16200 / (90 * (2 + col num 0)) ∧ 16200 / (90 * (2 + col num 0)) ≤ 360 := mSlots_bd num true
      have hsl : 1 ≤ 64800 / (90 * (2 + col num 0)) ∧ 64800 / (90 * (2 + col num 0)) ≤ 360 := mSlots_bd num false
      go_wp2_with fail
      go_ret
      exact ⟨ret_int (by simp [mSymbols, mSlots, mAll]), H1.out.trans (((Below.refl _ _).alloc (Nat.le_refl _) _).mono H1.out.size)⟩
  exact key short pil rfl rfl

theorem Kbch_yes (num : Int) (short pil : Bool) (w : World) (h : mIs num short = true) :
    Calls Try.prog 9 #[.agg (modeV num short pil)] w fun e w' => e = .returned (.tuple #[.int .i64 (mBits num short), .int .i64 0]) ∧ Below w.heap.size w w' := by
  go_enter Try.func9, Try.ntmps9
  go_wp2_with fail
  refine (told_yes num short pil _ (mBits num short) _ h (Kbch1_fn _ _ _ _ _ (Blk.new w _ _))).mono ?_
  rintro e w1 ⟨rfl, hb1⟩
  have HB := Lib.hid hb1
  clear hb1
  generalize hx : mBits num short = x at *
  have HX := Lib.hid hx
  clear hx
  go_wp2_with fail
  go_ret2
  rw [HX.out]
  exact ⟨rfl, ((Below.refl _ w).alloc (Nat.le_refl _) _).trans (HB.out.mono (by simp))⟩

theorem Kbch_no (num : Int) (short pil : Bool) (w : World) (h : mIs num short = false) :
    Calls Try.prog 9 #[.agg (modeV num short pil)] w fun e w' => e = .returned (.tuple #[.int .i64 0, .int .i64 15]) ∧ Below w.heap.size w w' := by
  go_enter Try.func9, Try.ntmps9
  go_wp2_with fail
  refine (told_no num short pil _ _ h).mono ?_
  rintro e w1 ⟨rfl, hb1⟩
  have HB := Lib.hid hb1
  clear hb1
  go_wp2_with fail
  go_ret2
  exact ⟨rfl, ((Below.refl _ w).alloc (Nat.le_refl _) _).trans (HB.out.mono (by simp))⟩

theorem Field_yes (num : Int) (short pil : Bool) (w : World) (h : mIs num short = true) :
    Calls Try.prog 10 #[.agg (modeV num short pil)] w fun e w' => e = .returned (.tuple #[.int .i64 (mField num short), .int .i64 0]) ∧ Below w.heap.size w w' := by
  go_enter Try.func10, Try.ntmps10
  go_wp2_with fail
  refine (told_yes num short pil _ (mField num short) _ h (Field1_fn _ _ _ _ _ (Blk.new w _ _))).mono ?_
  rintro e w1 ⟨rfl, hb1⟩
  have HB := Lib.hid hb1
  clear hb1
  generalize hx : mField num short = x at *
  have HX := Lib.hid hx
  clear hx
  go_wp2_with fail
  go_ret2
  rw [HX.out]
  exact ⟨rfl, ((Below.refl _ w).alloc (Nat.le_refl _) _).trans (HB.out.mono (by simp))⟩

theorem Field_no (num : Int) (short pil : Bool) (w : World) (h : mIs num short = false) :
    Calls Try.prog 10 #[.agg (modeV num short pil)] w fun e w' => e = .returned (.tuple #[.int .i64 0, .int .i64 15]) ∧ Below w.heap.size w w' := by
  go_enter Try.func10, Try.ntmps10
  go_wp2_with fail
  refine (told_no num short pil _ _ h).mono ?_
  rintro e w1 ⟨rfl, hb1⟩
  have HB := Lib.hid hb1
  clear hb1
  go_wp2_with fail
  go_ret2
  exact ⟨rfl, ((Below.refl _ w).alloc (Nat.le_refl _) _).trans (HB.out.mono (by simp))⟩

theorem Symbols_yes (num : Int) (short pil : Bool) (w : World) (h : mIs num short = true) :
    Calls Try.prog 11 #[.agg (modeV num short pil)] w fun e w' => e = .returned (.tuple #[.int .i64 (mSymbols num short pil), .int .i64 0]) ∧ Below w.heap.size w w' := by
  go_enter Try.func11, Try.ntmps11
  go_wp2_with fail
  refine (told_yes num short pil _ (mSymbols num short pil) _ h (Symbols1_fn _ _ _ _ _ (Blk.new w _ _))).mono ?_
  rintro e w1 ⟨rfl, hb1⟩
  have HB := Lib.hid hb1
  clear hb1
  generalize hx : mSymbols num short pil = x at *
  have HX := Lib.hid hx
  clear hx
  go_wp2_with fail
  go_ret2
  rw [HX.out]
  exact ⟨rfl, ((Below.refl _ w).alloc (Nat.le_refl _) _).trans (HB.out.mono (by simp))⟩

theorem Symbols_no (num : Int) (short pil : Bool) (w : World) (h : mIs num short = false) :
    Calls Try.prog 11 #[.agg (modeV num short pil)] w fun e w' => e = .returned (.tuple #[.int .i64 0, .int .i64 15]) ∧ Below w.heap.size w w' := by
  go_enter Try.func11, Try.ntmps11
  go_wp2_with fail
  refine (told_no num short pil _ _ h).mono ?_
  rintro e w1 ⟨rfl, hb1⟩
  have HB := Lib.hid hb1
  clear hb1
  go_wp2_with fail
  go_ret2
  exact ⟨rfl, ((Below.refl _ w).alloc (Nat.le_refl _) _).trans (HB.out.mono (by simp))⟩

end Go.Proofs.Ytmiobfnjegdhdaa
