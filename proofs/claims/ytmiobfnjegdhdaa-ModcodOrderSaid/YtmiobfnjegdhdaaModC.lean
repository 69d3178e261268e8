/- The numbers of modes, walked. -/
import Derived.Test.YtmiobfnjegdhdaaModB
set_option linter.unusedSimpArgs false
set_option linter.unusedVariables false
namespace Go.Proofs.Ytmiobfnjegdhdaa
open Go.RowKit

theorem Below.drewl {B : Nat} {a w : World} (h : Below B a.drew w) : Below B a w := ⟨h.os, h.tape, h.output, h.size, h.block⟩

theorem field_need (a b c d : Int) (w : World) : (Instr.field 40 (.agg #[.int .i64 a, .int .i64 b, .int .i64 c, .int .i64 d]) 3).run Try.prog w = .ok (.int .i64 d) w := by kernel_rfl
theorem field_mod (a b c d : Int) (w : World) : (Instr.field 40 (.agg #[.int .i64 a, .int .i64 b, .int .i64 c, .int .i64 d]) 0).run Try.prog w = .ok (.int .i64 a) w := by kernel_rfl

theorem Need1_fn (g n : Nat) (hn : n ≤ 28) (w : World) (hB : Blk w g 3 #[.int .i64 (n : Int)]) :
    FnTo w (.func (.func 30) #[] #[.pointer (some ⟨g, 0, none⟩)]) (mAt n 3) := by
  refine ⟨_, _, _, rfl, enters_of Try.func30 (by kernel_rfl) rfl, fun W hW => ?_⟩
  have hB := hB.below hW hB.lt
  have c0 := hB.cell 0
  have hg := hB.lt
  clear hW hB
  simp only [List.append_toArray, List.nil_append]
  go_enter Try.func30, Try.ntmps30
  go_wp2_with fail
  refine wp_region_sub [0] (fun W' => Below W.heap.size W W') (by kernel_rfl) (by kernel_rfl) ((Below.refl _ _).drew) (fun _ => ?_)
  (refine mix_act (by rfl) (by rfl) (fun K hK => ?_))
  go_wp2_with fail
  refine (rows_any _).mono ?_
  rintro e w1 ⟨rfl, hb1⟩
  have hb2 : Below W.heap.size W w1 := Below.drewl hb1
  have H1 := Lib.hid hb2
  have hi := fun w => index_rows w n hn
  have hf1 := field_need
  have hf2 := field_mod
  have hv : rowV n = #[.int .i64 (mAt n 0), .int .i64 (mAt n 1), .int .i64 (mAt n 2), .int .i64 (mAt n 3)] := rfl
  rw [hv] at hi
  clear hb1 hb2 hv
  generalize mRows 29 = M at *
  go_wp2_with fail
  refine ⟨.mk H1.out, ?_⟩
  iterate 4 (refine mix_read (by kernel_rfl) (by rfl) (by rfl) (by rfl) (of_decide_eq_true (by kernel_rfl)) ?_; apply Exists.intro; apply Exists.intro; refine ⟨fun w' hw' K hK => ?_, ?_, ?_⟩; (obtain ⟨X, rfl⟩ := hw'; go_wp2_with fail; first | exact ⟨rfl, rfl⟩ | exact rfl); rfl)
  refine mix_nil ?_
  go_wp2_with fail
  go_ret
  exact ⟨rfl, H1.out⟩

theorem Modulation1_fn (g n : Nat) (hn : n ≤ 28) (w : World) (hB : Blk w g 3 #[.int .i64 (n : Int)]) :
    FnTo w (.func (.func 32) #[] #[.pointer (some ⟨g, 0, none⟩)]) (mAt n 0) := by
  refine ⟨_, _, _, rfl, enters_of Try.func32 (by kernel_rfl) rfl, fun W hW => ?_⟩
  have hB := hB.below hW hB.lt
  have c0 := hB.cell 0
  have hg := hB.lt
  clear hW hB
  simp only [List.append_toArray, List.nil_append]
  go_enter Try.func32, Try.ntmps32
  go_wp2_with fail
  refine wp_region_sub [0] (fun W' => Below W.heap.size W W') (by kernel_rfl) (by kernel_rfl) ((Below.refl _ _).drew) (fun _ => ?_)
  (refine mix_act (by rfl) (by rfl) (fun K hK => ?_))
  go_wp2_with fail
  refine (rows_any _).mono ?_
  rintro e w1 ⟨rfl, hb1⟩
  have hb2 : Below W.heap.size W w1 := Below.drewl hb1
  have H1 := Lib.hid hb2
  have hi := fun w => index_rows w n hn
  have hf1 := field_need
  have hf2 := field_mod
  have hv : rowV n = #[.int .i64 (mAt n 0), .int .i64 (mAt n 1), .int .i64 (mAt n 2), .int .i64 (mAt n 3)] := rfl
  rw [hv] at hi
  clear hb1 hb2 hv
  generalize mRows 29 = M at *
  go_wp2_with fail
  refine ⟨.mk H1.out, ?_⟩
  iterate 4 (refine mix_read (by kernel_rfl) (by rfl) (by rfl) (by rfl) (of_decide_eq_true (by kernel_rfl)) ?_; apply Exists.intro; apply Exists.intro; refine ⟨fun w' hw' K hK => ?_, ?_, ?_⟩; (obtain ⟨X, rfl⟩ := hw'; go_wp2_with fail; first | exact ⟨rfl, rfl⟩ | exact rfl); rfl)
  refine mix_nil ?_
  go_wp2_with fail
  go_ret
  exact ⟨rfl, H1.out⟩

theorem Need_yes (n : Nat) (w : World) (h : 1 ≤ n ∧ n ≤ 28) :
    Calls Try.prog 17 #[.int .i64 (n : Int)] w fun e w' => e = .returned (.tuple #[.int .i64 (mAt n 3), .int .i64 0]) ∧ Below w.heap.size w w' := by
  have hi : mIs (n : Int) false = true := by rw [mIs_false]; simp [inR]; omega
  have HI := Lib.hid (And.intro hi h)
  clear hi h
  go_enter Try.func17, Try.ntmps17
  go_wp2_with fail
  refine (told_yes (n : Int) false false _ (mAt n 3) _ HI.out.1 (Need1_fn _ _ HI.out.2.2 _ (Blk.new w _ _))).mono ?_
  rintro e w1 ⟨rfl, hb1⟩
  have HB := Lib.hid hb1
  clear hb1
  generalize hx : mAt n 3 = x at *
  have HX := Lib.hid hx
  clear hx
  go_wp2_with fail
  go_ret2
  rw [HX.out]
  exact ⟨rfl, ((Below.refl _ w).alloc (Nat.le_refl _) _).trans (HB.out.mono (by simp))⟩

theorem Need_no (a : Int) (w : World) (h : inR a = false) :
    Calls Try.prog 17 #[.int .i64 a] w fun e w' => e = .returned (.tuple #[.int .i64 0, .int .i64 15]) ∧ Below w.heap.size w w' := by
  have HI := Lib.hid ((mIs_false a).trans h)
  clear h
  go_enter Try.func17, Try.ntmps17
  go_wp2_with fail
  refine (told_no a false false _ _ HI.out).mono ?_
  rintro e w1 ⟨rfl, hb1⟩
  have HB := Lib.hid hb1
  clear hb1
  go_wp2_with fail
  go_ret2
  exact ⟨rfl, ((Below.refl _ w).alloc (Nat.le_refl _) _).trans (HB.out.mono (by simp))⟩

theorem Modulation_yes (n : Nat) (w : World) (h : 1 ≤ n ∧ n ≤ 28) :
    Calls Try.prog 18 #[.int .i64 (n : Int)] w fun e w' => e = .returned (.tuple #[.int .i64 (mAt n 0), .int .i64 0]) ∧ Below w.heap.size w w' := by
  have hi : mIs (n : Int) false = true := by rw [mIs_false]; simp [inR]; omega
  have HI := Lib.hid (And.intro hi h)
  clear hi h
  go_enter Try.func18, Try.ntmps18
  go_wp2_with fail
  refine (told_yes (n : Int) false false _ (mAt n 0) _ HI.out.1 (Modulation1_fn _ _ HI.out.2.2 _ (Blk.new w _ _))).mono ?_
  rintro e w1 ⟨rfl, hb1⟩
  have HB := Lib.hid hb1
  clear hb1
  generalize hx : mAt n 0 = x at *
  have HX := Lib.hid hx
  clear hx
  go_wp2_with fail
  go_ret2
  rw [HX.out]
  exact ⟨rfl, ((Below.refl _ w).alloc (Nat.le_refl _) _).trans (HB.out.mono (by simp))⟩

theorem Modulation_no (a : Int) (w : World) (h : inR a = false) :
    Calls Try.prog 18 #[.int .i64 a] w fun e w' => e = .returned (.tuple #[.int .i64 0, .int .i64 15]) ∧ Below w.heap.size w w' := by
  have HI := Lib.hid ((mIs_false a).trans h)
  clear h
  go_enter Try.func18, Try.ntmps18
  go_wp2_with fail
  refine (told_no a false false _ _ HI.out).mono ?_
  rintro e w1 ⟨rfl, hb1⟩
  have HB := Lib.hid hb1
  clear hb1
  go_wp2_with fail
  go_ret2
  exact ⟨rfl, ((Below.refl _ w).alloc (Nat.le_refl _) _).trans (HB.out.mono (by simp))⟩

theorem Sturdier_any (a b : Int) (w : World) :
    Calls Try.prog 19 #[.int .i64 a, .int .i64 b] w fun e w' => e = .returned (.bool (sturd a b)) ∧ Below w.heap.size w w' := by
  have key : ∀ x y, inR a = x → inR b = y → Calls Try.prog 19 #[.int .i64 a, .int .i64 b] w fun e w' => e = .returned (.bool (x && y && decide (col a 3 < col b 3))) ∧ Below w.heap.size w w' := by
    intro x y hx hy
    have HX := Lib.hid (And.intro hx hy)
    clear hx hy
    cases x <;> cases y
    all_goals
      go_enter Try.func19, Try.ntmps19
      go_wp2_with fail
      refine (row_any _ _).mono ?_
      rintro e w1 ⟨rfl, hb1⟩
      have H1 := Lib.hid hb1
      clear hb1
      rw [HX.out.1]
      generalize col a 0 = a0 at *
      generalize col a 1 = a1 at *
      generalize col a 2 = a2 at *
      generalize ha3 : col a 3 = a3 at *
      have HA := Lib.hid ha3
      clear ha3
      go_wp2_with fail
      refine (row_any _ _).mono ?_
      rintro e w2 ⟨rfl, hb2⟩
      have d3 := ((Blk.new w1 40 #[.int .i64 a0, .int .i64 a1, .int .i64 a2, .int .i64 a3]).below hb2 (by simp)).cell 3
      have hl2 := ((Blk.new w1 40 #[.int .i64 a0, .int .i64 a1, .int .i64 a2, .int .i64 a3]).below hb2 (by simp)).lt
      have H2 := Lib.hid hb2
      clear hb2
      rw [HX.out.2]
      generalize col b 0 = b0 at *
      generalize col b 1 = b1 at *
      generalize col b 2 = b2 at *
      generalize hb3 : col b 3 = b3 at *
      have HB := Lib.hid hb3
      clear hb3
      go_wp2_with fail
      go_ret
      refine ⟨ret_bool (by simp [HA.out, HB.out]), ?_⟩
      exact H1.out.trans ((((Below.refl _ w1).alloc (Nat.le_refl _) _).trans ((H2.out.trans (((Below.refl _ _).alloc (Nat.le_refl _) _).mono H2.out.size)).mono (by simp))).mono H1.out.size)
  exact key _ _ rfl rfl

end Go.Proofs.Ytmiobfnjegdhdaa
