/- Put's questions, one by one. -/
import Derived.Test.YtkeiafiembfaeaaQuD
import Derived.Deep.QuietTactic
import Derived.BigQuiet
import Derived.IntWalk
set_option linter.unusedSimpArgs false
set_option linter.unusedVariables false
namespace Go.Proofs.Ytkeiafiembfaeaa
open Go.RowKit
attribute [local irreducible] wpMix

theorem str_ne {s : ByteArray} (h : s.size ≠ 0) : ¬ s.toList = [] := fun e => h (by rw [ByteArray.toList_eq] at e; have := congrArg List.length e; rw [Array.length_toList] at this; exact this)
theorem unlessQ (is : Bool) (e : Int) (w : World) : Calls Try.prog 29 #[.bool is, .int .i64 e] w fun r w' => r = .returned (.int .i64 (unlQ is e)) ∧ w' = w := (unless_any is e w).mono fun _ _ ⟨a, b⟩ => ⟨a, b.symm⟩
theorem withinQ (n lo hi : Int) (w : World) : Calls Try.prog 23 #[.int .i64 n, .int .i64 lo, .int .i64 hi] w fun r w' => r = .returned (.bool (wIn n lo hi)) ∧ w' = w := (within_any n lo hi w).mono fun _ _ ⟨a, b⟩ => ⟨a, b.symm⟩

section
variable {W : World} {b gq gt gs go : Nat} {mb : Option Nat} {n most room last t : Int} {s : ByteArray}

theorem put1 (hb : Blk W b 60 #[.map mb, .int .i64 n, .int .i64 most, .int .i64 room, .int .u64 last]) (hq : Blk W gq 24 #[ptr b]) (ht : Blk W gt 3 #[.int .i64 t]) (n1 : 1 ≤ n) (n8 : n ≤ 8) :
    Calls Try.prog 28 #[ptr gt, ptr gq] W fun r w' => r = .returned (.int .i64 (unlQ (wIn t 0 (n - 1)) 9)) ∧ Below W.heap.size W w' := by
  have c0 := hb.cell 1
  have c1 := hq.cell 0
  have c2 := ht.cell 0
  have hw : IntKind.i64.wrap (n - 1) = n - 1 := IntWalk.i64_in _ (by omega)
  clear hb hq ht n1 n8
  go_enter Try.func28, Try.ntmps28
  go_wp2_with fail
  go_quiet ((first | (go_at_call 23; exact Calls.quiet_of_same (withinQ _ _ _ _)) | (go_at_call 29; exact Calls.quiet_of_same (unlessQ _ _ _))))
  go_wp2_with fail
  go_ret
  exact ⟨rfl, below_drewN (Below.refl _ _) _⟩
theorem put2 {x : Value} {y : Bool} (hx : (x = .pointer none ∧ y = false) ∨ ∃ g, x = ptr g ∧ y = true) (ho : Blk W go 61 #[x]) :
    Calls Try.prog 30 #[ptr go] W fun r w' => r = .returned (.int .i64 (unlQ y 2)) ∧ Below W.heap.size W w' := by
  have c0 := ho.cell 0
  clear ho
  rcases hx with ⟨rfl, rfl⟩ | ⟨g, rfl, rfl⟩
  · go_enter Try.func30, Try.ntmps30
    go_wp2_with fail
    refine (unless_any _ _ _).mono ?_
    rintro e w' ⟨rfl, rfl⟩
    go_wp2_with fail
    go_ret
    exact ⟨rfl, Below.refl _ _⟩
  · go_enter Try.func30, Try.ntmps30
    go_wp2_with fail
    refine (unless_any _ _ _).mono ?_
    rintro e w' ⟨rfl, rfl⟩
    go_wp2_with fail
    go_ret
    exact ⟨rfl, Below.refl _ _⟩
theorem put3 (hs : Blk W gs 9 #[.string s]) (hm : s.size ≤ maxLen) :
    Calls Try.prog 31 #[ptr gs] W fun r w' => r = .returned (.int .i64 (unlQ (decide (s.size ≠ 0)) 8)) ∧ Below W.heap.size W w' := by
  have c0 := hs.cell 0
  clear hs
  by_cases h : s.size = 0
  · obtain rfl : s = ByteArray.empty := by
      apply ByteArray.ext; apply Array.eq_empty_of_size_eq_zero; exact h
    go_enter Try.func31, Try.ntmps31
    go_wp2_with fail
    refine (unless_any _ _ _).mono ?_
    rintro e w' ⟨rfl, rfl⟩
    go_wp2_with fail
    go_ret
    exact ⟨rfl, Below.refl _ _⟩
  · rw [decide_eq_true h]
    have h1 : (s.toList == ByteArray.empty.toList) = false := by rw [str_beq, decide_eq_false]; rintro rfl; exact h rfl
    have h2 : (s.toList != ByteArray.empty.toList) = true := by rw [bne, h1]; rfl
    have h3 : ¬ s.toList = [] := str_ne h
    have h5 : s.toList.isEmpty = false := by rw [List.isEmpty_eq_false_iff]; exact h3
    clear h
    go_enter Try.func31, Try.ntmps31
    go_wp2_with fail
    refine (unless_any _ _ _).mono ?_
    rintro e w' ⟨rfl, rfl⟩
    go_wp2_with fail
    go_ret
    exact ⟨rfl, Below.refl _ _⟩
theorem put4 (hs : Blk W gs 9 #[.string s]) (hm : s.size ≤ maxLen) :
    Calls Try.prog 32 #[ptr gs] W fun r w' => r = .returned (.int .i64 (unlQ (decide (s.size ≤ 65519)) 3)) ∧ Below W.heap.size W w' := by
  have c0 := hs.cell 0
  clear hs
  unfold maxLen at hm
  by_cases h : s.size ≤ 65519
  all_goals
    first | rw [decide_eq_true h] | rw [decide_eq_false h]
    have h' : ((s.size : Int) ≤ 65519) = (s.size ≤ 65519) := by apply propext; omega
    first | have hd : decide ((s.size : Int) ≤ 65519) = true := (by rw [decide_eq_true_iff]; omega) | have hd : decide ((s.size : Int) ≤ 65519) = false := (by rw [decide_eq_false_iff_not]; omega)
    clear h h'
    go_enter Try.func32, Try.ntmps32
    go_wp2_with fail
    refine (unless_any _ _ _).mono ?_
    rintro e w' ⟨rfl, rfl⟩
    go_wp2_with fail
    go_ret
    exact ⟨rfl, Below.refl _ _⟩
variable {rb t' : Nat} {v : Value} {l : List Pk} {q : Nat}
theorem put5 (hb : Blk W b 60 #[.map mb, .int .i64 n, .int .i64 most, .int .i64 room, .int .u64 last]) (hq : Blk W gq 24 #[ptr b]) (ho : Blk W go 61 #[ptr t'])
    (h1 : Blk W t' 65 #[ptr rb, .int .i64 q]) (hr : RingAt W rb most v l) :
    Calls Try.prog 33 #[ptr go, ptr gq] W fun r w' => r = .returned (.int .i64 (unlQ (decide ((l.length : Int) < most)) 6)) ∧ Below W.heap.size W w' := by
  have c0 := hb.cell 2
  have c1 := hq.cell 0
  have c2 := ho.cell 0
  have c3 := h1.cell 0
  have HR := Lib.hid (fun q : Nat => (ringLen _ _ _ _ (W.drewN q) (hr.keep rfl fun _ _ => rfl)).mono fun _ _ ⟨a, b⟩ => And.intro a b.symm)
  clear hb hq ho h1 hr
  go_enter Try.func33, Try.ntmps33
  go_wp2_with fail
  go_quiet ((first | (go_at_call 34; exact Calls.quiet_of_same (HR.out _)) | (go_at_call 29; exact Calls.quiet_of_same (unlessQ _ _ _))))
  go_wp2_with fail
  go_ret
  exact ⟨rfl, below_drewN (Below.refl _ _) _⟩
theorem put6 (hb : Blk W b 60 #[.map mb, .int .i64 n, .int .i64 most, .int .i64 room, .int .u64 last]) (hq : Blk W gq 24 #[ptr b]) (ho : Blk W go 61 #[ptr t']) (hs : Blk W gs 9 #[.string s])
    (h1 : Blk W t' 65 #[ptr rb, .int .i64 q]) (hq2 : q ≤ 1000000) (hm : s.size ≤ 65519) :
    Calls Try.prog 35 #[ptr go, ptr gs, ptr gq] W fun r w' => r = .returned (.int .i64 (unlQ (decide ((q : Int) + s.size ≤ room)) 7)) ∧ Below W.heap.size W w' := by
  have c0 := hb.cell 3
  have c1 := hq.cell 0
  have c2 := ho.cell 0
  have c3 := h1.cell 1
  have c4 := hs.cell 0
  have hw : IntKind.i64.wrap ((q : Int) + s.size) = q + s.size := IntWalk.i64_in _ (by omega)
  clear hb hq ho h1 hs hq2 hm
  go_enter Try.func35, Try.ntmps35
  go_wp2_with fail
  go_quiet ((go_at_call 29; exact Calls.quiet_of_same (unlessQ _ _ _)))
  go_wp2_with fail
  go_ret
  exact ⟨rfl, below_drewN (Below.refl _ _) _⟩
end

end Go.Proofs.Ytkeiafiembfaeaa
