/- Queues that are none; QueueKnown. -/
import Derived.Test.YtkeiafiembfaeaaQuM
import Derived.Test.YtkeiafiembfaeaaZer
set_option linter.unusedSimpArgs false
set_option linter.unusedVariables false
namespace Go.Proofs.Ytkeiafiembfaeaa
open Go.RowKit Go.Shelf
attribute [local irreducible] wpMix

theorem u8_info : (Try.prog.info? 5).map (fun i => (i.zero, i.size, i.bytes)) = some (some (.int .u8 0), 1, 1) := by kernel_rfl

theorem put_nil (t c ti : Int) (s : ByteArray) (w : World) : Calls Try.prog 11 #[.pointer none, .int .i64 t, .int .i64 c, .string s, .int .u64 ti] w fun e w' => e = .returned (.tuple #[.int .u64 0, .int .i64 1]) ∧ Below w.heap.size w w' := by
  go_enter Try.func11, Try.ntmps11
  go_wp2_with fail
  go_ret2
  exact ⟨rfl, (((((Below.refl _ _).alloc (Nat.le_refl _) _).alloc (by simp; try omega) _).alloc (by simp; try omega) _).alloc (by simp; try omega) _).alloc (by simp; try omega) _⟩
theorem len_nil (t c : Int) (w : World) : Calls Try.prog 17 #[.pointer none, .int .i64 t, .int .i64 c] w fun e w' => e = .returned (.tuple #[.int .i64 0, .int .i64 0]) ∧ w = w' := by
  go_enter Try.func17, Try.ntmps17
  go_wp2_with fail
  refine (of_nil _ _ _).mono ?_
  rintro e w' ⟨rfl, rfl⟩
  go_wp2_with fail
  go_ret2
  exact ⟨rfl, rfl⟩
set_option maxHeartbeats 1000000 in
theorem head_nil (t c : Int) (w : World) : Calls Try.prog 15 #[.pointer none, .int .i64 t, .int .i64 c] w fun e w' => e = .returned (hd []) ∧ Below w.heap.size w w' := by
  go_enter Try.func15, Try.ntmps15
  go_wp2_with fail
  refine (of_nil _ _ _).mono ?_
  rintro e w' ⟨rfl, rfl⟩
  generalize hW : World.alloc _ _ = W1
  have bw : Below w.heap.size w W1 := by rw [← hW]; exact (Below.refl _ _).alloc (Nat.le_refl _) _
  have z2 : Blk W1 w.heap.size 37 #[.int .u64 0, .int .i64 0, .int .i64 0, .string ByteArray.empty, .int .u64 0] := by rw [← hW]; exact Blk.new _ _ _
  have z0 := z2.cell 0
  have z1 := z2.cell 1
  have z3 := z2.cell 2
  have z4 := z2.cell 3
  have z5 := z2.cell 4
  have k0 := z2.frozen
  have hl2 := z2.lt
  have H2 := Lib.hid (And.intro z2 bw)
  clear z2 bw hW
  go_wp2_with fail
  have zf := (((((H2.out.1.set_ 0 (.int .u64 0)).set_ 1 (.int .i64 0)).set_ 2 (.int .i64 0)).set_ 3 (.string { data := #[] })).set_ 4 (.int .u64 0)).same (cs' := #[.int .u64 0, .int .i64 0, .int .i64 0, .string { data := #[] }, .int .u64 0]) (by simp only [List.setIfInBounds_toArray, List.set_cons_succ, List.set_cons_zero])
  refine bodyPost_ret (res_cell_tmp rfl _ _ w.heap.size 37 _ _ rfl zf Try.underlying37 rfl (by kernel_rfl)) rfl ⟨rfl, ?_⟩
  exact ((((H2.out.2.setCell (p := ⟨w.heap.size, 0, none⟩) (Nat.le_refl _) _).setCell (p := ⟨w.heap.size, 1, none⟩) (Nat.le_refl _) _).setCell (p := ⟨w.heap.size, 2, none⟩) (Nat.le_refl _) _).setCell (p := ⟨w.heap.size, 3, none⟩) (Nat.le_refl _) _).setCell (p := ⟨w.heap.size, 4, none⟩) (Nat.le_refl _) _
set_option maxHeartbeats 1000000 in
theorem take_nil (t c : Int) (w : World) : Calls Try.prog 13 #[.pointer none, .int .i64 t, .int .i64 c] w fun e w' => e = .returned (hd []) ∧ Below w.heap.size w w' := by
  go_enter Try.func13, Try.ntmps13
  go_wp2_with fail
  refine (of_nil _ _ _).mono ?_
  rintro e w' ⟨rfl, rfl⟩
  generalize hW : World.alloc _ _ = W1
  have bw : Below w.heap.size w W1 := by rw [← hW]; exact (Below.refl _ _).alloc (Nat.le_refl _) _
  have z2 : Blk W1 w.heap.size 37 #[.int .u64 0, .int .i64 0, .int .i64 0, .string ByteArray.empty, .int .u64 0] := by rw [← hW]; exact Blk.new _ _ _
  have z0 := z2.cell 0
  have z1 := z2.cell 1
  have z3 := z2.cell 2
  have z4 := z2.cell 3
  have z5 := z2.cell 4
  have k0 := z2.frozen
  have hl2 := z2.lt
  have H2 := Lib.hid (And.intro z2 bw)
  clear z2 bw hW
  go_wp2_with fail
  have zf := (((((H2.out.1.set_ 0 (.int .u64 0)).set_ 1 (.int .i64 0)).set_ 2 (.int .i64 0)).set_ 3 (.string { data := #[] })).set_ 4 (.int .u64 0)).same (cs' := #[.int .u64 0, .int .i64 0, .int .i64 0, .string { data := #[] }, .int .u64 0]) (by simp only [List.setIfInBounds_toArray, List.set_cons_succ, List.set_cons_zero])
  refine bodyPost_ret (res_cell_tmp rfl _ _ w.heap.size 37 _ _ rfl zf Try.underlying37 rfl (by kernel_rfl)) rfl ⟨rfl, ?_⟩
  exact ((((H2.out.2.setCell (p := ⟨w.heap.size, 0, none⟩) (Nat.le_refl _) _).setCell (p := ⟨w.heap.size, 1, none⟩) (Nat.le_refl _) _).setCell (p := ⟨w.heap.size, 2, none⟩) (Nat.le_refl _) _).setCell (p := ⟨w.heap.size, 3, none⟩) (Nat.le_refl _) _).setCell (p := ⟨w.heap.size, 4, none⟩) (Nat.le_refl _) _

/-! ## The great queue -/
def big : Int := 1152921504606846976
def Kn : Nat → List Pk
  | 0 => [(1, (7, 2, zeros 65519), big)]
  | k + 1 => Kn k ++ [((k : Int) + 2, (7, 2, zeros 65519), 0)]
theorem Kn_len : ∀ k, (Kn k).length = k + 1
  | 0 => rfl
  | k + 1 => by rw [Kn, List.length_append, Kn_len k]; rfl
theorem Kn_qof : ∀ k, qof (Kn k) 7 2 = Kn k
  | 0 => rfl
  | k + 1 => by rw [Kn, qof_snoc, if_pos ⟨rfl, rfl⟩, Kn_qof k]
theorem Kn_qb : ∀ k, qb (Kn k) = (k + 1) * 65519
  | 0 => by simp [Kn, qb, zeros_size]
  | k + 1 => by rw [Kn, qb_snoc, Kn_qb k, zeros_size]; omega
theorem in72 : InR 8 7 2 := by decide
theorem kput (k m : Nat) (hk : k ≤ 100) (hm : m ≠ 0) : putErr 8 10000 1000000 (Kn k) 7 2 (zeros m) = if 65519 < m then 3 else if (k + 1) * 65519 + m ≤ 1000000 then 0 else 7 := by
  unfold putErr
  rw [if_pos (by omega), if_pos in72, Kn_qof, Kn_qb, Kn_len, zeros_size, if_pos hm]
  have h1 : ((k + 1 : Nat) : Int) < 10000 := by omega
  by_cases h : m ≤ 65519
  · rw [if_pos h, if_pos h1, if_neg (show ¬ 65519 < m by omega)]
    by_cases h' : (k + 1) * 65519 + m ≤ 1000000
    · rw [if_pos (show (((k + 1) * 65519 : Nat) : Int) + (m : Int) ≤ 1000000 by omega), if_pos h']
    · rw [if_neg (show ¬ (((k + 1) * 65519 : Nat) : Int) + (m : Int) ≤ 1000000 by omega), if_neg h']
  · rw [if_neg h, if_pos (show 65519 < m by omega)]
theorem kput0 : putErr 8 10000 1000000 [] 7 2 (zeros 65519) = 0 := by
  unfold putErr
  rw [if_pos (by omega), if_pos in72, zeros_size, if_pos (by omega), if_pos (by omega), if_pos (by simp [qof]), if_pos (by simp [qof, qb])]
theorem okK : ∀ k : Nat, k ≤ 14 → QsOk 8 10000 1000000 ((k : Int) + 1) (Kn k)
  | 0, _ => (QsOk.nil (by omega) (by omega) (by omega)).put kput0 (by omega)
  | k + 1, h => by
    have := (okK k (by omega)).put (t := 7) (c := 2) (s := zeros 65519) (ti := 0) (by rw [kput k _ (by omega) (by omega), if_neg (by omega), if_pos (by omega)]) (by omega)
    have e : ((k + 1 : Nat) : Int) + 1 = (k : Int) + 1 + 1 := by omega
    have e2 : (k : Int) + 1 + 1 = (k : Int) + 2 := by omega
    rw [e]
    rw [e2] at this ⊢
    exact this

end Go.Proofs.Ytkeiafiembfaeaa
