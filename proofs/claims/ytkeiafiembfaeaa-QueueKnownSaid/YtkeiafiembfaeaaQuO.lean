/- QueueKnown. -/
import Derived.Test.YtkeiafiembfaeaaQuN
set_option linter.unusedSimpArgs false
set_option linter.unusedVariables false
namespace Go.Proofs.Ytkeiafiembfaeaa
open Go.RowKit Go.Shelf
attribute [local irreducible] wpMix
attribute [local irreducible] zeros Kn

abbrev KF : List Pk := Kn 14 ++ [(((14 : Nat) : Int) + 1 + 1, (7, 2, zeros 17215), 0)]
theorem okF : QsOk 8 10000 1000000 (((14 : Nat) : Int) + 1 + 1) KF := (okK 14 (by omega)).put (by rw [kput 14 _ (by omega) (by omega)]; rfl) (by omega)
theorem F80 : hd (qof KF 8 0) = .tuple #[.agg #[.int .u64 0, .int .i64 0, .int .i64 0, .string { data := #[] }, .int .u64 0], .bool false] := by
  rw [qof_nil okF (by decide)]; rfl
theorem Kn_head : ∀ k, ∃ l, Kn k = (1, (7, 2, zeros 65519), 1152921504606846976) :: l
  | 0 => ⟨[], by unfold Kn; rfl⟩
  | k + 1 => by obtain ⟨l, h⟩ := Kn_head k; exact ⟨l ++ [_], by rw [Kn, h]; rfl⟩
theorem F72 : hd (qof KF 7 2) = .tuple #[.agg #[.int .u64 1, .int .i64 7, .int .i64 2, .string (zeros 65519), .int .u64 1152921504606846976], .bool true] := by
  rw [qof_snoc, if_pos ⟨rfl, rfl⟩, Kn_qof]
  obtain ⟨l, h⟩ := Kn_head 14
  rw [h]; rfl
theorem Fn : qof KF (-1) 0 = [] := qof_nil okF (by decide)
theorem Flen : KF.length = 16 := by rw [List.length_append, Kn_len]; rfl
theorem hdNil : hd [] = .tuple #[.agg #[.int .u64 0, .int .i64 0, .int .i64 0, .string { data := #[] }, .int .u64 0], .bool false] := rfl

set_option maxRecDepth 100000 in
set_option maxHeartbeats 4000000 in
theorem QueueKnown_walk (w : World) : Calls Try.prog 7 #[] w fun e w' => e = .returned (.bool true) ∧ Below w.heap.size w w' := by
  obtain ⟨w0, rfl⟩ : ∃ w0, w0 = w := ⟨w, rfl⟩
  go_enter Try.func7, Try.ntmps7
  go_wp2_with fail
  refine (sNew 8 (Sep.nil w0) (by omega) (by omega) (by omega)).mono ?_
  rintro e w1 ⟨b, rfl, hs, _⟩
  have S1 := Lib.hid hs
  clear hs
  go_wp2_with (refine wpList_make_zero rfl (.const (.int .i64 65519)) (.const (.int .i64 65519)) 31 5 rfl Try.underlying31 Try.underlying5 u8_info 65519 rfl rfl (by omega) ?_; intro wz hbz hcv; have hcs := hcv 9 Try.underlying9; clear hcv)
  have SZ := Lib.hid (S1.out.below hbz)
  clear hbz S1
  refine (sPut_ok (i := 0) SZ.out rfl (QsOk.nil (by omega) (by omega) (by omega)) (by go_wf) (by go_wf) (by rw [zeros_size]; unfold maxLen; omega) kput0).mono ?_
  clear hcs
  rintro e w2 ⟨rfl, hs⟩
  have S2 := Lib.hid (hs.same (L' := [QsT b 8 10000 1000000 (((0 : Nat) : Int) + 1) (Kn 0)]) (by unfold Kn; rfl))
  clear hs SZ
  go_wp2_with (refine wpList_make_zero rfl (.const (.int .i64 65520)) (.const (.int .i64 65520)) 31 5 rfl Try.underlying31 Try.underlying5 u8_info 65520 rfl rfl (by omega) ?_; intro wz hbz hcv; have hcs := hcv 9 Try.underlying9; clear hcv)
  have SZ := Lib.hid (S2.out.below hbz)
  clear hbz S2
  refine (sPut_bad (i := 0) (e := 3) SZ.out rfl (okK 0 (by omega)) (by go_wf) (by go_wf) (by rw [zeros_size]; unfold maxLen; omega) (by rw [kput 0 _ (by omega) (by omega)]; rfl) (by omega)).mono ?_
  clear hcs
  rintro e w3 ⟨rfl, hs⟩
  have S3 := Lib.hid (hs)
  clear hs SZ
  go_wp2_with fail
  go_loopw [7] (fun i wr => ∃ k : Nat, k ≤ 14 ∧ i = .int .i64 k ∧ Hid (Sep w0.heap.size w0 wr [QsT b 8 10000 1000000 (((k : Nat) : Int) + 1) (Kn k)])) (fun i _ => 14 - (intOf i).toNat)
  case atStart => exact ⟨0, by omega, rfl, S3⟩
  case round =>
    clear S3
    obtain ⟨k, hk, rfl, S4⟩ := hrel
    by_cases hlt : k < 14
    · have hlt' : (k : Int) < 14 := by omega
      go_wp2_with (refine wpList_make_zero rfl (.const (.int .i64 65519)) (.const (.int .i64 65519)) 31 5 rfl Try.underlying31 Try.underlying5 u8_info 65519 rfl rfl (by omega) ?_; intro wz hbz hcv; have hcs := hcv 9 Try.underlying9; clear hcv)
      have SZ := Lib.hid (S4.out.below hbz)
      clear hbz S4
      refine (sPut_ok (i := 0) SZ.out rfl (okK k (by omega)) (by go_wf) (by go_wf) (by rw [zeros_size]; unfold maxLen; omega) (by rw [kput k _ (by omega) (by omega), if_neg (by omega), if_pos (by omega)])).mono ?_
      clear hcs
      rintro e w4 ⟨rfl, hs⟩
      have S5 := Lib.hid (hs)
      clear hs SZ
      go_wp2_with fail
      go_roundw
      case rel => exact ⟨k + 1, by omega, by go_num, Lib.hid (S5.out.same (by rw [Kn, show (k : Int) + 1 + 1 = (k : Int) + 2 by omega, show ((k + 1 : Nat) : Int) + 1 = (k : Int) + 2 by omega]; rfl))⟩
      case measure => simp [intOf]; omega
    · obtain rfl : k = 14 := by omega
      go_wp2_with (refine wpList_make_zero rfl (.const (.int .i64 17216)) (.const (.int .i64 17216)) 31 5 rfl Try.underlying31 Try.underlying5 u8_info 17216 rfl rfl (by omega) ?_; intro wz hbz hcv; have hcs := hcv 9 Try.underlying9; clear hcv)
      have SZ := Lib.hid (S4.out.below hbz)
      clear hbz S4
      refine (sPut_bad (i := 0) (e := 7) SZ.out rfl (okK 14 (by omega)) (by go_wf) (by go_wf) (by rw [zeros_size]; unfold maxLen; omega) (by rw [kput 14 _ (by omega) (by omega)]; rfl) (by omega)).mono ?_
      clear hcs
      rintro e w5 ⟨rfl, hs⟩
      have S5 := Lib.hid (hs)
      clear hs SZ
      go_wp2_with (refine wpList_make_zero rfl (.const (.int .i64 17215)) (.const (.int .i64 17215)) 31 5 rfl Try.underlying31 Try.underlying5 u8_info 17215 rfl rfl (by omega) ?_; intro wz hbz hcv; have hcs := hcv 9 Try.underlying9; clear hcv)
      have SZ := Lib.hid (S5.out.below hbz)
      clear hbz S5
      refine (sPut_ok (i := 0) SZ.out rfl (okK 14 (by omega)) (by go_wf) (by go_wf) (by rw [zeros_size]; unfold maxLen; omega) (by rw [kput 14 _ (by omega) (by omega)]; rfl)).mono ?_
      clear hcs
      rintro e w6 ⟨rfl, hs⟩
      have S6 := Lib.hid (hs)
      clear hs SZ
      go_wp2_with fail
      refine (sHead (i := 0) (t := 8) (c := 0) S6.out rfl okF (by go_wf) (by go_wf)).mono ?_
      rintro e w7 ⟨rfl, hs, _⟩
      rw [F80]
      have S7 := Lib.hid hs
      clear hs S6
      go_wp2_with fail
      generalize hW : World.alloc _ _ = W7
      have y12 : Blk W7 w7.heap.size 37 #[.int .u64 0, .int .i64 0, .int .i64 0, .string { data := #[] }, .int .u64 0] := by rw [← hW]; exact Blk.new _ _ _
      have S8 := Lib.hid (And.intro (S7.out.below (w' := W7) (by rw [← hW]; exact (Below.refl _ _).alloc (Nat.le_refl _) _)) y12)
      clear hW S7 y12
      refine (sHead (i := 0) (t := 7) (c := 2) S8.out.1 rfl okF (by go_wf) (by go_wf)).mono ?_
      rintro e w8 ⟨rfl, hs, hb8⟩
      rw [F72]
      have S9 := Lib.hid (And.intro hs (S8.out.2.below hb8 S8.out.2.lt))
      clear hs S8 hb8
      go_wp2_with fail
      generalize hW : World.alloc _ _ = W8
      have hb9 : Below w8.heap.size w8 W8 := by rw [← hW]; exact (Below.refl _ _).alloc (Nat.le_refl _) _
      have y14 : Blk W8 w8.heap.size 37 #[.int .u64 1, .int .i64 7, .int .i64 2, .string (zeros 65519), .int .u64 1152921504606846976] := by rw [← hW]; exact Blk.new _ _ _
      have S10 := Lib.hid (And.intro (S9.out.1.below hb9) (And.intro (S9.out.2.below hb9 S9.out.2.lt) y14))
      clear hW S9 y14 hb9
      refine (sLen (i := 0) (t := -1) (c := 0) S10.out.1 rfl okF (by go_wf) (by go_wf)).mono ?_
      rintro e w9 ⟨rfl, hs, hb⟩
      rw [Fn]
      have S11 := Lib.hid (And.intro hs (And.intro (S10.out.2.1.below hb S10.out.2.1.lt) (S10.out.2.2.below hb S10.out.2.2.lt)))
      clear hs S10 hb
      go_wp2_with fail
      refine (put_nil _ _ _ _ _).mono ?_
      rintro e w10 ⟨rfl, hb⟩
      have S12 := Lib.hid (And.intro (S11.out.1.below hb) (And.intro (S11.out.2.1.below hb S11.out.2.1.lt) (S11.out.2.2.below hb S11.out.2.2.lt)))
      clear S11 hb
      go_wp2_with fail
      refine (take_nil _ _ _).mono ?_
      rintro e w11 ⟨rfl, hb⟩
      rw [hdNil]
      have S13 := Lib.hid (And.intro (S12.out.1.below hb) (And.intro (S12.out.2.1.below hb S12.out.2.1.lt) (S12.out.2.2.below hb S12.out.2.2.lt)))
      clear S12 hb
      go_wp2_with fail
      generalize hW : World.alloc _ _ = W11
      have hb : Below w11.heap.size w11 W11 := by rw [← hW]; exact (Below.refl _ _).alloc (Nat.le_refl _) _
      have S14 := Lib.hid (And.intro (S13.out.1.below hb) (And.intro (S13.out.2.1.below hb S13.out.2.1.lt) (S13.out.2.2.below hb S13.out.2.2.lt)))
      clear S13 hb hW
      refine (head_nil _ _ _).mono ?_
      rintro e w12 ⟨rfl, hb⟩
      rw [hdNil]
      have S15 := Lib.hid (And.intro (S14.out.1.below hb) (And.intro (S14.out.2.1.below hb S14.out.2.1.lt) (S14.out.2.2.below hb S14.out.2.2.lt)))
      clear S14 hb
      go_wp2_with fail
      generalize hW : World.alloc _ _ = W12
      have hb : Below w12.heap.size w12 W12 := by rw [← hW]; exact (Below.refl _ _).alloc (Nat.le_refl _) _
      have S16 := Lib.hid (And.intro (S15.out.1.below hb) (And.intro (S15.out.2.1.below hb S15.out.2.1.lt) (S15.out.2.2.below hb S15.out.2.2.lt)))
      clear S15 hb hW
      refine (len_nil _ _ _).mono ?_
      rintro e w13 ⟨rfl, rfl⟩
      go_wp2_with fail
      refine (works_yes _).mono ?_
      rintro e w14 ⟨rfl, hb⟩
      have S17 := Lib.hid (S16.out.1.below hb)
      have y12 := S16.out.2.1.below hb S16.out.2.1.lt
      have y14 := S16.out.2.2.below hb S16.out.2.2.lt
      have z0 := y12.cell 0
      have z1 := y12.cell 1
      have z2 := y12.cell 2
      have z3 := y12.cell 3
      have z4 := y12.cell 4
      have z5 := y14.cell 4
      clear S16 hb y12 y14
      go_wp2_with fail
      clear z0 z1 z2 z3 z4 z5
      refine (sWaits (i := 0) S17.out rfl okF (by rw [Flen]; omega)).mono ?_
      rintro e w15 ⟨rfl, hs, _⟩
      rw [Flen]
      have S18 := Lib.hid hs
      clear hs S17
      go_wp2_with fail
      refine (heads_nil _).mono ?_
      rintro e w16 ⟨rfl, rfl⟩
      go_wp2_with fail
      refine (waits_nil _).mono ?_
      rintro e w17 ⟨rfl, rfl⟩
      go_wp2_with fail
      refine (new_no _ _ _ _ (by omega)).mono ?_
      rintro e w17 ⟨rfl, rfl⟩
      go_wp2_with fail
      refine (new_no _ _ _ _ (by omega)).mono ?_
      rintro e w17 ⟨rfl, rfl⟩
      go_wp2_with fail
      refine (new_no _ _ _ _ (by omega)).mono ?_
      rintro e w17 ⟨rfl, rfl⟩
      go_wp2_with fail
      refine (new_no _ _ _ _ (by omega)).mono ?_
      rintro e w17 ⟨rfl, rfl⟩
      go_wp2_with fail
      refine (new_no _ _ _ _ (by omega)).mono ?_
      rintro e w17 ⟨rfl, rfl⟩
      go_wp2_with fail
      refine (new_no _ _ _ _ (by omega)).mono ?_
      rintro e w17 ⟨rfl, rfl⟩
      go_wp2_with fail
      go_ret
      exact ⟨rfl, S18.out.world⟩

end Go.Proofs.Ytkeiafiembfaeaa
