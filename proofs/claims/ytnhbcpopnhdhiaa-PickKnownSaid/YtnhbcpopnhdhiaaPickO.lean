/- PickKnown: the walk up to region 9. -/
import Derived.Test.YtnhbcpopnhdhiaaPickN
import Derived.LaidEqlPtr
set_option linter.unusedSimpArgs false
set_option linter.unusedVariables false
namespace Go.Proofs.Ytnhbcpopnhdhiaa
open Go.RowKit Go.Shelf
attribute [local irreducible] wpMix

theorem fn_is {w : World} {c : Nat → Int} {v : Value} (h : FnInt w c v) : isFn v := by obtain ⟨K, fs, cap, rfl, _⟩ := h; exact .inr ⟨_, _, _, rfl⟩
theorem drr_info : (Try.prog.info? 51).isSome = true := by kernel_rfl
theorem ptr_same (a : Addr) (w : World) : (binOp .eql 25 (.pointer (some a)) (.pointer (some a))).run Try.prog w = .ok (.bool true) w := by
  obtain ⟨j, hj⟩ := Option.isSome_iff_exists.1 drr_info
  exact run_eql_ptr_same w a Try.underlying25 hj
def KnI (w : World) (bd : Nat) (vL : Value) (W : World) : Prop := Below w.heap.size w W ∧ Blk W bd 51 (dCells 5000 s00.1 s00.2.1 s00.2.2) ∧ SlAt W 4 vL 2 (knA.flatMap cC)
theorem KnI.below {w W W' : World} {bd : Nat} {vL : Value} (h : KnI w bd vL W) (hb : Below W.heap.size W W') : KnI w bd vL W' :=
  ⟨h.1.trans (hb.mono h.1.size), h.2.1.below hb h.2.1.lt, h.2.2.below hb⟩

/-- What is kept from the eighth region on. -/
def KnAll (w : World) (bd gl g3 g4 g5 g6 g7 g8 bx : Nat) (mode : Int) (W : World) : Prop :=
  KnI w bd (.slice (some ⟨gl, 0, none⟩) 2 2) W ∧ Blk W g3 33 (chA 1 9 1 (some ⟨bd, 0, none⟩)) ∧ Blk W g4 33 (chA 0 0 0 (some ⟨bd, 0, none⟩)) ∧ Blk W g5 33 (chA 0 0 0 (some ⟨bd, 0, none⟩)) ∧
    Blk W g6 33 (chA 1 4 3 (some ⟨bd, 0, none⟩)) ∧ Blk W g7 33 (chA 2 2 9 (some ⟨bd, 0, none⟩)) ∧ Blk W g8 33 (chA 3 7 mode (some ⟨bx, 0, none⟩))
theorem KnAll.below {w W W' : World} {bd gl g3 g4 g5 g6 g7 g8 bx : Nat} {mode : Int} (h : KnAll w bd gl g3 g4 g5 g6 g7 g8 bx mode W) (hb : Below W.heap.size W W') : KnAll w bd gl g3 g4 g5 g6 g7 g8 bx mode W' := by
  obtain ⟨h0, h1, h2, h3, h4, h5, h6⟩ := h
  exact ⟨h0.below hb, h1.below hb h1.lt, h2.below hb h2.lt, h3.below hb h3.lt, h4.below hb h4.lt, h5.below hb h5.lt, h6.below hb h6.lt⟩

set_option maxRecDepth 100000 in
set_option maxHeartbeats 8000000 in
theorem known_yes (w : World) : Calls Try.prog 5 #[] w fun e w' => e = .returned (.bool true) ∧ Below w.heap.size w w' := by
  go_enter Try.func5, Try.ntmps5
  go_wp2_with fail
  refine (New_yes 5000 w (by decide)).mono ?_
  rintro e w0 ⟨rfl, hb, hB⟩
  have H0 := Lib.hid (And.intro hb hB)
  clear hb hB
  generalize hbd : w.heap.size = bd
  have HBD := Lib.hid hbd
  clear hbd
  go_wp2_with fail
  have I0 : KnI w bd (.slice (some ⟨w0.heap.size, 0, none⟩) 2 2) (w0.alloc (.cells #[.int .u64 5, .int .i64 2, .bool false, .bool false, .int .u64 9, .int .i64 1, .bool true, .bool false] 45)) :=
    ⟨H0.out.1.alloc H0.out.1.size _, by rw [← HBD.out]; exact H0.out.2.alloc _, sl_new w0 _ _ 4 2 _ rfl rfl (by decide) _ rfl⟩
  generalize hW : World.alloc _ _ = V0 at *
  generalize w0.heap.size = gl at *
  have I_0 := Lib.hid I0
  clear I0 hW H0
  refine (same_any 1000 V0).mono ?_
  rintro e u1 ⟨rfl, hb1, hB1⟩
  go_wp2_with fail
  refine (same_any 1 u1).mono ?_
  rintro e u2 ⟨rfl, hb2, hB2⟩
  have hk1 := hB1.below hb2 hB1.lt
  have hbu := hb1.trans (hb2.mono hb1.size)
  have J := Lib.hid (I_0.out.below hbu)
  go_wp2_with fail
  have hp := pick_drr (.slice (some ⟨gl, 0, none⟩) 2 2) _ _ 1 bd 5000 s00 knA _ _ u2 J.out.2.2 (by decide) (by decide) s00_ok J.out.2.1 (same_fn hk1) (same_fn hB2)
  refine hp.mono ?_
  clear hp hk1 hb1 hB1 hb2 hB2
  rintro e u3 ⟨hb, pick, no, mode, bx, s', rfl, hps, hok, hBx, hcase⟩
  obtain ⟨rfl, rfl, rfl, rfl⟩ := kn_a hps
  have hbx : bd = bx := by rcases hcase with ⟨h, _⟩ | ⟨_, h⟩; (cases h); exact h.symm
  subst hbx
  have I3 := J.out.below hb
  clear hb hbu hps hok hBx hcase J I_0
  simp only [chA]
  go_upto_region 4 with fail
  have hb4 := (Below.refl u3.heap.size u3).alloc (Nat.le_refl _) (.cells #[.int .i64 1, .int .u64 9, .int .i64 1, .pointer (some ⟨bd, 0, none⟩)] 33)
  have Cn := Blk.new u3 33 #[.int .i64 1, .int .u64 9, .int .i64 1, .pointer (some ⟨bd, 0, none⟩)]
  have I4 := I3.below hb4
  generalize hW : World.alloc _ _ = V1 at *
  generalize hg : u3.heap.size = g3 at *
  have I_1 := Lib.hid I4
  have C3 := Lib.hid Cn
  clear I3 I4 Cn hb4 hW hg
  go_wp2_with fail
  refine (same_any 1000 V1).mono ?_
  rintro e u1 ⟨rfl, hb1, hB1⟩
  go_wp2_with fail
  refine (same_any 1 u1).mono ?_
  rintro e u2 ⟨rfl, hb2, hB2⟩
  have hk1 := hB1.below hb2 hB1.lt
  have hbu := hb1.trans (hb2.mono hb1.size)
  have J := Lib.hid (I_1.out.below hbu)
  go_wp2_with fail
  have hp := pick_drr (.slice none 0 0) _ _ 1 bd 5000 s00 [] _ _ u2 ⟨rfl, none, 0, rfl, Nat.le_refl _, by decide, .inl rfl⟩ (by decide) (by decide) s00_ok J.out.2.1 (same_fn hk1) (same_fn hB2)
  refine hp.mono ?_
  clear hp hk1 hb1 hB1 hb2 hB2
  rintro e u3 ⟨hb, pick, no, mode, bx, s', rfl, hps, hok, hBx, hcase⟩
  obtain ⟨rfl, rfl, rfl, rfl⟩ := kn_b hps
  have hbx : bd = bx := by rcases hcase with ⟨h, _⟩ | ⟨_, h⟩; (cases h); exact h.symm
  subst hbx
  have I3 := J.out.below hb
  have C3_m := (C3.out.below hbu C3.out.lt).below hb (C3.out.below hbu C3.out.lt).lt
  clear hb hbu hps hok hBx hcase J I_1
  simp only [chA]
  go_upto_region 5 with fail
  have hb4 := (Below.refl u3.heap.size u3).alloc (Nat.le_refl _) (.cells #[.int .i64 0, .int .u64 0, .int .i64 0, .pointer (some ⟨bd, 0, none⟩)] 33)
  have Cn := Blk.new u3 33 #[.int .i64 0, .int .u64 0, .int .i64 0, .pointer (some ⟨bd, 0, none⟩)]
  have I4 := I3.below hb4
  have C3_k := C3_m.below hb4 C3_m.lt
  generalize hW : World.alloc _ _ = V2 at *
  generalize hg : u3.heap.size = g4 at *
  have I_2 := Lib.hid I4
  have C4 := Lib.hid Cn
  have C3y := Lib.hid C3_k
  clear C3_k C3_m C3
  clear I3 I4 Cn hb4 hW hg
  go_wp2_with fail
  have hS := sl_new V2 45 #[.int .u64 1, .int .i64 29, .bool true, .bool false, .int .u64 0, .int .i64 2, .bool false, .bool true, .int .u64 2, .int .i64 0, .bool false, .bool false] 4 3 (knC.flatMap cC) rfl rfl (by decide) _ rfl
  have hb0 := (Below.refl V2.heap.size V2).alloc (Nat.le_refl _) (.cells #[.int .u64 1, .int .i64 29, .bool true, .bool false, .int .u64 0, .int .i64 2, .bool false, .bool true, .int .u64 2, .int .i64 0, .bool false, .bool false] 45)
  have J0 := I_2.out.below hb0
  have C3y_n := C3y.out.below hb0 C3y.out.lt
  have C4_n := C4.out.below hb0 C4.out.lt
  generalize hW : World.alloc _ _ = X2 at *
  generalize hgs : V2.heap.size = gs2 at *
  have I_2x := Lib.hid J0
  have hsl := Lib.hid hS
  clear hS hb0 J0 hW hgs I_2
  have C3yx := Lib.hid C3y_n
  clear C3y_n C3y
  have C4x := Lib.hid C4_n
  clear C4_n C4
  refine (same_any 1000 X2).mono ?_
  rintro e u1 ⟨rfl, hb1, hB1⟩
  go_wp2_with fail
  refine (same_any 1 u1).mono ?_
  rintro e u2 ⟨rfl, hb2, hB2⟩
  have hk1 := hB1.below hb2 hB1.lt
  have hbu := hb1.trans (hb2.mono hb1.size)
  have J := Lib.hid (I_2x.out.below hbu)
  go_wp2_with fail
  have hp := pick_drr (.slice (some ⟨gs2, 0, none⟩) 3 3) _ _ 0 bd 5000 s00 knC _ _ u2 (hsl.out.below hbu) (by decide) (by decide) s00_ok J.out.2.1 (same_fn hk1) (same_fn hB2)
  refine hp.mono ?_
  clear hp hk1 hb1 hB1 hb2 hB2
  rintro e u3 ⟨hb, pick, no, mode, bx, s', rfl, hps, hok, hBx, hcase⟩
  obtain ⟨rfl, rfl, rfl, rfl⟩ := kn_c hps
  have hbx : bd = bx := by rcases hcase with ⟨h, _⟩ | ⟨_, h⟩; (cases h); exact h.symm
  subst hbx
  have I3 := J.out.below hb
  have C3yx_m := (C3yx.out.below hbu C3yx.out.lt).below hb (C3yx.out.below hbu C3yx.out.lt).lt
  have C4x_m := (C4x.out.below hbu C4x.out.lt).below hb (C4x.out.below hbu C4x.out.lt).lt
  clear hb hbu hps hok hBx hcase J I_2x
  simp only [chA]
  go_upto_region 6 with fail
  have hb4 := (Below.refl u3.heap.size u3).alloc (Nat.le_refl _) (.cells #[.int .i64 0, .int .u64 0, .int .i64 0, .pointer (some ⟨bd, 0, none⟩)] 33)
  have Cn := Blk.new u3 33 #[.int .i64 0, .int .u64 0, .int .i64 0, .pointer (some ⟨bd, 0, none⟩)]
  have I4 := I3.below hb4
  have C3yx_k := C3yx_m.below hb4 C3yx_m.lt
  have C4x_k := C4x_m.below hb4 C4x_m.lt
  generalize hW : World.alloc _ _ = V3 at *
  generalize hg : u3.heap.size = g5 at *
  have I_3 := Lib.hid I4
  have C5 := Lib.hid Cn
  have C3yxy := Lib.hid C3yx_k
  clear C3yx_k C3yx_m C3yx
  have C4xy := Lib.hid C4x_k
  clear C4x_k C4x_m C4x
  clear I3 I4 Cn hb4 hW hg
  go_wp2_with fail
  have hS := sl_new V3 45 #[.int .u64 4, .int .i64 3, .bool true, .bool true, .int .u64 4, .int .i64 9, .bool false, .bool true] 4 2 (knE.flatMap cC) rfl rfl (by decide) _ rfl
  have hb0 := (Below.refl V3.heap.size V3).alloc (Nat.le_refl _) (.cells #[.int .u64 4, .int .i64 3, .bool true, .bool true, .int .u64 4, .int .i64 9, .bool false, .bool true] 45)
  have J0 := I_3.out.below hb0
  have C3yxy_n := C3yxy.out.below hb0 C3yxy.out.lt
  have C4xy_n := C4xy.out.below hb0 C4xy.out.lt
  have C5_n := C5.out.below hb0 C5.out.lt
  generalize hW : World.alloc _ _ = X3 at *
  generalize hgs : V3.heap.size = gs3 at *
  have I_3x := Lib.hid J0
  have hsl := Lib.hid hS
  clear hS hb0 J0 hW hgs I_3
  have C3yxyx := Lib.hid C3yxy_n
  clear C3yxy_n C3yxy
  have C4xyx := Lib.hid C4xy_n
  clear C4xy_n C4xy
  have C5x := Lib.hid C5_n
  clear C5_n C5
  refine (same_any 1000 X3).mono ?_
  rintro e u1 ⟨rfl, hb1, hB1⟩
  go_wp2_with fail
  refine (same_any 1 u1).mono ?_
  rintro e u2 ⟨rfl, hb2, hB2⟩
  have hk1 := hB1.below hb2 hB1.lt
  have hbu := hb1.trans (hb2.mono hb1.size)
  have J := Lib.hid (I_3x.out.below hbu)
  go_wp2_with fail
  have hp := pick_drr (.slice (some ⟨gs3, 0, none⟩) 2 2) _ _ 0 bd 5000 s00 knE _ _ u2 (hsl.out.below hbu) (by decide) (by decide) s00_ok J.out.2.1 (same_fn hk1) (same_fn hB2)
  refine hp.mono ?_
  clear hp hk1 hb1 hB1 hb2 hB2
  rintro e u3 ⟨hb, pick, no, mode, bx, s', rfl, hps, hok, hBx, hcase⟩
  obtain ⟨rfl, rfl, rfl, rfl⟩ := kn_e hps
  have hbx : bd = bx := by rcases hcase with ⟨h, _⟩ | ⟨_, h⟩; (cases h); exact h.symm
  subst hbx
  have I3 := J.out.below hb
  have C3yxyx_m := (C3yxyx.out.below hbu C3yxyx.out.lt).below hb (C3yxyx.out.below hbu C3yxyx.out.lt).lt
  have C4xyx_m := (C4xyx.out.below hbu C4xyx.out.lt).below hb (C4xyx.out.below hbu C4xyx.out.lt).lt
  have C5x_m := (C5x.out.below hbu C5x.out.lt).below hb (C5x.out.below hbu C5x.out.lt).lt
  clear hb hbu hps hok hBx hcase J I_3x
  simp only [chA]
  go_upto_region 7 with fail
  have hb4 := (Below.refl u3.heap.size u3).alloc (Nat.le_refl _) (.cells #[.int .i64 1, .int .u64 4, .int .i64 3, .pointer (some ⟨bd, 0, none⟩)] 33)
  have Cn := Blk.new u3 33 #[.int .i64 1, .int .u64 4, .int .i64 3, .pointer (some ⟨bd, 0, none⟩)]
  have I4 := I3.below hb4
  have C3yxyx_k := C3yxyx_m.below hb4 C3yxyx_m.lt
  have C4xyx_k := C4xyx_m.below hb4 C4xyx_m.lt
  have C5x_k := C5x_m.below hb4 C5x_m.lt
  generalize hW : World.alloc _ _ = V4 at *
  generalize hg : u3.heap.size = g6 at *
  have I_4 := Lib.hid I4
  have C6 := Lib.hid Cn
  have C3yxyxy := Lib.hid C3yxyx_k
  clear C3yxyx_k C3yxyx_m C3yxyx
  have C4xyxy := Lib.hid C4xyx_k
  clear C4xyx_k C4xyx_m C4xyx
  have C5xy := Lib.hid C5x_k
  clear C5x_k C5x_m C5x
  clear I3 I4 Cn hb4 hW hg
  go_wp2_with fail
  have hS := sl_new V4 45 #[.int .u64 4, .int .i64 3, .bool true, .bool true, .int .u64 2, .int .i64 9, .bool false, .bool true] 4 2 (knF.flatMap cC) rfl rfl (by decide) _ rfl
  have hb0 := (Below.refl V4.heap.size V4).alloc (Nat.le_refl _) (.cells #[.int .u64 4, .int .i64 3, .bool true, .bool true, .int .u64 2, .int .i64 9, .bool false, .bool true] 45)
  have J0 := I_4.out.below hb0
  have C3yxyxy_n := C3yxyxy.out.below hb0 C3yxyxy.out.lt
  have C4xyxy_n := C4xyxy.out.below hb0 C4xyxy.out.lt
  have C5xy_n := C5xy.out.below hb0 C5xy.out.lt
  have C6_n := C6.out.below hb0 C6.out.lt
  generalize hW : World.alloc _ _ = X4 at *
  generalize hgs : V4.heap.size = gs4 at *
  have I_4x := Lib.hid J0
  have hsl := Lib.hid hS
  clear hS hb0 J0 hW hgs I_4
  have C3yxyxyx := Lib.hid C3yxyxy_n
  clear C3yxyxy_n C3yxyxy
  have C4xyxyx := Lib.hid C4xyxy_n
  clear C4xyxy_n C4xyxy
  have C5xyx := Lib.hid C5xy_n
  clear C5xy_n C5xy
  have C6x := Lib.hid C6_n
  clear C6_n C6
  refine (same_any 1000 X4).mono ?_
  rintro e u1 ⟨rfl, hb1, hB1⟩
  go_wp2_with fail
  refine (same_any 1 u1).mono ?_
  rintro e u2 ⟨rfl, hb2, hB2⟩
  have hk1 := hB1.below hb2 hB1.lt
  have hbu := hb1.trans (hb2.mono hb1.size)
  have J := Lib.hid (I_4x.out.below hbu)
  go_wp2_with fail
  have hp := pick_drr (.slice (some ⟨gs4, 0, none⟩) 2 2) _ _ 1 bd 5000 s00 knF _ _ u2 (hsl.out.below hbu) (by decide) (by decide) s00_ok J.out.2.1 (same_fn hk1) (same_fn hB2)
  refine hp.mono ?_
  clear hp hk1 hb1 hB1 hb2 hB2
  rintro e u3 ⟨hb, pick, no, mode, bx, s', rfl, hps, hok, hBx, hcase⟩
  obtain ⟨rfl, rfl, rfl, rfl⟩ := kn_f hps
  have hbx : bd = bx := by rcases hcase with ⟨h, _⟩ | ⟨_, h⟩; (cases h); exact h.symm
  subst hbx
  have I3 := J.out.below hb
  have C3yxyxyx_m := (C3yxyxyx.out.below hbu C3yxyxyx.out.lt).below hb (C3yxyxyx.out.below hbu C3yxyxyx.out.lt).lt
  have C4xyxyx_m := (C4xyxyx.out.below hbu C4xyxyx.out.lt).below hb (C4xyxyx.out.below hbu C4xyxyx.out.lt).lt
  have C5xyx_m := (C5xyx.out.below hbu C5xyx.out.lt).below hb (C5xyx.out.below hbu C5xyx.out.lt).lt
  have C6x_m := (C6x.out.below hbu C6x.out.lt).below hb (C6x.out.below hbu C6x.out.lt).lt
  clear hb hbu hps hok hBx hcase J I_4x
  simp only [chA]
  go_upto_region 8 with fail
  have hb4 := (Below.refl u3.heap.size u3).alloc (Nat.le_refl _) (.cells #[.int .i64 2, .int .u64 2, .int .i64 9, .pointer (some ⟨bd, 0, none⟩)] 33)
  have Cn := Blk.new u3 33 #[.int .i64 2, .int .u64 2, .int .i64 9, .pointer (some ⟨bd, 0, none⟩)]
  have I4 := I3.below hb4
  have C3yxyxyx_k := C3yxyxyx_m.below hb4 C3yxyxyx_m.lt
  have C4xyxyx_k := C4xyxyx_m.below hb4 C4xyxyx_m.lt
  have C5xyx_k := C5xyx_m.below hb4 C5xyx_m.lt
  have C6x_k := C6x_m.below hb4 C6x_m.lt
  generalize hW : World.alloc _ _ = V5 at *
  generalize hg : u3.heap.size = g7 at *
  have I_5 := Lib.hid I4
  have C7 := Lib.hid Cn
  have C3yxyxyxy := Lib.hid C3yxyxyx_k
  clear C3yxyxyx_k C3yxyxyx_m C3yxyxyx
  have C4xyxyxy := Lib.hid C4xyxyx_k
  clear C4xyxyx_k C4xyxyx_m C4xyxyx
  have C5xyxy := Lib.hid C5xyx_k
  clear C5xyx_k C5xyx_m C5xyx
  have C6xy := Lib.hid C6x_k
  clear C6x_k C6x_m C6x
  clear I3 I4 Cn hb4 hW hg
  go_wp2_with fail
  have hS := sl_new V5 45 #[.int .u64 8, .int .i64 3, .bool false, .bool false, .int .u64 7, .int .i64 3, .bool false, .bool false] 4 2 (knG.flatMap cC) rfl rfl (by decide) _ rfl
  have hb0 := (Below.refl V5.heap.size V5).alloc (Nat.le_refl _) (.cells #[.int .u64 8, .int .i64 3, .bool false, .bool false, .int .u64 7, .int .i64 3, .bool false, .bool false] 45)
  have J0 := I_5.out.below hb0
  have C3yxyxyxy_n := C3yxyxyxy.out.below hb0 C3yxyxyxy.out.lt
  have C4xyxyxy_n := C4xyxyxy.out.below hb0 C4xyxyxy.out.lt
  have C5xyxy_n := C5xyxy.out.below hb0 C5xyxy.out.lt
  have C6xy_n := C6xy.out.below hb0 C6xy.out.lt
  have C7_n := C7.out.below hb0 C7.out.lt
  generalize hW : World.alloc _ _ = X5 at *
  generalize hgs : V5.heap.size = gs5 at *
  have I_5x := Lib.hid J0
  have hsl := Lib.hid hS
  clear hS hb0 J0 hW hgs I_5
  have C3yxyxyxyx := Lib.hid C3yxyxyxy_n
  clear C3yxyxyxy_n C3yxyxyxy
  have C4xyxyxyx := Lib.hid C4xyxyxy_n
  clear C4xyxyxy_n C4xyxyxy
  have C5xyxyx := Lib.hid C5xyxy_n
  clear C5xyxy_n C5xyxy
  have C6xyx := Lib.hid C6xy_n
  clear C6xy_n C6xy
  have C7x := Lib.hid C7_n
  clear C7_n C7
  refine (same_any 1000 X5).mono ?_
  rintro e u1 ⟨rfl, hb1, hB1⟩
  go_wp2_with fail
  refine (same_any 1 u1).mono ?_
  rintro e u2 ⟨rfl, hb2, hB2⟩
  have hk1 := hB1.below hb2 hB1.lt
  have hbu := hb1.trans (hb2.mono hb1.size)
  have J := Lib.hid (I_5x.out.below hbu)
  go_wp2_with fail
  have hp := pick_drr (.slice (some ⟨gs5, 0, none⟩) 2 2) _ _ 0 bd 5000 s00 knG _ _ u2 (hsl.out.below hbu) (by decide) (by decide) s00_ok J.out.2.1 (same_fn hk1) (same_fn hB2)
  refine hp.mono ?_
  clear hp hk1 hb1 hB1 hb2 hB2
  rintro e u3 ⟨hb, pick, no, mode, bx, s', rfl, hps, hok, hBx, hcase⟩
  obtain ⟨rfl, rfl⟩ := kn_g hps
  have I3 := J.out.below hb
  have C3yxyxyxyx_m := (C3yxyxyxyx.out.below hbu C3yxyxyxyx.out.lt).below hb (C3yxyxyxyx.out.below hbu C3yxyxyxyx.out.lt).lt
  have C4xyxyxyx_m := (C4xyxyxyx.out.below hbu C4xyxyxyx.out.lt).below hb (C4xyxyxyx.out.below hbu C4xyxyxyx.out.lt).lt
  have C5xyxyx_m := (C5xyxyx.out.below hbu C5xyxyx.out.lt).below hb (C5xyxyx.out.below hbu C5xyxyx.out.lt).lt
  have C6xyx_m := (C6xyx.out.below hbu C6xyx.out.lt).below hb (C6xyx.out.below hbu C6xyx.out.lt).lt
  have C7x_m := (C7x.out.below hbu C7x.out.lt).below hb (C7x.out.below hbu C7x.out.lt).lt
  clear hb hbu hps hok hBx hcase J I_5x
  simp only [chA]
  go_upto_region 9 with fail
  have hb4 := (Below.refl u3.heap.size u3).alloc (Nat.le_refl _) (.cells #[.int .i64 3, .int .u64 7, .int .i64 mode, .pointer (some ⟨bx, 0, none⟩)] 33)
  have Cn := Blk.new u3 33 #[.int .i64 3, .int .u64 7, .int .i64 mode, .pointer (some ⟨bx, 0, none⟩)]
  have I4 := I3.below hb4
  have C3yxyxyxyx_k := C3yxyxyxyx_m.below hb4 C3yxyxyxyx_m.lt
  have C4xyxyxyx_k := C4xyxyxyx_m.below hb4 C4xyxyxyx_m.lt
  have C5xyxyx_k := C5xyxyx_m.below hb4 C5xyxyx_m.lt
  have C6xyx_k := C6xyx_m.below hb4 C6xyx_m.lt
  have C7x_k := C7x_m.below hb4 C7x_m.lt
  generalize hW : World.alloc _ _ = V6 at *
  generalize hg : u3.heap.size = g8 at *
  have I_6 := Lib.hid I4
  have C8 := Lib.hid Cn
  have C3yxyxyxyxy := Lib.hid C3yxyxyxyx_k
  clear C3yxyxyxyx_k C3yxyxyxyx_m C3yxyxyxyx
  have C4xyxyxyxy := Lib.hid C4xyxyxyx_k
  clear C4xyxyxyx_k C4xyxyxyx_m C4xyxyxyx
  have C5xyxyxy := Lib.hid C5xyxyx_k
  clear C5xyxyx_k C5xyxyx_m C5xyxyx
  have C6xyxy := Lib.hid C6xyx_k
  clear C6xyx_k C6xyx_m C6xyx
  have C7xy := Lib.hid C7x_k
  clear C7x_k C7x_m C7x
  clear I3 I4 Cn hb4 hW hg
  have A6 : KnAll w bd gl g3 g4 g5 g6 g7 g8 bx mode V6 := ⟨I_6.out, C3yxyxyxyxy.out, C4xyxyxyxy.out, C5xyxyxy.out, C6xyxy.out, C7xy.out, C8.out⟩
  have I8 := Lib.hid A6
  clear A6 I_6 C3yxyxyxyxy C4xyxyxyxy C5xyxyxy C6xyxy C7xy C8
  generalize hV : V6 = W8 at *
  clear hV
  go_cut [9] from 53 to 58 (fun v wx => ∃ g9 : Nat, v = .pointer (some ⟨g9, 0, none⟩) ∧ KnAll w bd gl g3 g4 g5 g6 g7 g8 bx mode wx ∧ Blk wx g9 33 (chA 0 0 0 none))
  case first =>
    refine wp_region_lin (by kernel_rfl) (wpLin_split 4 5 (by decide) ?_ (wpLin_split 3 5 (by decide) ?_ (wpLin_split 2 5 (by decide) ?_ ?_)))
    · refine wpLin_ord1 4 5 [0, 1, 2, 3, 4, 5, 6] [2, 3, 4, 5, 6] (fun _ => True) (by kernel_rfl) trivial (fun _ => ?_)
      generalize hV0 : World.drew _ = V0
      have B0 : Below W8.heap.size W8 V0 := by rw [← hV0]; exact (Below.refl _ _).drew
      clear hV0
      (refine mixO_read (by rfl) (by rfl) (by rfl) (by rfl) (by rfl) (by simp) ?_; apply Exists.intro; apply Exists.intro; refine ⟨fun w' hw' K hK => ?_, ?_, ?_⟩; (obtain ⟨X, rfl⟩ := hw'; go_wp2_with fail; first | exact ⟨rfl, rfl⟩ | exact rfl); rfl)
      (refine mixO_read (by rfl) (by rfl) (by rfl) (by rfl) (by rfl) (by simp) ?_; apply Exists.intro; apply Exists.intro; refine ⟨fun w' hw' K hK => ?_, ?_, ?_⟩; (obtain ⟨X, rfl⟩ := hw'; go_wp2_with fail; first | exact ⟨rfl, rfl⟩ | exact rfl); rfl)
      (refine mixO_act (by rfl) (by rfl) (by rfl) (fun K hK => ?_))
      go_wp2_with fail
      refine (same_any 1000 V0).mono ?_
      rintro e V1 ⟨rfl, hb, hk1⟩
      go_wp2_with fail
      refine ⟨.mk trivial, ?_⟩
      have B1 := B0.trans (hb.mono B0.size)
      clear hb
      (refine mixO_act (by rfl) (by rfl) (by rfl) (fun K hK => ?_))
      go_wp2_with fail
      refine (same_any 1 V1).mono ?_
      rintro e V2 ⟨rfl, hb, hw2⟩
      go_wp2_with fail
      refine ⟨.mk trivial, ?_⟩
      have B2 := B1.trans (hb.mono B1.size)
      have hk2 := hk1.below hb hk1.lt
      clear hb
      (refine mixO_act (by rfl) (by rfl) (by rfl) (fun K hK => ?_))
      go_wp2_with fail
      have hsl := ((I8.out.below B2).1.2.2)
      obtain ⟨A, cap, he, hsl1⟩ := hsl.take 1 (by decide)
      cases he
      have hp := pick_none (.slice (some ⟨gl, 0, none⟩) 1 2) _ _ 0 none wkL1 V2 hsl1 (by decide) (fn_is (same_fn hk2)) (fn_is (same_fn hw2)) (next_nil _ _ _ (fn_is (same_fn hk2)) (fn_is (same_fn hw2))) kn_h.1 kn_h.2.1 kn_h.2.2
      refine hp.mono ?_
      clear hp hsl hsl1
      rintro e V3 ⟨hb, rfl⟩
      simp only [chA]
      go_wp2_with fail
      refine ⟨.mk trivial, ?_⟩
      have B3 := B2.trans (hb.mono B2.size)
      have hk3 := hk2.below hb hk2.lt
      have hw3 := hw2.below hb hw2.lt
      clear hb
      (refine mixO_act (by rfl) (by rfl) (by rfl) (fun K hK => ?_))
      go_wp2_with fail
      refine ⟨.mk trivial, ?_⟩
      have hb := (Below.refl V3.heap.size V3).alloc (Nat.le_refl _) (.cells (chA 0 0 0 none) 33)
      have hZ4 := Blk.new V3 33 (chA 0 0 0 none)
      simp only [chA] at hb hZ4
      have hz : W8.heap.size ≤ V3.heap.size := B3.size
      generalize World.alloc _ _ = V4 at *
      have B4 := B3.trans (hb.mono B3.size)
      have hk4 := hk3.below hb hk3.lt
      have hw4 := hw3.below hb hw3.lt
      clear hb
      (refine mixO_last (by rfl) (by rfl) (by rfl) (by kernel_rfl) (fun K hK => ?_))
      refine wp_store_row 33 (.tmp 9) (.tmp 57) rfl _ (chA 0 0 0 none) rfl rfl 33 _ hZ4 (by kernel_rfl) rfl (by simp [chA, Value.oneCell']) ?_
      (simp [Act.put])
      refine hK _ _ ?_
      go_wp2_with fail
      go_meet
      exact ⟨_, rfl, I8.out.below (Below_setRow B4 hz _), hZ4.setRow _⟩
    · refine wpLin_ord2 5 4 3 5 [0, 1, 2, 3, 5, 4, 6] [2, 3, 4, 5, 6] (fun _ => True) (by kernel_rfl) trivial (fun _ => ?_)
      generalize hV0 : World.drew _ = V0
      have B0 : Below W8.heap.size W8 V0 := by rw [← hV0]; exact (Below.refl _ _).drew
      clear hV0
      (refine mixO_read (by rfl) (by rfl) (by rfl) (by rfl) (by rfl) (by simp) ?_; apply Exists.intro; apply Exists.intro; refine ⟨fun w' hw' K hK => ?_, ?_, ?_⟩; (obtain ⟨X, rfl⟩ := hw'; go_wp2_with fail; first | exact ⟨rfl, rfl⟩ | exact rfl); rfl)
      (refine mixO_read (by rfl) (by rfl) (by rfl) (by rfl) (by rfl) (by simp) ?_; apply Exists.intro; apply Exists.intro; refine ⟨fun w' hw' K hK => ?_, ?_, ?_⟩; (obtain ⟨X, rfl⟩ := hw'; go_wp2_with fail; first | exact ⟨rfl, rfl⟩ | exact rfl); rfl)
      (refine mixO_act (by rfl) (by rfl) (by rfl) (fun K hK => ?_))
      go_wp2_with fail
      refine (same_any 1000 V0).mono ?_
      rintro e V1 ⟨rfl, hb, hk1⟩
      go_wp2_with fail
      refine ⟨.mk trivial, ?_⟩
      have B1 := B0.trans (hb.mono B0.size)
      clear hb
      (refine mixO_act (by rfl) (by rfl) (by rfl) (fun K hK => ?_))
      go_wp2_with fail
      refine (same_any 1 V1).mono ?_
      rintro e V2 ⟨rfl, hb, hw2⟩
      go_wp2_with fail
      refine ⟨.mk trivial, ?_⟩
      have B2 := B1.trans (hb.mono B1.size)
      have hk2 := hk1.below hb hk1.lt
      clear hb
      (refine mixO_act (by rfl) (by rfl) (by rfl) (fun K hK => ?_))
      go_wp2_with fail
      refine ⟨.mk trivial, ?_⟩
      have hb := (Below.refl V2.heap.size V2).alloc (Nat.le_refl _) (.cells (chA 0 0 0 none) 33)
      have hZ3 := Blk.new V2 33 (chA 0 0 0 none)
      simp only [chA] at hb hZ3
      have hz : W8.heap.size ≤ V2.heap.size := B2.size
      generalize World.alloc _ _ = V3 at *
      have B3 := B2.trans (hb.mono B2.size)
      have hk3 := hk2.below hb hk2.lt
      have hw3 := hw2.below hb hw2.lt
      clear hb
      (refine mixO_act (by rfl) (by rfl) (by rfl) (fun K hK => ?_))
      go_wp2_with fail
      have hsl := ((I8.out.below B3).1.2.2)
      obtain ⟨A, cap, he, hsl1⟩ := hsl.take 1 (by decide)
      cases he
      have hp := pick_none (.slice (some ⟨gl, 0, none⟩) 1 2) _ _ 0 none wkL1 V3 hsl1 (by decide) (fn_is (same_fn hk3)) (fn_is (same_fn hw3)) (next_nil _ _ _ (fn_is (same_fn hk3)) (fn_is (same_fn hw3))) kn_h.1 kn_h.2.1 kn_h.2.2
      refine hp.mono ?_
      clear hp hsl hsl1
      rintro e V4 ⟨hb, rfl⟩
      simp only [chA]
      go_wp2_with fail
      refine ⟨.mk trivial, ?_⟩
      have B4 := B3.trans (hb.mono B3.size)
      have hk4 := hk3.below hb hk3.lt
      have hw4 := hw3.below hb hw3.lt
      have hZ4 := hZ3.below hb hZ3.lt
      clear hb
      (refine mixO_last (by rfl) (by rfl) (by rfl) (by kernel_rfl) (fun K hK => ?_))
      refine wp_store_row 33 (.tmp 9) (.tmp 57) rfl _ (chA 0 0 0 none) rfl rfl 33 _ hZ4 (by kernel_rfl) rfl (by simp [chA, Value.oneCell']) ?_
      (simp [Act.put])
      refine hK _ _ ?_
      go_wp2_with fail
      go_meet
      exact ⟨_, rfl, I8.out.below (Below_setRow B4 hz _), hZ4.setRow _⟩
    · refine wpLin_ord3 5 4 5 3 2 5 [0, 1, 2, 5, 3, 4, 6] [2, 3, 4, 5, 6] (fun _ => True) (by kernel_rfl) trivial (fun _ => ?_)
      generalize hV0 : World.drew _ = V0
      have B0 : Below W8.heap.size W8 V0 := by rw [← hV0]; exact (Below.refl _ _).drew
      clear hV0
      (refine mixO_read (by rfl) (by rfl) (by rfl) (by rfl) (by rfl) (by simp) ?_; apply Exists.intro; apply Exists.intro; refine ⟨fun w' hw' K hK => ?_, ?_, ?_⟩; (obtain ⟨X, rfl⟩ := hw'; go_wp2_with fail; first | exact ⟨rfl, rfl⟩ | exact rfl); rfl)
      (refine mixO_read (by rfl) (by rfl) (by rfl) (by rfl) (by rfl) (by simp) ?_; apply Exists.intro; apply Exists.intro; refine ⟨fun w' hw' K hK => ?_, ?_, ?_⟩; (obtain ⟨X, rfl⟩ := hw'; go_wp2_with fail; first | exact ⟨rfl, rfl⟩ | exact rfl); rfl)
      (refine mixO_act (by rfl) (by rfl) (by rfl) (fun K hK => ?_))
      go_wp2_with fail
      refine (same_any 1000 V0).mono ?_
      rintro e V1 ⟨rfl, hb, hk1⟩
      go_wp2_with fail
      refine ⟨.mk trivial, ?_⟩
      have B1 := B0.trans (hb.mono B0.size)
      clear hb
      (refine mixO_act (by rfl) (by rfl) (by rfl) (fun K hK => ?_))
      go_wp2_with fail
      refine ⟨.mk trivial, ?_⟩
      have hb := (Below.refl V1.heap.size V1).alloc (Nat.le_refl _) (.cells (chA 0 0 0 none) 33)
      have hZ2 := Blk.new V1 33 (chA 0 0 0 none)
      simp only [chA] at hb hZ2
      have hz : W8.heap.size ≤ V1.heap.size := B1.size
      generalize World.alloc _ _ = V2 at *
      have B2 := B1.trans (hb.mono B1.size)
      have hk2 := hk1.below hb hk1.lt
      clear hb
      (refine mixO_act (by rfl) (by rfl) (by rfl) (fun K hK => ?_))
      go_wp2_with fail
      refine (same_any 1 V2).mono ?_
      rintro e V3 ⟨rfl, hb, hw3⟩
      go_wp2_with fail
      refine ⟨.mk trivial, ?_⟩
      have B3 := B2.trans (hb.mono B2.size)
      have hk3 := hk2.below hb hk2.lt
      have hZ3 := hZ2.below hb hZ2.lt
      clear hb
      (refine mixO_act (by rfl) (by rfl) (by rfl) (fun K hK => ?_))
      go_wp2_with fail
      have hsl := ((I8.out.below B3).1.2.2)
      obtain ⟨A, cap, he, hsl1⟩ := hsl.take 1 (by decide)
      cases he
      have hp := pick_none (.slice (some ⟨gl, 0, none⟩) 1 2) _ _ 0 none wkL1 V3 hsl1 (by decide) (fn_is (same_fn hk3)) (fn_is (same_fn hw3)) (next_nil _ _ _ (fn_is (same_fn hk3)) (fn_is (same_fn hw3))) kn_h.1 kn_h.2.1 kn_h.2.2
      refine hp.mono ?_
      clear hp hsl hsl1
      rintro e V4 ⟨hb, rfl⟩
      simp only [chA]
      go_wp2_with fail
      refine ⟨.mk trivial, ?_⟩
      have B4 := B3.trans (hb.mono B3.size)
      have hk4 := hk3.below hb hk3.lt
      have hZ4 := hZ3.below hb hZ3.lt
      have hw4 := hw3.below hb hw3.lt
      clear hb
      (refine mixO_last (by rfl) (by rfl) (by rfl) (by kernel_rfl) (fun K hK => ?_))
      refine wp_store_row 33 (.tmp 9) (.tmp 57) rfl _ (chA 0 0 0 none) rfl rfl 33 _ hZ4 (by kernel_rfl) rfl (by simp [chA, Value.oneCell']) ?_
      (simp [Act.put])
      refine hK _ _ ?_
      go_wp2_with fail
      go_meet
      exact ⟨_, rfl, I8.out.below (Below_setRow B4 hz _), hZ4.setRow _⟩
    · refine wpLin_ord3 5 4 5 3 5 2 [0, 1, 5, 2, 3, 4, 6] [2, 3, 4, 5, 6] (fun _ => True) (by kernel_rfl) trivial (fun _ => ?_)
      generalize hV0 : World.drew _ = V0
      have B0 : Below W8.heap.size W8 V0 := by rw [← hV0]; exact (Below.refl _ _).drew
      clear hV0
      (refine mixO_read (by rfl) (by rfl) (by rfl) (by rfl) (by rfl) (by simp) ?_; apply Exists.intro; apply Exists.intro; refine ⟨fun w' hw' K hK => ?_, ?_, ?_⟩; (obtain ⟨X, rfl⟩ := hw'; go_wp2_with fail; first | exact ⟨rfl, rfl⟩ | exact rfl); rfl)
      (refine mixO_read (by rfl) (by rfl) (by rfl) (by rfl) (by rfl) (by simp) ?_; apply Exists.intro; apply Exists.intro; refine ⟨fun w' hw' K hK => ?_, ?_, ?_⟩; (obtain ⟨X, rfl⟩ := hw'; go_wp2_with fail; first | exact ⟨rfl, rfl⟩ | exact rfl); rfl)
      (refine mixO_act (by rfl) (by rfl) (by rfl) (fun K hK => ?_))
      go_wp2_with fail
      refine ⟨.mk trivial, ?_⟩
      have hb := (Below.refl V0.heap.size V0).alloc (Nat.le_refl _) (.cells (chA 0 0 0 none) 33)
      have hZ1 := Blk.new V0 33 (chA 0 0 0 none)
      simp only [chA] at hb hZ1
      have hz : W8.heap.size ≤ V0.heap.size := B0.size
      generalize World.alloc _ _ = V1 at *
      have B1 := B0.trans (hb.mono B0.size)
      clear hb
      (refine mixO_act (by rfl) (by rfl) (by rfl) (fun K hK => ?_))
      go_wp2_with fail
      refine (same_any 1000 V1).mono ?_
      rintro e V2 ⟨rfl, hb, hk2⟩
      go_wp2_with fail
      refine ⟨.mk trivial, ?_⟩
      have B2 := B1.trans (hb.mono B1.size)
      have hZ2 := hZ1.below hb hZ1.lt
      clear hb
      (refine mixO_act (by rfl) (by rfl) (by rfl) (fun K hK => ?_))
      go_wp2_with fail
      refine (same_any 1 V2).mono ?_
      rintro e V3 ⟨rfl, hb, hw3⟩
      go_wp2_with fail
      refine ⟨.mk trivial, ?_⟩
      have B3 := B2.trans (hb.mono B2.size)
      have hZ3 := hZ2.below hb hZ2.lt
      have hk3 := hk2.below hb hk2.lt
      clear hb
      (refine mixO_act (by rfl) (by rfl) (by rfl) (fun K hK => ?_))
      go_wp2_with fail
      have hsl := ((I8.out.below B3).1.2.2)
      obtain ⟨A, cap, he, hsl1⟩ := hsl.take 1 (by decide)
      cases he
      have hp := pick_none (.slice (some ⟨gl, 0, none⟩) 1 2) _ _ 0 none wkL1 V3 hsl1 (by decide) (fn_is (same_fn hk3)) (fn_is (same_fn hw3)) (next_nil _ _ _ (fn_is (same_fn hk3)) (fn_is (same_fn hw3))) kn_h.1 kn_h.2.1 kn_h.2.2
      refine hp.mono ?_
      clear hp hsl hsl1
      rintro e V4 ⟨hb, rfl⟩
      simp only [chA]
      go_wp2_with fail
      refine ⟨.mk trivial, ?_⟩
      have B4 := B3.trans (hb.mono B3.size)
      have hZ4 := hZ3.below hb hZ3.lt
      have hk4 := hk3.below hb hk3.lt
      have hw4 := hw3.below hb hw3.lt
      clear hb
      (refine mixO_last (by rfl) (by rfl) (by rfl) (by kernel_rfl) (fun K hK => ?_))
      refine wp_store_row 33 (.tmp 9) (.tmp 57) rfl _ (chA 0 0 0 none) rfl rfl 33 _ hZ4 (by kernel_rfl) rfl (by simp [chA, Value.oneCell']) ?_
      (simp [Act.put])
      refine hK _ _ ?_
      go_wp2_with fail
      go_meet
      exact ⟨_, rfl, I8.out.below (Below_setRow B4 hz _), hZ4.setRow _⟩
  case rest =>
    obtain ⟨g9, rfl, h4, hC9⟩ := hcut
    have I9 := Lib.hid (And.intro h4 hC9)
    clear h4 hC9 I8
    generalize hV : wc = W9 at *
    clear hV
    go_upto_region 10 with fail
    go_cut [10] from 58 to 63 (fun v wx => ∃ g10 : Nat, v = .pointer (some ⟨g10, 0, none⟩) ∧ KnAll w bd gl g3 g4 g5 g6 g7 g8 bx mode wx ∧ Blk wx g9 33 (chA 0 0 0 none) ∧ Blk wx g10 33 (chA 0 0 0 (some ⟨bd, 0, none⟩)))
    case first =>
      refine wp_region_lin (by kernel_rfl) (wpLin_split 4 5 (by decide) ?_ (wpLin_split 3 5 (by decide) ?_ ?_))
      · refine wpLin_ord1 4 5 [0, 1, 2, 3, 4, 5, 6] [3, 4, 5, 6] (fun _ => True) (by kernel_rfl) trivial (fun _ => ?_)
        generalize hV0 : World.drew _ = V0
        have B0 : Below W9.heap.size W9 V0 := by rw [← hV0]; exact (Below.refl _ _).drew
        clear hV0
        (refine mixO_read (by rfl) (by rfl) (by rfl) (by rfl) (by rfl) (by simp) ?_; apply Exists.intro; apply Exists.intro; refine ⟨fun w' hw' K hK => ?_, ?_, ?_⟩; (obtain ⟨X, rfl⟩ := hw'; go_wp2_with fail; first | exact ⟨rfl, rfl⟩ | exact rfl); rfl)
        (refine mixO_read (by rfl) (by rfl) (by rfl) (by rfl) (by rfl) (by simp) ?_; apply Exists.intro; apply Exists.intro; refine ⟨fun w' hw' K hK => ?_, ?_, ?_⟩; (obtain ⟨X, rfl⟩ := hw'; go_wp2_with fail; first | exact ⟨rfl, rfl⟩ | exact rfl); rfl)
        (refine mixO_read (by rfl) (by rfl) (by rfl) (by rfl) (by rfl) (by simp) ?_; apply Exists.intro; apply Exists.intro; refine ⟨fun w' hw' K hK => ?_, ?_, ?_⟩; (obtain ⟨X, rfl⟩ := hw'; go_wp2_with fail; first | exact ⟨rfl, rfl⟩ | exact rfl); rfl)
        (refine mixO_act (by rfl) (by rfl) (by rfl) (fun K hK => ?_))
        go_wp2_with fail
        refine (same_any 1 V0).mono ?_
        rintro e V1 ⟨rfl, hb, hw1⟩
        go_wp2_with fail
        refine ⟨.mk trivial, ?_⟩
        have B1 := B0.trans (hb.mono B0.size)
        clear hb
        (refine mixO_act (by rfl) (by rfl) (by rfl) (fun K hK => ?_))
        go_wp2_with fail
        have hsl := ((I9.out.1.below B1).1.2.2)
        obtain ⟨A, cap, he, hsl1⟩ := hsl.take 1 (by decide)
        cases he
        have hp := pick_none (.slice (some ⟨gl, 0, none⟩) 1 2) _ _ 0 (some ⟨bd, 0, none⟩) wkL1 V1 hsl1 (by decide) (.inl rfl) (fn_is (same_fn hw1)) (next_nilcost _ _ _ (fn_is (same_fn hw1))) kn_h.1 kn_h.2.1 kn_h.2.2
        refine hp.mono ?_
        clear hp hsl hsl1
        rintro e V2 ⟨hb, rfl⟩
        simp only [chA]
        go_wp2_with fail
        refine ⟨.mk trivial, ?_⟩
        have B2 := B1.trans (hb.mono B1.size)
        have hw2 := hw1.below hb hw1.lt
        clear hb
        (refine mixO_act (by rfl) (by rfl) (by rfl) (fun K hK => ?_))
        go_wp2_with fail
        refine ⟨.mk trivial, ?_⟩
        have hb := (Below.refl V2.heap.size V2).alloc (Nat.le_refl _) (.cells (chA 0 0 0 none) 33)
        have hZ3 := Blk.new V2 33 (chA 0 0 0 none)
        simp only [chA] at hb hZ3
        have hz : W9.heap.size ≤ V2.heap.size := B2.size
        generalize World.alloc _ _ = V3 at *
        have B3 := B2.trans (hb.mono B2.size)
        have hw3 := hw2.below hb hw2.lt
        clear hb
        (refine mixO_last (by rfl) (by rfl) (by rfl) (by kernel_rfl) (fun K hK => ?_))
        refine wp_store_row 33 (.tmp 10) (.tmp 62) rfl _ (chA 0 0 0 (some ⟨bd, 0, none⟩)) rfl rfl 33 _ hZ3 (by kernel_rfl) rfl (by simp [chA, Value.oneCell']) ?_
        (simp [Act.put])
        refine hK _ _ ?_
        go_wp2_with fail
        go_meet
        have hb9 := Below_setRow B3 hz (chA 0 0 0 (some ⟨bd, 0, none⟩))
        exact ⟨_, rfl, I9.out.1.below hb9, I9.out.2.below hb9 I9.out.2.lt, hZ3.setRow _⟩
      · refine wpLin_ord2 5 4 3 5 [0, 1, 2, 3, 5, 4, 6] [3, 4, 5, 6] (fun _ => True) (by kernel_rfl) trivial (fun _ => ?_)
        generalize hV0 : World.drew _ = V0
        have B0 : Below W9.heap.size W9 V0 := by rw [← hV0]; exact (Below.refl _ _).drew
        clear hV0
        (refine mixO_read (by rfl) (by rfl) (by rfl) (by rfl) (by rfl) (by simp) ?_; apply Exists.intro; apply Exists.intro; refine ⟨fun w' hw' K hK => ?_, ?_, ?_⟩; (obtain ⟨X, rfl⟩ := hw'; go_wp2_with fail; first | exact ⟨rfl, rfl⟩ | exact rfl); rfl)
        (refine mixO_read (by rfl) (by rfl) (by rfl) (by rfl) (by rfl) (by simp) ?_; apply Exists.intro; apply Exists.intro; refine ⟨fun w' hw' K hK => ?_, ?_, ?_⟩; (obtain ⟨X, rfl⟩ := hw'; go_wp2_with fail; first | exact ⟨rfl, rfl⟩ | exact rfl); rfl)
        (refine mixO_read (by rfl) (by rfl) (by rfl) (by rfl) (by rfl) (by simp) ?_; apply Exists.intro; apply Exists.intro; refine ⟨fun w' hw' K hK => ?_, ?_, ?_⟩; (obtain ⟨X, rfl⟩ := hw'; go_wp2_with fail; first | exact ⟨rfl, rfl⟩ | exact rfl); rfl)
        (refine mixO_act (by rfl) (by rfl) (by rfl) (fun K hK => ?_))
        go_wp2_with fail
        refine (same_any 1 V0).mono ?_
        rintro e V1 ⟨rfl, hb, hw1⟩
        go_wp2_with fail
        refine ⟨.mk trivial, ?_⟩
        have B1 := B0.trans (hb.mono B0.size)
        clear hb
        (refine mixO_act (by rfl) (by rfl) (by rfl) (fun K hK => ?_))
        go_wp2_with fail
        refine ⟨.mk trivial, ?_⟩
        have hb := (Below.refl V1.heap.size V1).alloc (Nat.le_refl _) (.cells (chA 0 0 0 none) 33)
        have hZ2 := Blk.new V1 33 (chA 0 0 0 none)
        simp only [chA] at hb hZ2
        have hz : W9.heap.size ≤ V1.heap.size := B1.size
        generalize World.alloc _ _ = V2 at *
        have B2 := B1.trans (hb.mono B1.size)
        have hw2 := hw1.below hb hw1.lt
        clear hb
        (refine mixO_act (by rfl) (by rfl) (by rfl) (fun K hK => ?_))
        go_wp2_with fail
        have hsl := ((I9.out.1.below B2).1.2.2)
        obtain ⟨A, cap, he, hsl1⟩ := hsl.take 1 (by decide)
        cases he
        have hp := pick_none (.slice (some ⟨gl, 0, none⟩) 1 2) _ _ 0 (some ⟨bd, 0, none⟩) wkL1 V2 hsl1 (by decide) (.inl rfl) (fn_is (same_fn hw2)) (next_nilcost _ _ _ (fn_is (same_fn hw2))) kn_h.1 kn_h.2.1 kn_h.2.2
        refine hp.mono ?_
        clear hp hsl hsl1
        rintro e V3 ⟨hb, rfl⟩
        simp only [chA]
        go_wp2_with fail
        refine ⟨.mk trivial, ?_⟩
        have B3 := B2.trans (hb.mono B2.size)
        have hw3 := hw2.below hb hw2.lt
        have hZ3 := hZ2.below hb hZ2.lt
        clear hb
        (refine mixO_last (by rfl) (by rfl) (by rfl) (by kernel_rfl) (fun K hK => ?_))
        refine wp_store_row 33 (.tmp 10) (.tmp 62) rfl _ (chA 0 0 0 (some ⟨bd, 0, none⟩)) rfl rfl 33 _ hZ3 (by kernel_rfl) rfl (by simp [chA, Value.oneCell']) ?_
        (simp [Act.put])
        refine hK _ _ ?_
        go_wp2_with fail
        go_meet
        have hb9 := Below_setRow B3 hz (chA 0 0 0 (some ⟨bd, 0, none⟩))
        exact ⟨_, rfl, I9.out.1.below hb9, I9.out.2.below hb9 I9.out.2.lt, hZ3.setRow _⟩
      · refine wpLin_ord2 5 4 5 3 [0, 1, 2, 5, 3, 4, 6] [3, 4, 5, 6] (fun _ => True) (by kernel_rfl) trivial (fun _ => ?_)
        generalize hV0 : World.drew _ = V0
        have B0 : Below W9.heap.size W9 V0 := by rw [← hV0]; exact (Below.refl _ _).drew
        clear hV0
        (refine mixO_read (by rfl) (by rfl) (by rfl) (by rfl) (by rfl) (by simp) ?_; apply Exists.intro; apply Exists.intro; refine ⟨fun w' hw' K hK => ?_, ?_, ?_⟩; (obtain ⟨X, rfl⟩ := hw'; go_wp2_with fail; first | exact ⟨rfl, rfl⟩ | exact rfl); rfl)
        (refine mixO_read (by rfl) (by rfl) (by rfl) (by rfl) (by rfl) (by simp) ?_; apply Exists.intro; apply Exists.intro; refine ⟨fun w' hw' K hK => ?_, ?_, ?_⟩; (obtain ⟨X, rfl⟩ := hw'; go_wp2_with fail; first | exact ⟨rfl, rfl⟩ | exact rfl); rfl)
        (refine mixO_read (by rfl) (by rfl) (by rfl) (by rfl) (by rfl) (by simp) ?_; apply Exists.intro; apply Exists.intro; refine ⟨fun w' hw' K hK => ?_, ?_, ?_⟩; (obtain ⟨X, rfl⟩ := hw'; go_wp2_with fail; first | exact ⟨rfl, rfl⟩ | exact rfl); rfl)
        (refine mixO_act (by rfl) (by rfl) (by rfl) (fun K hK => ?_))
        go_wp2_with fail
        refine ⟨.mk trivial, ?_⟩
        have hb := (Below.refl V0.heap.size V0).alloc (Nat.le_refl _) (.cells (chA 0 0 0 none) 33)
        have hZ1 := Blk.new V0 33 (chA 0 0 0 none)
        simp only [chA] at hb hZ1
        have hz : W9.heap.size ≤ V0.heap.size := B0.size
        generalize World.alloc _ _ = V1 at *
        have B1 := B0.trans (hb.mono B0.size)
        clear hb
        (refine mixO_act (by rfl) (by rfl) (by rfl) (fun K hK => ?_))
        go_wp2_with fail
        refine (same_any 1 V1).mono ?_
        rintro e V2 ⟨rfl, hb, hw2⟩
        go_wp2_with fail
        refine ⟨.mk trivial, ?_⟩
        have B2 := B1.trans (hb.mono B1.size)
        have hZ2 := hZ1.below hb hZ1.lt
        clear hb
        (refine mixO_act (by rfl) (by rfl) (by rfl) (fun K hK => ?_))
        go_wp2_with fail
        have hsl := ((I9.out.1.below B2).1.2.2)
        obtain ⟨A, cap, he, hsl1⟩ := hsl.take 1 (by decide)
        cases he
        have hp := pick_none (.slice (some ⟨gl, 0, none⟩) 1 2) _ _ 0 (some ⟨bd, 0, none⟩) wkL1 V2 hsl1 (by decide) (.inl rfl) (fn_is (same_fn hw2)) (next_nilcost _ _ _ (fn_is (same_fn hw2))) kn_h.1 kn_h.2.1 kn_h.2.2
        refine hp.mono ?_
        clear hp hsl hsl1
        rintro e V3 ⟨hb, rfl⟩
        simp only [chA]
        go_wp2_with fail
        refine ⟨.mk trivial, ?_⟩
        have B3 := B2.trans (hb.mono B2.size)
        have hZ3 := hZ2.below hb hZ2.lt
        have hw3 := hw2.below hb hw2.lt
        clear hb
        (refine mixO_last (by rfl) (by rfl) (by rfl) (by kernel_rfl) (fun K hK => ?_))
        refine wp_store_row 33 (.tmp 10) (.tmp 62) rfl _ (chA 0 0 0 (some ⟨bd, 0, none⟩)) rfl rfl 33 _ hZ3 (by kernel_rfl) rfl (by simp [chA, Value.oneCell']) ?_
        (simp [Act.put])
        refine hK _ _ ?_
        go_wp2_with fail
        go_meet
        have hb9 := Below_setRow B3 hz (chA 0 0 0 (some ⟨bd, 0, none⟩))
        exact ⟨_, rfl, I9.out.1.below hb9, I9.out.2.below hb9 I9.out.2.lt, hZ3.setRow _⟩
    case rest =>
      obtain ⟨g10, rfl, h4, hC9, hC10⟩ := hcut
      have ka0 := h4.2.1.cell 0
      have ka1 := h4.2.1.cell 1
      have ka3 := h4.2.1.cell 3
      have kb0 := h4.2.2.1.cell 0
      have kb1 := h4.2.2.1.cell 1
      have kb2 := h4.2.2.1.cell 2
      have kb3 := h4.2.2.1.cell 3
      have kc0 := h4.2.2.2.1.cell 0
      have kd0 := h4.2.2.2.2.1.cell 0
      have kd2 := h4.2.2.2.2.1.cell 2
      have kf0 := h4.2.2.2.2.2.1.cell 0
      have kf1 := h4.2.2.2.2.2.1.cell 1
      have kf2 := h4.2.2.2.2.2.1.cell 2
      have kg0 := h4.2.2.2.2.2.2.cell 0
      have kg1 := h4.2.2.2.2.2.2.cell 1
      have kh0 := hC9.cell 0
      have kh3 := hC9.cell 3
      have ki0 := hC10.cell 0
      have ki3 := hC10.cell 3
      simp only [chA, List.getElem?_toArray, List.getElem?_cons_zero, List.getElem?_cons_succ] at ka0 ka1 ka3 kb0 kb1 kb2 kb3 kc0 kd0 kd2 kf0 kf1 kf2 kg0 kg1 kh0 kh3 ki0 ki3
      have H4 := Lib.hid h4
      clear h4 hC9 hC10
      have hps := ptr_same
      go_wp2_with fail
      refine (works_yes _).mono ?_
      rintro e wz ⟨rfl, hb⟩
      have HB := Lib.hid hb
      clear hb ka0 ka1 ka3 kb0 kb1 kb2 kb3 kc0 kd0 kd2 kf0 kf1 kf2 kg0 kg1 kh0 kh3 ki0 ki3
      go_wp2_with fail
      go_ret
      exact ⟨rfl, H4.out.1.1.trans (HB.out.mono H4.out.1.1.size)⟩

theorem PickKnown_walk (W : World) : Calls Try.prog 5 #[] W fun e w' => e = .returned (.bool true) ∧ Below W.heap.size W w' := known_yes W

end Go.Proofs.Ytnhbcpopnhdhiaa
