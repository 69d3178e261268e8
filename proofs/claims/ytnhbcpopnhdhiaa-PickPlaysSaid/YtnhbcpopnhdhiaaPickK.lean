/- The chapter's rows: they stand. -/
import Derived.Test.YtnhbcpopnhdhiaaPickJ
import Derived.Test.YtnhbcpopnhdhiaaReg2
import Derived.Laws.EntriesVeiled
set_option linter.unusedSimpArgs false
set_option linter.unusedVariables false
namespace Go.Proofs.Ytnhbcpopnhdhiaa
open Go.RowKit Go.Shelf
attribute [local irreducible] wpMix

theorem sl_new (W : World) (t : TypeId) (cs : Array Value) (size n : Nat) (xs : List Value) (hx : xs = cs.toList) (hn : xs.length = n * size) (hm : n ≤ maxLen) (g : Nat) (hg : W.heap.size = g) : SlAt (W.alloc (.cells cs t)) size (.slice (some ⟨g, 0, none⟩) n n) n xs := by
  subst hx
  subst hg
  refine ⟨hn, _, n, rfl, Nat.le_refl _, hm, .inr ⟨W.heap.size, 0, rfl, by simp, fun j u hj => ?_⟩⟩
  rw [Nat.zero_add, (Blk.new W t cs).cell, ← Array.getElem?_toList]; exact hj

def s00 : St := (fun _ => 0, 1, false)
theorem s00_ok : Sok s00 := by
  refine ⟨fun _ => ?_, ?_, ?_⟩ <;> simp [s00]
def wkL : List Cv := [(5, 2, false, false), (3, 7, false, true), (9, 1, true, false)]
def wkL1 : List Cv := [(5, 2, false, false)]

section
variable {q : Int} {cost weight : Nat → Int} {s s' : St} {p n m : Int}
theorem wk_a (h : PickS q cost weight wkL 0 s p n m s') : p = 1 ∧ n = 9 ∧ m = 1 ∧ s' = s := by
  have hv : voiceMay wkL 0 = true := by decide +kernel
  have hc : voiceOf wkL = some (9, 1, true, false) := by decide +kernel
  rcases h with ⟨_, h1, ⟨c, h2, h3, h4⟩, h5⟩ | ⟨h, _⟩ | ⟨h, _⟩ | ⟨h, _⟩
  · rw [hc] at h2; cases h2; exact ⟨h1, h3, h4, h5⟩
  all_goals (rw [hv] at h; cases h)
theorem wk_b (h : PickS q cost weight wkL 1 s p n m s') : p = 2 ∧ n = 3 ∧ m = 7 ∧ s' = s := by
  have hv : voiceMay wkL 1 = false := by decide +kernel
  have hc : oldOf wkL = some (3, 7, false, true) := by decide +kernel
  rcases h with ⟨h, _⟩ | ⟨_, h1, ⟨c, h2, h3, h4⟩, h5⟩ | ⟨_, h, _⟩ | ⟨_, h, _⟩
  · rw [hv] at h; cases h
  · rw [hc] at h2; cases h2; exact ⟨h1, h3, h4, h5⟩
  all_goals (rw [hc] at h; cases h)
theorem wk_c (h : PickS 5000 (fun _ => 1000) (fun _ => 1) wkL1 1 s00 p n m s') : p = 3 ∧ n = 5 ∧ m = 2 ∧ s'.1 2 = 4000 := by
  have hv : voiceMay wkL1 1 = false := by decide +kernel
  have hc : oldOf wkL1 = none := by decide +kernel
  have hn : (nextF 5000 (wants (wantL wkL1)) (fun _ => 1000) (fun _ => 1) 2000 s00.1 s00.2.1 s00.2.2).map (fun r => (r.1 2, r.2.1)) = some (4000, 2) := by decide +kernel
  have hmo : modeOf wkL1 ((2 : Nat) : Int) = some (5, 2, false, false) := by decide +kernel
  have hz : (modesOf (wantL wkL1)).isEmpty = false := by decide +kernel
  rcases h with ⟨h, _⟩ | ⟨_, _, ⟨c, h2, _⟩, _⟩ | ⟨_, _, _, h1, h2, c, h3, h4, h5⟩ | ⟨_, _, h, _⟩
  · rw [hv] at h; cases h
  · rw [hc] at h2; cases h2
  · obtain ⟨r, hr, he⟩ := Option.map_eq_some_iff.1 hn
    have := h2.det ⟨2000, hr⟩
    subst this
    simp only [Prod.mk.injEq] at he
    rw [he.2, hmo] at h3
    cases h3
    exact ⟨h1, h4, h5, he.1⟩
  · rw [h] at hz; cases hz
end

/-- What is kept through the rows. -/
def WkI (w : World) (bd : Nat) (vL : Value) (W : World) : Prop := Below w.heap.size w W ∧ Blk W bd 51 (dCells 5000 s00.1 s00.2.1 s00.2.2) ∧ SlAt W 4 vL 3 (wkL.flatMap cC)
theorem WkI.below {w W W' : World} {bd : Nat} {vL : Value} (h : WkI w bd vL W) (hb : Below W.heap.size W W') : WkI w bd vL W' :=
  ⟨h.1.trans (hb.mono h.1.size), h.2.1.below hb h.2.1.lt, h.2.2.below hb⟩

/-- What is kept through the third row. -/
def Wk4 (w : World) (bd : Nat) (vL : Value) (g3 g4 : Nat) (W : World) : Prop := WkI w bd vL W ∧ Blk W g3 33 (chA 1 9 1 (some ⟨bd, 0, none⟩)) ∧ Blk W g4 33 (chA 2 3 7 (some ⟨bd, 0, none⟩))
theorem Wk4.below {w W W' : World} {bd : Nat} {vL : Value} {g3 g4 : Nat} (h : Wk4 w bd vL g3 g4 W) (hb : Below W.heap.size W W') : Wk4 w bd vL g3 g4 W' :=
  ⟨h.1.below hb, h.2.1.below hb h.2.1.lt, h.2.2.below hb h.2.2.lt⟩

set_option maxRecDepth 100000 in
set_option maxHeartbeats 8000000 in
theorem works_yes (w : World) : Calls Try.prog 15 #[] w fun e w' => e = .returned (.bool true) ∧ Below w.heap.size w w' := by
  go_enter Try.func15, Try.ntmps15
  go_wp2_with fail
  refine (New_yes 5000 w (by decide)).mono ?_
  rintro e w0 ⟨rfl, hb, hB⟩
  have H0 := Lib.hid (And.intro hb hB)
  clear hb hB
  generalize hbd : w.heap.size = bd
  have HBD := Lib.hid hbd
  clear hbd
  go_wp2_with fail
  have I0 : WkI w bd (.slice (some ⟨w0.heap.size, 0, none⟩) 3 3) (w0.alloc (.cells #[.int .u64 5, .int .i64 2, .bool false, .bool false, .int .u64 3, .int .i64 7, .bool false, .bool true, .int .u64 9, .int .i64 1, .bool true, .bool false] 45)) :=
    ⟨H0.out.1.alloc H0.out.1.size _, by rw [← HBD.out]; exact H0.out.2.alloc _, sl_new w0 _ _ 4 3 _ rfl rfl (by decide) _ rfl⟩
  generalize hW : World.alloc _ _ = W at *
  generalize hvL : Value.slice (some ⟨w0.heap.size, 0, none⟩) 3 3 = vL at *
  have HVL := Lib.hid hvL
  clear hvL
  have I := Lib.hid I0
  clear I0 hW H0
  refine (same_any 1000 W).mono ?_
  rintro e w1 ⟨rfl, hb1, hB1⟩
  go_wp2_with fail
  refine (same_any 1 w1).mono ?_
  rintro e w2 ⟨rfl, hb2, hB2⟩
  have hk1 := hB1.below hb2 hB1.lt
  have I2 := Lib.hid ((I.out.below hb1).below hb2)
  go_wp2_with fail
  have hp := pick_drr vL _ _ 0 bd 5000 s00 wkL _ _ w2 I2.out.2.2 (by decide) (by decide) s00_ok I2.out.2.1 (same_fn hk1) (same_fn hB2)
  refine hp.mono ?_
  clear hp hk1 hb1 hB1 hb2 hB2
  rintro e w3 ⟨hb, pick, no, mode, bx, s', rfl, hps, hok, hBx, hcase⟩
  obtain ⟨rfl, rfl, rfl, rfl⟩ := wk_a hps
  have hbx : bx = bd := by rcases hcase with ⟨h, _⟩ | ⟨_, h⟩; (cases h); exact h
  subst hbx
  have I3 := Lib.hid (I2.out.below hb)
  clear hb hps hok hBx hcase I2 I
  simp only [chA]
  go_wp2_with fail
  have C0 := Blk.new w3 33 #[.int .i64 1, .int .u64 9, .int .i64 1, .pointer (some ⟨bx, 0, none⟩)]
  have I4' := I3.out.below ((Below.refl w3.heap.size w3).alloc (Nat.le_refl _) (.cells #[.int .i64 1, .int .u64 9, .int .i64 1, .pointer (some ⟨bx, 0, none⟩)] 33))
  generalize hW4 : World.alloc _ _ = W4 at *
  generalize hg3 : w3.heap.size = g3 at *
  have I4 := Lib.hid I4'
  have C4 := Lib.hid C0
  clear I4' C0 I3 hW4 hg3
  refine (same_any 1000 W4).mono ?_
  rintro e w5 ⟨rfl, hb1, hB1⟩
  go_wp2_with fail
  refine (same_any 1 w5).mono ?_
  rintro e w6 ⟨rfl, hb2, hB2⟩
  have hk1 := hB1.below hb2 hB1.lt
  have I6 := Lib.hid ((I4.out.below hb1).below hb2)
  have C6 := Lib.hid ((C4.out.below hb1 C4.out.lt).below hb2 (C4.out.below hb1 C4.out.lt).lt)
  go_wp2_with fail
  have hp := pick_drr vL _ _ 1 bx 5000 s00 wkL _ _ w6 I6.out.2.2 (by decide) (by decide) s00_ok I6.out.2.1 (same_fn hk1) (same_fn hB2)
  refine hp.mono ?_
  clear hp hk1 hb1 hB1 hb2 hB2
  rintro e w7 ⟨hb, pick, no, mode, by1, s', rfl, hps, hok, hBx, hcase⟩
  obtain ⟨rfl, rfl, rfl, rfl⟩ := wk_b hps
  have hbx : by1 = bx := by rcases hcase with ⟨h, _⟩ | ⟨_, h⟩; (cases h); exact h
  subst hbx
  have I7 := Lib.hid (I6.out.below hb)
  have C7 := Lib.hid (C6.out.below hb C6.out.lt)
  clear hb hps hok hBx hcase I6 I4 C4 C6
  simp only [chA]
  have C0 := Blk.new w7 33 #[.int .i64 2, .int .u64 3, .int .i64 7, .pointer (some ⟨by1, 0, none⟩)]
  have hb8 := (Below.refl w7.heap.size w7).alloc (Nat.le_refl _) (.cells #[.int .i64 2, .int .u64 3, .int .i64 7, .pointer (some ⟨by1, 0, none⟩)] 33)
  go_upto_region 5 with fail
  have I8' : Wk4 w by1 vL g3 w7.heap.size (w7.alloc (.cells #[.int .i64 2, .int .u64 3, .int .i64 7, .pointer (some ⟨by1, 0, none⟩)] 33)) := ⟨I7.out.below hb8, C7.out.below hb8 C7.out.lt, C0⟩
  generalize hW8 : World.alloc _ _ = W8 at *
  generalize hg4 : w7.heap.size = g4 at *
  have I8 := Lib.hid I8'
  clear I8' C0 hb8 I7 C7 hW8 hg4
  have hvL := HVL.out
  generalize w0.heap.size = gl at *
  subst hvL
  clear HVL
  go_cut [5] from 21 to 27 (fun v wx => ∃ g5 bx : Nat, ∃ s' : St, v = .pointer (some ⟨g5, 0, none⟩) ∧ Wk4 w by1 (.slice (some ⟨gl, 0, none⟩) 3 3) g3 g4 wx ∧ Blk wx g5 33 (chA 3 5 2 (some ⟨bx, 0, none⟩)) ∧ s'.1 2 = 4000 ∧ Blk wx bx 51 (dCells 5000 s'.1 s'.2.1 s'.2.2))
  case first =>
    refine wp_region_lin (by kernel_rfl) (wpLin_split 5 6 (by decide) ?_ (wpLin_split 4 6 (by decide) ?_ (wpLin_split 3 6 (by decide) ?_ ?_)))
    · refine wpLin_ord1 5 6 [0, 1, 2, 3, 4, 5, 6, 7] [3, 4, 5, 6, 7] (fun _ => True) (by kernel_rfl) trivial (fun _ => ?_)
      generalize hV0 : World.drew _ = V0
      have B0 : Below W8.heap.size W8 V0 := by rw [← hV0]; exact (Below.refl _ _).drew
      clear hV0
      (refine mixO_read (by rfl) (by rfl) (by rfl) (by rfl) (by rfl) (by simp) ?_; apply Exists.intro; apply Exists.intro; refine ⟨fun w' hw' K hK => ?_, ?_, ?_⟩; (obtain ⟨X, rfl⟩ := hw'; go_wp2_with fail; first | exact ⟨rfl, rfl⟩ | exact rfl); rfl)
      (refine mixO_read (by rfl) (by rfl) (by rfl) (by rfl) (by rfl) (by simp) ?_; apply Exists.intro; apply Exists.intro; refine ⟨fun w' hw' K hK => ?_, ?_, ?_⟩; (obtain ⟨X, rfl⟩ := hw'; go_wp2_with fail; first | exact ⟨rfl, rfl⟩ | exact rfl); rfl)
      (refine mixO_read (by rfl) (by rfl) (by rfl) (by rfl) (by rfl) (by simp) ?_; apply Exists.intro; apply Exists.intro; refine ⟨fun w' hw' K hK => ?_, ?_, ?_⟩; (obtain ⟨X, rfl⟩ := hw'; go_wp2_with fail; first | exact ⟨rfl, rfl⟩ | exact rfl); rfl)
      (refine mixO_act (by rfl) (by rfl) (by rfl) (fun K hK => ?_))
      go_wp2_with fail
      refine (same_any 1000 V0).mono ?_
      rintro e V1 ⟨rfl, hb, hk1⟩
      go_wp2_with fail
      refine ⟨.mk trivial, ?_⟩
      have B1 := B0.trans (hb.mono B0.size)
      clear hb
      (refine mixO_act (by rfl) (by rfl) (by rfl) (fun K hK => ?_))
      go_wp2_with fail
      refine (same_any 1 V1).mono ?_
      rintro e V2 ⟨rfl, hb, hw2⟩
      go_wp2_with fail
      refine ⟨.mk trivial, ?_⟩
      have B2 := B1.trans (hb.mono B1.size)
      have hk2 := hk1.below hb hk1.lt
      clear hb
      (refine mixO_act (by rfl) (by rfl) (by rfl) (fun K hK => ?_))
      go_wp2_with fail
      have hsl := ((I8.out.below B2).1.2.2)
      obtain ⟨A, cap, he, hsl1⟩ := hsl.take 1 (by decide)
      cases he
      have hp := pick_drr (.slice (some ⟨gl, 0, none⟩) 1 3) _ _ 1 by1 5000 s00 wkL1 _ _ V2 hsl1 (by decide) (by decide) s00_ok (I8.out.below B2).1.2.1 (same_fn hk2) (same_fn hw2)
      refine hp.mono ?_
      clear hp hsl hsl1
      rintro e V3 ⟨hb, pick, no, mode, bx, s', rfl, hps, hok, hP3, hcase⟩
      obtain ⟨rfl, rfl, rfl, hd⟩ := wk_c hps
      have hbx : V2.heap.size ≤ bx := by rcases hcase with ⟨_, h⟩ | ⟨h, _⟩; (exact h); exact absurd rfl h
      clear hps hok hcase
      simp only [chA]
      go_wp2_with fail
      refine ⟨.mk trivial, ?_⟩
      have B3 := B2.trans (hb.mono B2.size)
      have hk3 := hk2.below hb hk2.lt
      have hw3 := hw2.below hb hw2.lt
      clear hb
      (refine mixO_act (by rfl) (by rfl) (by rfl) (fun K hK => ?_))
      go_wp2_with fail
      refine ⟨.mk trivial, ?_⟩
      have hb := (Below.refl V3.heap.size V3).alloc (Nat.le_refl _) (.cells (chA 0 0 0 none) 33)
      have hpl0 := hP3.lt
      have hZ4 := Blk.new V3 33 (chA 0 0 0 none)
      simp only [chA] at hb hZ4
      have hz : W8.heap.size ≤ V3.heap.size := B3.size
      generalize World.alloc _ _ = V4 at *
      have B4 := B3.trans (hb.mono B3.size)
      have hk4 := hk3.below hb hk3.lt
      have hw4 := hw3.below hb hw3.lt
      have hP4 := hP3.below hb hP3.lt
      clear hb
      (refine mixO_last (by rfl) (by rfl) (by rfl) (by kernel_rfl) (fun K hK => ?_))
      refine wp_store_row 33 (.tmp 5) (.tmp 26) rfl _ (chA 3 5 2 (some ⟨bx, 0, none⟩)) rfl rfl 33 _ hZ4 (by kernel_rfl) rfl (by simp [chA, Value.oneCell']) ?_
      (simp [Act.put])
      refine hK _ _ ?_
      go_wp2_with fail
      go_meet
      have hpl := hP4.lt
      have hzl := hZ4.lt
      exact ⟨_, bx, s', rfl, I8.out.below (Below_setRow B4 hz _), hZ4.setRow _, hd, hP4.setRow_far (by omega) _⟩
    · refine wpLin_ord2 6 5 4 6 [0, 1, 2, 3, 4, 6, 5, 7] [3, 4, 5, 6, 7] (fun _ => True) (by kernel_rfl) trivial (fun _ => ?_)
      generalize hV0 : World.drew _ = V0
      have B0 : Below W8.heap.size W8 V0 := by rw [← hV0]; exact (Below.refl _ _).drew
      clear hV0
      (refine mixO_read (by rfl) (by rfl) (by rfl) (by rfl) (by rfl) (by simp) ?_; apply Exists.intro; apply Exists.intro; refine ⟨fun w' hw' K hK => ?_, ?_, ?_⟩; (obtain ⟨X, rfl⟩ := hw'; go_wp2_with fail; first | exact ⟨rfl, rfl⟩ | exact rfl); rfl)
      (refine mixO_read (by rfl) (by rfl) (by rfl) (by rfl) (by rfl) (by simp) ?_; apply Exists.intro; apply Exists.intro; refine ⟨fun w' hw' K hK => ?_, ?_, ?_⟩; (obtain ⟨X, rfl⟩ := hw'; go_wp2_with fail; first | exact ⟨rfl, rfl⟩ | exact rfl); rfl)
      (refine mixO_read (by rfl) (by rfl) (by rfl) (by rfl) (by rfl) (by simp) ?_; apply Exists.intro; apply Exists.intro; refine ⟨fun w' hw' K hK => ?_, ?_, ?_⟩; (obtain ⟨X, rfl⟩ := hw'; go_wp2_with fail; first | exact ⟨rfl, rfl⟩ | exact rfl); rfl)
      (refine mixO_act (by rfl) (by rfl) (by rfl) (fun K hK => ?_))
      go_wp2_with fail
      refine (same_any 1000 V0).mono ?_
      rintro e V1 ⟨rfl, hb, hk1⟩
      go_wp2_with fail
      refine ⟨.mk trivial, ?_⟩
      have B1 := B0.trans (hb.mono B0.size)
      clear hb
      (refine mixO_act (by rfl) (by rfl) (by rfl) (fun K hK => ?_))
      go_wp2_with fail
      refine (same_any 1 V1).mono ?_
      rintro e V2 ⟨rfl, hb, hw2⟩
      go_wp2_with fail
      refine ⟨.mk trivial, ?_⟩
      have B2 := B1.trans (hb.mono B1.size)
      have hk2 := hk1.below hb hk1.lt
      clear hb
      (refine mixO_act (by rfl) (by rfl) (by rfl) (fun K hK => ?_))
      go_wp2_with fail
      refine ⟨.mk trivial, ?_⟩
      have hb := (Below.refl V2.heap.size V2).alloc (Nat.le_refl _) (.cells (chA 0 0 0 none) 33)
      have hZ3 := Blk.new V2 33 (chA 0 0 0 none)
      simp only [chA] at hb hZ3
      have hz : W8.heap.size ≤ V2.heap.size := B2.size
      generalize World.alloc _ _ = V3 at *
      have B3 := B2.trans (hb.mono B2.size)
      have hk3 := hk2.below hb hk2.lt
      have hw3 := hw2.below hb hw2.lt
      clear hb
      (refine mixO_act (by rfl) (by rfl) (by rfl) (fun K hK => ?_))
      go_wp2_with fail
      have hsl := ((I8.out.below B3).1.2.2)
      obtain ⟨A, cap, he, hsl1⟩ := hsl.take 1 (by decide)
      cases he
      have hp := pick_drr (.slice (some ⟨gl, 0, none⟩) 1 3) _ _ 1 by1 5000 s00 wkL1 _ _ V3 hsl1 (by decide) (by decide) s00_ok (I8.out.below B3).1.2.1 (same_fn hk3) (same_fn hw3)
      refine hp.mono ?_
      clear hp hsl hsl1
      rintro e V4 ⟨hb, pick, no, mode, bx, s', rfl, hps, hok, hP4, hcase⟩
      obtain ⟨rfl, rfl, rfl, hd⟩ := wk_c hps
      have hbx : V3.heap.size ≤ bx := by rcases hcase with ⟨_, h⟩ | ⟨h, _⟩; (exact h); exact absurd rfl h
      have hzl0 := hZ3.lt
      clear hps hok hcase
      simp only [chA]
      go_wp2_with fail
      refine ⟨.mk trivial, ?_⟩
      have B4 := B3.trans (hb.mono B3.size)
      have hk4 := hk3.below hb hk3.lt
      have hw4 := hw3.below hb hw3.lt
      have hZ4 := hZ3.below hb hZ3.lt
      clear hb
      (refine mixO_last (by rfl) (by rfl) (by rfl) (by kernel_rfl) (fun K hK => ?_))
      refine wp_store_row 33 (.tmp 5) (.tmp 26) rfl _ (chA 3 5 2 (some ⟨bx, 0, none⟩)) rfl rfl 33 _ hZ4 (by kernel_rfl) rfl (by simp [chA, Value.oneCell']) ?_
      (simp [Act.put])
      refine hK _ _ ?_
      go_wp2_with fail
      go_meet
      have hpl := hP4.lt
      have hzl := hZ4.lt
      exact ⟨_, bx, s', rfl, I8.out.below (Below_setRow B4 hz _), hZ4.setRow _, hd, hP4.setRow_far (by omega) _⟩
    · refine wpLin_ord3 6 5 6 4 3 6 [0, 1, 2, 3, 6, 4, 5, 7] [3, 4, 5, 6, 7] (fun _ => True) (by kernel_rfl) trivial (fun _ => ?_)
      generalize hV0 : World.drew _ = V0
      have B0 : Below W8.heap.size W8 V0 := by rw [← hV0]; exact (Below.refl _ _).drew
      clear hV0
      (refine mixO_read (by rfl) (by rfl) (by rfl) (by rfl) (by rfl) (by simp) ?_; apply Exists.intro; apply Exists.intro; refine ⟨fun w' hw' K hK => ?_, ?_, ?_⟩; (obtain ⟨X, rfl⟩ := hw'; go_wp2_with fail; first | exact ⟨rfl, rfl⟩ | exact rfl); rfl)
      (refine mixO_read (by rfl) (by rfl) (by rfl) (by rfl) (by rfl) (by simp) ?_; apply Exists.intro; apply Exists.intro; refine ⟨fun w' hw' K hK => ?_, ?_, ?_⟩; (obtain ⟨X, rfl⟩ := hw'; go_wp2_with fail; first | exact ⟨rfl, rfl⟩ | exact rfl); rfl)
      (refine mixO_read (by rfl) (by rfl) (by rfl) (by rfl) (by rfl) (by simp) ?_; apply Exists.intro; apply Exists.intro; refine ⟨fun w' hw' K hK => ?_, ?_, ?_⟩; (obtain ⟨X, rfl⟩ := hw'; go_wp2_with fail; first | exact ⟨rfl, rfl⟩ | exact rfl); rfl)
      (refine mixO_act (by rfl) (by rfl) (by rfl) (fun K hK => ?_))
      go_wp2_with fail
      refine (same_any 1000 V0).mono ?_
      rintro e V1 ⟨rfl, hb, hk1⟩
      go_wp2_with fail
      refine ⟨.mk trivial, ?_⟩
      have B1 := B0.trans (hb.mono B0.size)
      clear hb
      (refine mixO_act (by rfl) (by rfl) (by rfl) (fun K hK => ?_))
      go_wp2_with fail
      refine ⟨.mk trivial, ?_⟩
      have hb := (Below.refl V1.heap.size V1).alloc (Nat.le_refl _) (.cells (chA 0 0 0 none) 33)
      have hZ2 := Blk.new V1 33 (chA 0 0 0 none)
      simp only [chA] at hb hZ2
      have hz : W8.heap.size ≤ V1.heap.size := B1.size
      generalize World.alloc _ _ = V2 at *
      have B2 := B1.trans (hb.mono B1.size)
      have hk2 := hk1.below hb hk1.lt
      clear hb
      (refine mixO_act (by rfl) (by rfl) (by rfl) (fun K hK => ?_))
      go_wp2_with fail
      refine (same_any 1 V2).mono ?_
      rintro e V3 ⟨rfl, hb, hw3⟩
      go_wp2_with fail
      refine ⟨.mk trivial, ?_⟩
      have B3 := B2.trans (hb.mono B2.size)
      have hk3 := hk2.below hb hk2.lt
      have hZ3 := hZ2.below hb hZ2.lt
      clear hb
      (refine mixO_act (by rfl) (by rfl) (by rfl) (fun K hK => ?_))
      go_wp2_with fail
      have hsl := ((I8.out.below B3).1.2.2)
      obtain ⟨A, cap, he, hsl1⟩ := hsl.take 1 (by decide)
      cases he
      have hp := pick_drr (.slice (some ⟨gl, 0, none⟩) 1 3) _ _ 1 by1 5000 s00 wkL1 _ _ V3 hsl1 (by decide) (by decide) s00_ok (I8.out.below B3).1.2.1 (same_fn hk3) (same_fn hw3)
      refine hp.mono ?_
      clear hp hsl hsl1
      rintro e V4 ⟨hb, pick, no, mode, bx, s', rfl, hps, hok, hP4, hcase⟩
      obtain ⟨rfl, rfl, rfl, hd⟩ := wk_c hps
      have hbx : V3.heap.size ≤ bx := by rcases hcase with ⟨_, h⟩ | ⟨h, _⟩; (exact h); exact absurd rfl h
      have hzl0 := hZ3.lt
      clear hps hok hcase
      simp only [chA]
      go_wp2_with fail
      refine ⟨.mk trivial, ?_⟩
      have B4 := B3.trans (hb.mono B3.size)
      have hk4 := hk3.below hb hk3.lt
      have hZ4 := hZ3.below hb hZ3.lt
      have hw4 := hw3.below hb hw3.lt
      clear hb
      (refine mixO_last (by rfl) (by rfl) (by rfl) (by kernel_rfl) (fun K hK => ?_))
      refine wp_store_row 33 (.tmp 5) (.tmp 26) rfl _ (chA 3 5 2 (some ⟨bx, 0, none⟩)) rfl rfl 33 _ hZ4 (by kernel_rfl) rfl (by simp [chA, Value.oneCell']) ?_
      (simp [Act.put])
      refine hK _ _ ?_
      go_wp2_with fail
      go_meet
      have hpl := hP4.lt
      have hzl := hZ4.lt
      exact ⟨_, bx, s', rfl, I8.out.below (Below_setRow B4 hz _), hZ4.setRow _, hd, hP4.setRow_far (by omega) _⟩
    · refine wpLin_ord3 6 5 6 4 6 3 [0, 1, 2, 6, 3, 4, 5, 7] [3, 4, 5, 6, 7] (fun _ => True) (by kernel_rfl) trivial (fun _ => ?_)
      generalize hV0 : World.drew _ = V0
      have B0 : Below W8.heap.size W8 V0 := by rw [← hV0]; exact (Below.refl _ _).drew
      clear hV0
      (refine mixO_read (by rfl) (by rfl) (by rfl) (by rfl) (by rfl) (by simp) ?_; apply Exists.intro; apply Exists.intro; refine ⟨fun w' hw' K hK => ?_, ?_, ?_⟩; (obtain ⟨X, rfl⟩ := hw'; go_wp2_with fail; first | exact ⟨rfl, rfl⟩ | exact rfl); rfl)
      (refine mixO_read (by rfl) (by rfl) (by rfl) (by rfl) (by rfl) (by simp) ?_; apply Exists.intro; apply Exists.intro; refine ⟨fun w' hw' K hK => ?_, ?_, ?_⟩; (obtain ⟨X, rfl⟩ := hw'; go_wp2_with fail; first | exact ⟨rfl, rfl⟩ | exact rfl); rfl)
      (refine mixO_read (by rfl) (by rfl) (by rfl) (by rfl) (by rfl) (by simp) ?_; apply Exists.intro; apply Exists.intro; refine ⟨fun w' hw' K hK => ?_, ?_, ?_⟩; (obtain ⟨X, rfl⟩ := hw'; go_wp2_with fail; first | exact ⟨rfl, rfl⟩ | exact rfl); rfl)
      (refine mixO_act (by rfl) (by rfl) (by rfl) (fun K hK => ?_))
      go_wp2_with fail
      refine ⟨.mk trivial, ?_⟩
      have hb := (Below.refl V0.heap.size V0).alloc (Nat.le_refl _) (.cells (chA 0 0 0 none) 33)
      have hZ1 := Blk.new V0 33 (chA 0 0 0 none)
      simp only [chA] at hb hZ1
      have hz : W8.heap.size ≤ V0.heap.size := B0.size
      generalize World.alloc _ _ = V1 at *
      have B1 := B0.trans (hb.mono B0.size)
      clear hb
      (refine mixO_act (by rfl) (by rfl) (by rfl) (fun K hK => ?_))
      go_wp2_with fail
      refine (same_any 1000 V1).mono ?_
      rintro e V2 ⟨rfl, hb, hk2⟩
      go_wp2_with fail
      refine ⟨.mk trivial, ?_⟩
      have B2 := B1.trans (hb.mono B1.size)
      have hZ2 := hZ1.below hb hZ1.lt
      clear hb
      (refine mixO_act (by rfl) (by rfl) (by rfl) (fun K hK => ?_))
      go_wp2_with fail
      refine (same_any 1 V2).mono ?_
      rintro e V3 ⟨rfl, hb, hw3⟩
      go_wp2_with fail
      refine ⟨.mk trivial, ?_⟩
      have B3 := B2.trans (hb.mono B2.size)
      have hZ3 := hZ2.below hb hZ2.lt
      have hk3 := hk2.below hb hk2.lt
      clear hb
      (refine mixO_act (by rfl) (by rfl) (by rfl) (fun K hK => ?_))
      go_wp2_with fail
      have hsl := ((I8.out.below B3).1.2.2)
      obtain ⟨A, cap, he, hsl1⟩ := hsl.take 1 (by decide)
      cases he
      have hp := pick_drr (.slice (some ⟨gl, 0, none⟩) 1 3) _ _ 1 by1 5000 s00 wkL1 _ _ V3 hsl1 (by decide) (by decide) s00_ok (I8.out.below B3).1.2.1 (same_fn hk3) (same_fn hw3)
      refine hp.mono ?_
      clear hp hsl hsl1
      rintro e V4 ⟨hb, pick, no, mode, bx, s', rfl, hps, hok, hP4, hcase⟩
      obtain ⟨rfl, rfl, rfl, hd⟩ := wk_c hps
      have hbx : V3.heap.size ≤ bx := by rcases hcase with ⟨_, h⟩ | ⟨h, _⟩; (exact h); exact absurd rfl h
      have hzl0 := hZ3.lt
      clear hps hok hcase
      simp only [chA]
      go_wp2_with fail
      refine ⟨.mk trivial, ?_⟩
      have B4 := B3.trans (hb.mono B3.size)
      have hZ4 := hZ3.below hb hZ3.lt
      have hk4 := hk3.below hb hk3.lt
      have hw4 := hw3.below hb hw3.lt
      clear hb
      (refine mixO_last (by rfl) (by rfl) (by rfl) (by kernel_rfl) (fun K hK => ?_))
      refine wp_store_row 33 (.tmp 5) (.tmp 26) rfl _ (chA 3 5 2 (some ⟨bx, 0, none⟩)) rfl rfl 33 _ hZ4 (by kernel_rfl) rfl (by simp [chA, Value.oneCell']) ?_
      (simp [Act.put])
      refine hK _ _ ?_
      go_wp2_with fail
      go_meet
      have hpl := hP4.lt
      have hzl := hZ4.lt
      exact ⟨_, bx, s', rfl, I8.out.below (Below_setRow B4 hz _), hZ4.setRow _, hd, hP4.setRow_far (by omega) _⟩
  case rest =>
    obtain ⟨g5, bx, s', rfl, h4, hC5, hd, hP⟩ := hcut
    have a0 := h4.2.1.cell 0
    have a1 := h4.2.1.cell 1
    have a2 := h4.2.1.cell 2
    have b0 := h4.2.2.cell 0
    have b1 := h4.2.2.cell 1
    have b2 := h4.2.2.cell 2
    have c0 := hC5.cell 0
    have c1 := hC5.cell 1
    have c2 := hC5.cell 2
    have c3 := hC5.cell 3
    simp [chA] at a0 a1 a2 b0 b1 b2 c0 c1 c2 c3
    have H4 := Lib.hid h4
    have HP := Lib.hid hP
    have HD := Lib.hid hd
    clear h4 hC5 hP hd
    go_wp2_with fail
    refine (Deficit_any by1 2 _ 5000 _ _ _ H4.out.1.2.1).mono ?_
    rintro e wy ⟨rfl, rfl⟩
    rw [show defOf s00.1 2 = 0 from rfl]
    go_wp2_with fail
    refine (Deficit_any bx 2 _ 5000 _ _ _ HP.out).mono ?_
    rintro e wy ⟨rfl, rfl⟩
    rw [show defOf s'.1 2 = 4000 from HD.out]
    go_wp2_with fail
    go_ret
    exact ⟨rfl, H4.out.1.1⟩

end Go.Proofs.Ytnhbcpopnhdhiaa
