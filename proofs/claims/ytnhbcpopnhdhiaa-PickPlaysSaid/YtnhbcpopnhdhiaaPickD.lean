/- The rules: voice, who is old, none. -/
import Derived.Test.YtnhbcpopnhdhiaaPickC
import Derived.Deep.CutRange
import Derived.Deep.CutBlock
set_option linter.unusedSimpArgs false
set_option linter.unusedVariables false
namespace Go.Proofs.Ytnhbcpopnhdhiaa
open Go.RowKit Go.Shelf
attribute [local irreducible] wpMix

/-- A choice's cells. -/
def chA (pick : Int) (no mode : Int) (d : Option Addr) : Array Value := #[.int .i64 pick, .int .u64 no, .int .i64 mode, .pointer d]

theorem but_cell' {J : World → Prop} {S : Nat → Prop} {W : World} (hJ : ∀ w, J w → But S W.heap.size W w) (X : Cls J) {g o : Nat} {u : Value} (hc : W.cell? ⟨g, o, none⟩ = some u) (hl : g < W.heap.size) (hs : ¬ S g) : X.W.cell? ⟨g, o, none⟩ = some u :=
  ((hJ _ X.h).cell (p := ⟨g, o, none⟩) hl hs).trans hc

set_option maxRecDepth 100000 in
set_option maxHeartbeats 2000000 in
theorem voice_rule (gs gd gl gw : Nat) (vs : Value) (d : Option Addr) (last : Int) (wt : Bool) (l : List Cv) (w : World)
    (hs : Blk w gs 56 #[vs]) (hsv : FnS w vs l) (hd : Blk w gd 25 #[.pointer d]) (hl : Blk w gl 3 #[.int .i64 last]) (hw : Blk w gw 4 #[.bool wt]) :
    Calls Try.prog 23 #[.pointer (some ⟨gs, 0, none⟩), .pointer (some ⟨gd, 0, none⟩), .pointer (some ⟨gl, 0, none⟩), .pointer (some ⟨gw, 0, none⟩)] w fun e w' =>
      e = .returned (.tuple #[.agg (chA 1 ((someP (fun x => x.2.2.1) l).getD noCand).1 ((someP (fun x => x.2.2.1) l).getD noCand).2.1 d), .bool ((someP (fun x => x.2.2.1) l).isSome && (last != 1 || !wt))]) ∧ Below w.heap.size w w' := by
  obtain ⟨K, fs, fc, rfl, he, hk⟩ := id hsv
  have HH := Lib.hid (And.intro hsv (And.intro hs (And.intro hd (And.intro hl hw))))
  have c0 := hs.cell 0
  have hsl := hs.lt
  have hc := hk (w.alloc (.cells #[.int .i64 0, .int .u64 0, .int .i64 0, .pointer none] 33)) ((Below.refl _ _).alloc (Nat.le_refl _) _) _ _ (FnC.voice _)
  obtain ⟨⟨n, m, vo, ol⟩, hr⟩ : ∃ r, (someP (fun x => x.2.2.1) l).getD noCand = r := ⟨_, rfl⟩
  obtain ⟨sm, hsm⟩ : ∃ s, (someP (fun x => x.2.2.1) l).isSome = s := ⟨_, rfl⟩
  rw [hr, hsm] at hc
  rw [hr, hsm]
  have HC := Lib.hid hc
  clear hs hsv hd hl hw hk hc hr hsm
  simp only
  obtain ⟨res, hres⟩ : ∃ res, (sm && (last != 1 || !wt)) = res := ⟨_, rfl⟩
  rw [hres]
  have HRES := Lib.hid hres
  clear hres
  go_enter Try.func23, Try.ntmps23
  go_wp2_with fail
  refine HC.out.mono ?_
  rintro e w1 ⟨rfl, hb⟩
  have hbw : Below w.heap.size w w1 := ((Below.refl _ _).alloc (Nat.le_refl _) _).trans (hb.mono (by simp))
  have z4 := (Blk.new w 33 #[.int .i64 0, .int .u64 0, .int .i64 0, .pointer none]).below hb (by simp)
  have HW := Lib.hid (And.intro hbw z4)
  have hs1 := z4.lt
  clear hb hbw z4
  simp only [cA]
  go_upto_region 2 with fail
  generalize hW2 : World.alloc _ _ = W2
  have z6 : Blk W2 w1.heap.size 45 #[.int .u64 n, .int .i64 m, .bool vo, .bool ol] := by rw [← hW2]; exact Blk.new _ _ _
  have b2 : Below w1.heap.size w1 W2 := by rw [← hW2]; exact (Below.refl _ _).alloc (Nat.le_refl _) _
  have z4 := HW.out.2.below b2 HW.out.2.lt
  have hb02 : Below w.heap.size w W2 := HW.out.1.trans (b2.mono HW.out.1.size)
  have zd := HH.out.2.2.1.below hb02 HH.out.2.2.1.lt
  have zl := HH.out.2.2.2.1.below hb02 HH.out.2.2.2.1.lt
  have zw := HH.out.2.2.2.2.below hb02 HH.out.2.2.2.2.lt
  have ld := HH.out.2.2.1.lt
  have ll := HH.out.2.2.2.1.lt
  have lw := HH.out.2.2.2.2.lt
  let J : World → Prop := fun W => But (fun j => j = w.heap.size) W2.heap.size W2 W
  have q0 : ∀ X : Cls fun W => But (fun j => j = w.heap.size) W2.heap.size W2 W, X.W.cell? ⟨w1.heap.size, 0, none⟩ = some (.int .u64 n) := fun X => but_cell' (fun _ h => h) X (z6.cell 0) z6.lt (by omega)
  have q1 : ∀ X : Cls fun W => But (fun j => j = w.heap.size) W2.heap.size W2 W, X.W.cell? ⟨w1.heap.size, 1, none⟩ = some (.int .i64 m) := fun X => but_cell' (fun _ h => h) X (z6.cell 1) z6.lt (by omega)
  have q2 : ∀ X : Cls fun W => But (fun j => j = w.heap.size) W2.heap.size W2 W, X.W.cell? ⟨gd, 0, none⟩ = some (.pointer d) := fun X => but_cell' (fun _ h => h) X (zd.cell 0) zd.lt (by omega)
  have q3 : ∀ X : Cls fun W => But (fun j => j = w.heap.size) W2.heap.size W2 W, X.W.cell? ⟨gl, 0, none⟩ = some (.int .i64 last) := fun X => but_cell' (fun _ h => h) X (zl.cell 0) zl.lt (by omega)
  have q4 : ∀ X : Cls fun W => But (fun j => j = w.heap.size) W2.heap.size W2 W, X.W.cell? ⟨gw, 0, none⟩ = some (.bool wt) := fun X => but_cell' (fun _ h => h) X (zw.cell 0) zw.lt (by omega)
  have f0 := z4.frozen 0
  have f1 := z4.frozen 1
  have f2 := z4.frozen 2
  have f3 := z4.frozen 3
  have c0 := z4.cell 0
  have c1 := z4.cell 1
  have c2 := z4.cell 2
  have c3 := z4.cell 3
  have HZ := Lib.hid (And.intro z4 hb02)
  clear hW2 z6 b2 z4 hb02 zd zl zw J
  go_cut [5] from 13 to 27 (fun v wx => v = .bool res ∧ Blk wx w.heap.size 33 (chA 1 n m d) ∧ Below w.heap.size w wx)
  case first =>
    have hor : (sm = false ∧ res = false) ∨ (sm = true ∧ (last != 1) = true ∧ res = true) ∨ (sm = true ∧ (last != 1) = false ∧ res = !wt) := by
      have := HRES.out
      cases sm <;> cases hx : (last != 1) <;> simp_all
    have hfin : ∀ W, W = ((((W2.drew.setCell ⟨w.heap.size, 0, none⟩ (.int .i64 1)).setCell ⟨w.heap.size, 1, none⟩ (.int .u64 n)).setCell ⟨w.heap.size, 2, none⟩ (.int .i64 m)).setCell ⟨w.heap.size, 3, none⟩ (.pointer d)) → Blk W w.heap.size 33 (chA 1 n m d) ∧ Below w.heap.size w W := fun W h => by
      subst h
      exact ⟨(((HZ.out.1.drew.set_ 0 _).set_ 1 _).set_ 2 _).set_ 3 _, (((HZ.out.2.drew.setCell (p := ⟨w.heap.size, 0, none⟩) (Nat.le_refl _) _).setCell (p := ⟨w.heap.size, 1, none⟩) (Nat.le_refl _) _).setCell (p := ⟨w.heap.size, 2, none⟩) (Nat.le_refl _) _).setCell (p := ⟨w.heap.size, 3, none⟩) (Nat.le_refl _) _⟩
    have hbut : ∀ W, W = ((((W2.drew.setCell ⟨w.heap.size, 0, none⟩ (.int .i64 1)).setCell ⟨w.heap.size, 1, none⟩ (.int .u64 n)).setCell ⟨w.heap.size, 2, none⟩ (.int .i64 m)).setCell ⟨w.heap.size, 3, none⟩ (.pointer d)) → But (fun j => j = w.heap.size) W2.heap.size W2 W := fun W h => by
      subst h
      exact (((((But.refl (fun j => j = w.heap.size) W2.heap.size W2).drew.setCell (p := ⟨w.heap.size, 0, none⟩) (fun _ => rfl) _).setCell (p := ⟨w.heap.size, 1, none⟩) (fun _ => rfl) _).setCell (p := ⟨w.heap.size, 2, none⟩) (fun _ => rfl) _).setCell (p := ⟨w.heap.size, 3, none⟩) (fun _ => rfl) _)
    rcases hor with ⟨rfl, rfl⟩ | ⟨rfl, g1, rfl⟩ | ⟨rfl, g1, rfl⟩
    · refine wp_region_sub [15] (fun W => But (fun j => j = w.heap.size) W2.heap.size W2 W) (by kernel_rfl) (by kernel_rfl) ((But.refl _ _ _).drew) (fun _ => ?_)
      iterate 8 (refine mix_read (by kernel_rfl) (by rfl) (by rfl) (by rfl) (of_decide_eq_true (by kernel_rfl)) ?_; apply Exists.intro; apply Exists.intro; refine ⟨fun w' hw' K hK => ?_, ?_, ?_⟩; (obtain ⟨X, rfl⟩ := hw'; go_wp2_with fail; first | exact ⟨rfl, rfl⟩ | exact rfl); rfl)
      iterate 6 (refine mix_skip (by kernel_rfl) ?_; simp only [Act.put, List.setIfInBounds_toArray, List.set_cons_succ, List.set_cons_zero])
      (refine mix_read (by kernel_rfl) (by rfl) (by rfl) (by rfl) (of_decide_eq_true (by kernel_rfl)) ?_; apply Exists.intro; apply Exists.intro; refine ⟨fun w' hw' K hK => ?_, ?_, ?_⟩; (obtain ⟨X, rfl⟩ := hw'; go_wp2_with fail; first | exact ⟨rfl, rfl⟩ | exact rfl); rfl)
      (refine mix_act (by rfl) (by rfl) (fun K hK => ?_))
      go_wp2_with fail
      refine ⟨.mk (hbut _ rfl), ?_⟩
      (refine mix_read (by kernel_rfl) (by rfl) (by rfl) (by rfl) (of_decide_eq_true (by kernel_rfl)) ?_; apply Exists.intro; apply Exists.intro; refine ⟨fun w' hw' K hK => ?_, ?_, ?_⟩; (obtain ⟨X, rfl⟩ := hw'; go_wp2_with fail; first | exact ⟨rfl, rfl⟩ | exact rfl); rfl)
      refine mix_nil ?_
      go_wp2_with fail
      go_meet
      exact ⟨rfl, hfin _ rfl⟩
    · refine wp_region_sub [15] (fun W => But (fun j => j = w.heap.size) W2.heap.size W2 W) (by kernel_rfl) (by kernel_rfl) ((But.refl _ _ _).drew) (fun _ => ?_)
      iterate 11 (refine mix_read (by kernel_rfl) (by rfl) (by rfl) (by rfl) (of_decide_eq_true (by kernel_rfl)) ?_; apply Exists.intro; apply Exists.intro; refine ⟨fun w' hw' K hK => ?_, ?_, ?_⟩; (obtain ⟨X, rfl⟩ := hw'; go_wp2_with fail; first | exact ⟨rfl, rfl⟩ | exact rfl); rfl)
      iterate 2 (refine mix_skip (by kernel_rfl) ?_; simp only [Act.put, List.setIfInBounds_toArray, List.set_cons_succ, List.set_cons_zero])
      iterate 2 (refine mix_read (by kernel_rfl) (by rfl) (by rfl) (by rfl) (of_decide_eq_true (by kernel_rfl)) ?_; apply Exists.intro; apply Exists.intro; refine ⟨fun w' hw' K hK => ?_, ?_, ?_⟩; (obtain ⟨X, rfl⟩ := hw'; go_wp2_with fail; first | exact ⟨rfl, rfl⟩ | exact rfl); rfl)
      (refine mix_act (by rfl) (by rfl) (fun K hK => ?_))
      go_wp2_with fail
      refine ⟨.mk (hbut _ rfl), ?_⟩
      (refine mix_read (by kernel_rfl) (by rfl) (by rfl) (by rfl) (of_decide_eq_true (by kernel_rfl)) ?_; apply Exists.intro; apply Exists.intro; refine ⟨fun w' hw' K hK => ?_, ?_, ?_⟩; (obtain ⟨X, rfl⟩ := hw'; go_wp2_with fail; first | exact ⟨rfl, rfl⟩ | exact rfl); rfl)
      refine mix_nil ?_
      go_wp2_with fail
      go_meet
      exact ⟨rfl, hfin _ rfl⟩
    · refine wp_region_sub [15] (fun W => But (fun j => j = w.heap.size) W2.heap.size W2 W) (by kernel_rfl) (by kernel_rfl) ((But.refl _ _ _).drew) (fun _ => ?_)
      iterate 15 (refine mix_read (by kernel_rfl) (by rfl) (by rfl) (by rfl) (of_decide_eq_true (by kernel_rfl)) ?_; apply Exists.intro; apply Exists.intro; refine ⟨fun w' hw' K hK => ?_, ?_, ?_⟩; (obtain ⟨X, rfl⟩ := hw'; go_wp2_with fail; first | exact ⟨rfl, rfl⟩ | exact rfl); rfl)
      (refine mix_act (by rfl) (by rfl) (fun K hK => ?_))
      go_wp2_with fail
      refine ⟨.mk (hbut _ rfl), ?_⟩
      (refine mix_read (by kernel_rfl) (by rfl) (by rfl) (by rfl) (of_decide_eq_true (by kernel_rfl)) ?_; apply Exists.intro; apply Exists.intro; refine ⟨fun w' hw' K hK => ?_, ?_, ?_⟩; (obtain ⟨X, rfl⟩ := hw'; go_wp2_with fail; first | exact ⟨rfl, rfl⟩ | exact rfl); rfl)
      refine mix_nil ?_
      go_wp2_with fail
      go_meet
      exact ⟨rfl, hfin _ rfl⟩
  case rest =>
    obtain ⟨rfl, hB, hb⟩ := hcut
    have HF := Lib.hid (And.intro hB hb)
    clear hB hb q0 q1 q2 q3 q4 f0 f1 f2 f3 c0 c1 c2 c3
    go_wp2_with fail
    refine bodyPost_ret (res_cell_tmp rfl _ _ w.heap.size 33 _ _ rfl HF.out.1 Try.underlying33 rfl (by kernel_rfl)) rfl ⟨rfl, HF.out.2⟩

set_option maxRecDepth 100000 in
set_option maxHeartbeats 2000000 in
theorem old_rule (gc gd gw : Nat) (c : Cv) (d : Option Addr) (wt : Bool) (w : World)
    (hc : Blk w gc 45 (cA c)) (hd : Blk w gd 25 #[.pointer d]) (hw : Blk w gw 4 #[.bool wt]) :
    Calls Try.prog 25 #[.pointer (some ⟨gc, 0, none⟩), .pointer (some ⟨gd, 0, none⟩), .pointer (some ⟨gw, 0, none⟩)] w fun e w' =>
      e = .returned (.tuple #[.agg (chA 2 c.1 c.2.1 d), .bool wt]) ∧ Below w.heap.size w w' := by
  obtain ⟨n, m, vo, ol⟩ := c
  have HH := Lib.hid (And.intro hc (And.intro hd hw))
  have lc := hc.lt
  have ld := hd.lt
  have lw := hw.lt
  clear hc hd hw
  simp only
  go_enter Try.func25, Try.ntmps25
  go_upto_region 1 with fail
  generalize hW2 : World.alloc _ _ = W2
  have z4 : Blk W2 w.heap.size 33 #[.int .i64 0, .int .u64 0, .int .i64 0, .pointer none] := by rw [← hW2]; exact Blk.new _ _ _
  have b2 : Below w.heap.size w W2 := by rw [← hW2]; exact (Below.refl _ _).alloc (Nat.le_refl _) _
  have zc := HH.out.1.below b2 lc
  have zd := HH.out.2.1.below b2 ld
  have zw := HH.out.2.2.below b2 lw
  have q0 : ∀ X : Cls fun W => But (fun j => j = w.heap.size) W2.heap.size W2 W, X.W.cell? ⟨gc, 0, none⟩ = some (.int .u64 n) := fun X => but_cell' (fun _ h => h) X (zc.cell 0) zc.lt (by omega)
  have q1 : ∀ X : Cls fun W => But (fun j => j = w.heap.size) W2.heap.size W2 W, X.W.cell? ⟨gc, 1, none⟩ = some (.int .i64 m) := fun X => but_cell' (fun _ h => h) X (zc.cell 1) zc.lt (by omega)
  have q2 : ∀ X : Cls fun W => But (fun j => j = w.heap.size) W2.heap.size W2 W, X.W.cell? ⟨gd, 0, none⟩ = some (.pointer d) := fun X => but_cell' (fun _ h => h) X (zd.cell 0) zd.lt (by omega)
  have q4 : ∀ X : Cls fun W => But (fun j => j = w.heap.size) W2.heap.size W2 W, X.W.cell? ⟨gw, 0, none⟩ = some (.bool wt) := fun X => but_cell' (fun _ h => h) X (zw.cell 0) zw.lt (by omega)
  have f0 := z4.frozen 0
  have f1 := z4.frozen 1
  have f2 := z4.frozen 2
  have f3 := z4.frozen 3
  have c0 := z4.cell 0
  have c1 := z4.cell 1
  have c2 := z4.cell 2
  have c3 := z4.cell 3
  have HZ := Lib.hid (And.intro z4 b2)
  clear hW2 b2 z4 zc zd zw
  have hfin : ∀ W, W = ((((W2.drew.setCell ⟨w.heap.size, 0, none⟩ (.int .i64 2)).setCell ⟨w.heap.size, 1, none⟩ (.int .u64 n)).setCell ⟨w.heap.size, 2, none⟩ (.int .i64 m)).setCell ⟨w.heap.size, 3, none⟩ (.pointer d)) → Blk W w.heap.size 33 (chA 2 n m d) ∧ Below w.heap.size w W := fun W h => by
    subst h
    exact ⟨(((HZ.out.1.drew.set_ 0 _).set_ 1 _).set_ 2 _).set_ 3 _, (((HZ.out.2.drew.setCell (p := ⟨w.heap.size, 0, none⟩) (Nat.le_refl _) _).setCell (p := ⟨w.heap.size, 1, none⟩) (Nat.le_refl _) _).setCell (p := ⟨w.heap.size, 2, none⟩) (Nat.le_refl _) _).setCell (p := ⟨w.heap.size, 3, none⟩) (Nat.le_refl _) _⟩
  have hbut : ∀ W, W = ((((W2.drew.setCell ⟨w.heap.size, 0, none⟩ (.int .i64 2)).setCell ⟨w.heap.size, 1, none⟩ (.int .u64 n)).setCell ⟨w.heap.size, 2, none⟩ (.int .i64 m)).setCell ⟨w.heap.size, 3, none⟩ (.pointer d)) → But (fun j => j = w.heap.size) W2.heap.size W2 W := fun W h => by
    subst h
    exact (((((But.refl (fun j => j = w.heap.size) W2.heap.size W2).drew.setCell (p := ⟨w.heap.size, 0, none⟩) (fun _ => rfl) _).setCell (p := ⟨w.heap.size, 1, none⟩) (fun _ => rfl) _).setCell (p := ⟨w.heap.size, 2, none⟩) (fun _ => rfl) _).setCell (p := ⟨w.heap.size, 3, none⟩) (fun _ => rfl) _)
  refine wp_region_sub [7] (fun W => But (fun j => j = w.heap.size) W2.heap.size W2 W) (by kernel_rfl) (by kernel_rfl) ((But.refl _ _ _).drew) (fun _ => ?_)
  iterate 7 (refine mix_read (by kernel_rfl) (by rfl) (by rfl) (by rfl) (of_decide_eq_true (by kernel_rfl)) ?_; apply Exists.intro; apply Exists.intro; refine ⟨fun w' hw' K hK => ?_, ?_, ?_⟩; (obtain ⟨X, rfl⟩ := hw'; go_wp2_with fail; first | exact ⟨rfl, rfl⟩ | exact rfl); rfl)
  (refine mix_act (by rfl) (by rfl) (fun K hK => ?_))
  go_wp2_with fail
  refine ⟨.mk (hbut _ rfl), ?_⟩
  (refine mix_read (by kernel_rfl) (by rfl) (by rfl) (by rfl) (of_decide_eq_true (by kernel_rfl)) ?_; apply Exists.intro; apply Exists.intro; refine ⟨fun w' hw' K hK => ?_, ?_, ?_⟩; (obtain ⟨X, rfl⟩ := hw'; go_wp2_with fail; first | exact ⟨rfl, rfl⟩ | exact rfl); rfl)
  refine mix_nil ?_
  go_wp2_with fail
  refine bodyPost_ret (res_cell_tmp rfl _ _ w.heap.size 33 _ _ rfl (hfin _ rfl).1 Try.underlying33 rfl (by kernel_rfl)) rfl ⟨rfl, (hfin _ rfl).2⟩

set_option maxHeartbeats 1000000 in
theorem none_rule (gd : Nat) (d : Option Addr) (w : World) (hd : Blk w gd 25 #[.pointer d]) :
    Calls Try.prog 29 #[.pointer (some ⟨gd, 0, none⟩)] w fun e w' => e = .returned (.tuple #[.agg (chA 0 0 0 d), .bool true]) ∧ Below w.heap.size w w' := by
  have ld := hd.lt
  have c0 := hd.cell 0
  clear hd
  go_enter Try.func29, Try.ntmps29
  go_wp2_with fail
  refine bodyPost_ret (res_cell_tmp rfl _ _ w.heap.size 33 _ _ rfl (Blk.new _ _ _) Try.underlying33 rfl (by kernel_rfl)) rfl ⟨rfl, (Below.refl _ _).alloc (Nat.le_refl _) _⟩

end Go.Proofs.Ytnhbcpopnhdhiaa
