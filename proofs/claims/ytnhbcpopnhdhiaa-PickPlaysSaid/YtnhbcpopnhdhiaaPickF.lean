/- The first rule that answers; Pick. -/
import Derived.Test.YtnhbcpopnhdhiaaPickE
set_option linter.unusedSimpArgs false
set_option linter.unusedVariables false
namespace Go.Proofs.Ytnhbcpopnhdhiaa
open Go.RowKit Go.Shelf
attribute [local irreducible] wpMix

/-- A rule that answers c, if b. -/
def RuleC (w : World) (v : Value) (c : Array Value) (b : Bool) : Prop := ∃ K fs cap, v = .func (.func K) fs cap ∧ (∀ args w, (callFunc K args).run Try.prog w = .ok (.enter K args) w) ∧
  ∀ W, Below w.heap.size w W → Calls Try.prog K (fs ++ #[] ++ cap) W fun e W' => e = .returned (.tuple #[.agg c, .bool b]) ∧ Below W.heap.size W W'
def RuleS (w : World) (v : Value) (l : List Cv) (RN : List Int → Int → Option Addr → Nat → World → Prop) : Prop := ∃ K fs cap, v = .func (.func K) fs cap ∧ (∀ args w, (callFunc K args).run Try.prog w = .ok (.enter K args) w) ∧
  ∀ W, Below w.heap.size w W → Calls Try.prog K (fs ++ #[] ++ cap) W fun e W' => Below W.heap.size W W' ∧ ShareR l W RN e W'

/-- What is picked at last. -/
def OfR (l : List Cv) (w : World) (RN : List Int → Int → Option Addr → Nat → World → Prop) (p1 n1 m1 p2 n2 m2 : Int) (d : Option Addr) (b1 b2 : Bool) (e : Ending) (w' : World) : Prop :=
  Below w.heap.size w w' ∧ ((b1 = true ∧ e = .returned (.agg (chA p1 n1 m1 d))) ∨ (b1 = false ∧ b2 = true ∧ e = .returned (.agg (chA p2 n2 m2 d))) ∨
    (b1 = false ∧ b2 = false ∧ ∃ m nx N, w.heap.size ≤ N ∧ N ≤ w'.heap.size ∧ RN (wantL l) m nx N w' ∧
      e = .returned (.agg (match someP (fun x => x.2.1 == m) l with | some c => chA 3 c.1 c.2.1 nx | none => chA 0 0 0 d))))

set_option maxRecDepth 100000 in
set_option maxHeartbeats 4000000 in
theorem of_any (g : Nat) (v1 v2 v3 v4 : Value) (l : List Cv) (w : World) (RN : List Int → Int → Option Addr → Nat → World → Prop) (hS : Stab RN) (p1 n1 m1 p2 n2 m2 : Int) (d : Option Addr) (b1 b2 : Bool)
    (hB : Blk w g 57 #[v1, v2, v3, v4]) (h1 : RuleC w v1 (chA p1 n1 m1 d) b1) (h2 : RuleC w v2 (chA p2 n2 m2 d) b2) (h3 : RuleS w v3 l RN) (h4 : RuleC w v4 (chA 0 0 0 d) true) :
    Calls Try.prog 30 #[.slice (some ⟨g, 0, none⟩) 4 4] w (OfR l w RN p1 n1 m1 p2 n2 m2 d b1 b2) := by
  obtain ⟨K1, f1, q1, rfl, e1, k1⟩ := h1
  obtain ⟨K2, f2, q2, rfl, e2, k2⟩ := h2
  obtain ⟨K3, f3, q3, rfl, e3, k3⟩ := h3
  obtain ⟨K4, f4, q4, rfl, e4, k4⟩ := h4
  have HK := Lib.hid (And.intro k1 (And.intro k2 (And.intro k3 (And.intro k4 hB))))
  have hl := hB.lt
  have c0 := hB.cell 0
  clear k1 k2 k3 k4 hB
  simp only [Array.append_empty] at HK
  go_enter Try.func30, Try.ntmps30
  go_wp2_with fail
  refine wp_loop_rounds 5 ?_
  rw [rounds_succ]
  go_wp2_with fail
  have b0 : Below w.heap.size w (w.alloc (.cells #[.int .i64 0, .int .u64 0, .int .i64 0, .pointer none] 33)) := (Below.refl _ _).alloc (Nat.le_refl _) _
  refine (HK.out.1 _ b0).mono ?_
  rintro e w1 ⟨rfl, hb⟩
  have z0 := (Blk.new w 33 #[.int .i64 0, .int .u64 0, .int .i64 0, .pointer none]).below hb (by simp)
  have H1 := Lib.hid (And.intro z0 (b0.trans (hb.mono (by simp))))
  have lz := z0.lt
  clear c0 b0 hb
  have f0 := z0.frozen 0
  have f1 := z0.frozen 1
  have f2 := z0.frozen 2
  have f3 := z0.frozen 3
  have c0 := z0.cell 0
  have c1 := z0.cell 1
  have c2 := z0.cell 2
  have c3 := z0.cell 3
  clear z0
  simp only [chA]
  cases b1 with
  | true =>
    go_wp2_with fail
    have hfin := (((H1.out.1.set_ 0 (.int .i64 p1)).set_ 1 (.int .u64 n1)).set_ 2 (.int .i64 m1)).set_ 3 (.pointer d)
    have hbb : ∀ o, Below w.heap.size w (((((w1.setCell ⟨w.heap.size, 0, none⟩ (.int .i64 p1)).setCell ⟨w.heap.size, 1, none⟩ (.int .u64 n1)).setCell ⟨w.heap.size, 2, none⟩ (.int .i64 m1)).setCell ⟨w.heap.size, 3, none⟩ (.pointer d)).alloc o) := fun o =>
      ((((H1.out.2.setCell (p := ⟨w.heap.size, 0, none⟩) (Nat.le_refl _) _).setCell (p := ⟨w.heap.size, 1, none⟩) (Nat.le_refl _) _).setCell (p := ⟨w.heap.size, 2, none⟩) (Nat.le_refl _) _).setCell (p := ⟨w.heap.size, 3, none⟩) (Nat.le_refl _) _).alloc (by have := H1.out.2.size; simpa [World.setCell] using this) _
    refine bodyPost_ret (results_cell_row rfl _ _ w.heap.size 33 _ (0, 0) _ rfl (hfin.alloc _) Try.underlying33 rfl (by kernel_rfl)) rfl ⟨hbb _, .inl ⟨rfl, rfl⟩⟩
  | false =>
    clear f0 f1 f2 f3 c0 c1 c2 c3
    have lg := Nat.lt_of_lt_of_le hl H1.out.2.size
    have cB := (HK.out.2.2.2.2.below H1.out.2 hl).cell 1
    go_wp2_with fail
    rw [rounds_succ]
    go_wp2_with fail
    generalize hW : World.alloc _ _ = W1
    have hb1 : Below w.heap.size w W1 := by rw [← hW]; exact H1.out.2.alloc (by have := H1.out.2.size; omega) _
    have zr := (by rw [← hW]; exact H1.out.1.alloc _ : Blk W1 w.heap.size 33 _)
    clear hW
    refine (HK.out.2.1 _ hb1).mono ?_
    rintro e w2 ⟨rfl, hb⟩
    have z0 := zr.below hb zr.lt
    have H2 := Lib.hid (And.intro z0 (hb1.trans (hb.mono hb1.size)))
    have lz := z0.lt
    clear hb hb1 zr cB
    have f0 := z0.frozen 0
    have f1 := z0.frozen 1
    have f2 := z0.frozen 2
    have f3 := z0.frozen 3
    have c0 := z0.cell 0
    have c1 := z0.cell 1
    have c2 := z0.cell 2
    have c3 := z0.cell 3
    clear z0
    simp only [chA]
    cases b2 with
    | true =>
      go_wp2_with fail
      have hfin := (((H2.out.1.set_ 0 (.int .i64 p2)).set_ 1 (.int .u64 n2)).set_ 2 (.int .i64 m2)).set_ 3 (.pointer d)
      have hbb : ∀ o, Below w.heap.size w (((((w2.setCell ⟨w.heap.size, 0, none⟩ (.int .i64 p2)).setCell ⟨w.heap.size, 1, none⟩ (.int .u64 n2)).setCell ⟨w.heap.size, 2, none⟩ (.int .i64 m2)).setCell ⟨w.heap.size, 3, none⟩ (.pointer d)).alloc o) := fun o =>
        ((((H2.out.2.setCell (p := ⟨w.heap.size, 0, none⟩) (Nat.le_refl _) _).setCell (p := ⟨w.heap.size, 1, none⟩) (Nat.le_refl _) _).setCell (p := ⟨w.heap.size, 2, none⟩) (Nat.le_refl _) _).setCell (p := ⟨w.heap.size, 3, none⟩) (Nat.le_refl _) _).alloc (by have := H2.out.2.size; simpa [World.setCell] using this) _
      refine bodyPost_ret (results_cell_row rfl _ _ w.heap.size 33 _ (0, 0) _ rfl (hfin.alloc _) Try.underlying33 rfl (by kernel_rfl)) rfl ⟨hbb _, .inr (.inl ⟨rfl, rfl, rfl⟩)⟩
    | false =>
      clear f0 f1 f2 f3 c0 c1 c2 c3
      have lg := Nat.lt_of_lt_of_le hl H2.out.2.size
      have cB := (HK.out.2.2.2.2.below H2.out.2 hl).cell 2
      go_wp2_with fail
      rw [rounds_succ]
      go_wp2_with fail
      generalize hW : World.alloc _ _ = W2
      have hb2 : Below w.heap.size w W2 := by rw [← hW]; exact H2.out.2.alloc (by have := H2.out.2.size; omega) _
      have zr := (by rw [← hW]; exact H2.out.1.alloc _ : Blk W2 w.heap.size 33 _)
      clear hW
      refine (HK.out.2.2.1 _ hb2).mono ?_
      rintro e w3 ⟨hb, m, nx, N, hN1, hN2, hrn, rfl⟩
      have z0 := zr.below hb zr.lt
      have hNw : w.heap.size < N := Nat.lt_of_le_of_lt hb2.size hN1
      have H3 := Lib.hid (And.intro z0 (And.intro (hb2.trans (hb.mono hb2.size)) hrn))
      have lz := z0.lt
      clear hb hb2 zr cB hrn
      have f0 := z0.frozen 0
      have f1 := z0.frozen 1
      have f2 := z0.frozen 2
      have f3 := z0.frozen 3
      have c0 := z0.cell 0
      have c1 := z0.cell 1
      have c2 := z0.cell 2
      have c3 := z0.cell 3
      clear z0
      simp only [chA]
      cases hsm : someP (fun x => x.2.1 == m) l with
      | some c =>
        have HSM := Lib.hid hsm
        clear hsm
        obtain ⟨n, m', vo, ol⟩ := c
        simp only [Option.getD_some, Option.isSome_some]
        go_wp2_with fail
        have hfin := (((H3.out.1.set_ 0 (.int .i64 3)).set_ 1 (.int .u64 n)).set_ 2 (.int .i64 m')).set_ 3 (.pointer nx)
        have hbb : ∀ o, Below w.heap.size w (((((w3.setCell ⟨w.heap.size, 0, none⟩ (.int .i64 3)).setCell ⟨w.heap.size, 1, none⟩ (.int .u64 n)).setCell ⟨w.heap.size, 2, none⟩ (.int .i64 m')).setCell ⟨w.heap.size, 3, none⟩ (.pointer nx)).alloc o) := fun o =>
          ((((H3.out.2.1.setCell (p := ⟨w.heap.size, 0, none⟩) (Nat.le_refl _) _).setCell (p := ⟨w.heap.size, 1, none⟩) (Nat.le_refl _) _).setCell (p := ⟨w.heap.size, 2, none⟩) (Nat.le_refl _) _).setCell (p := ⟨w.heap.size, 3, none⟩) (Nat.le_refl _) _).alloc (by have := H3.out.2.1.size; simpa [World.setCell] using this) _
        have hbt : ∀ o, But (fun j => j < N) w3.heap.size w3 (((((w3.setCell ⟨w.heap.size, 0, none⟩ (.int .i64 3)).setCell ⟨w.heap.size, 1, none⟩ (.int .u64 n)).setCell ⟨w.heap.size, 2, none⟩ (.int .i64 m')).setCell ⟨w.heap.size, 3, none⟩ (.pointer nx)).alloc o) := fun o =>
          (((((But.refl (fun j => j < N) w3.heap.size w3).setCell (p := ⟨w.heap.size, 0, none⟩) (fun _ => hNw) _).setCell (p := ⟨w.heap.size, 1, none⟩) (fun _ => hNw) _).setCell (p := ⟨w.heap.size, 2, none⟩) (fun _ => hNw) _).setCell (p := ⟨w.heap.size, 3, none⟩) (fun _ => hNw) _).alloc (by simp [World.setCell]) o
        refine bodyPost_ret (results_cell_row rfl _ _ w.heap.size 33 _ (0, 0) _ rfl (hfin.alloc _) Try.underlying33 rfl (by kernel_rfl)) rfl ⟨hbb _, .inr (.inr ⟨rfl, rfl, m, nx, N, Nat.le_of_lt hNw, Nat.le_trans hN2 (hbt _).size, hS _ _ _ _ _ _ H3.out.2.2 (hbt _), by rw [HSM.out]; rfl⟩)⟩
      | none =>
        have HSM := Lib.hid hsm
        clear hsm
        simp only [Option.getD_none, Option.isSome_none]
        clear f0 f1 f2 f3 c0 c1 c2 c3
        have lg := Nat.lt_of_lt_of_le hl H3.out.2.1.size
        have cB := (HK.out.2.2.2.2.below H3.out.2.1 hl).cell 3
        go_wp2_with fail
        rw [rounds_succ]
        go_wp2_with fail
        generalize hW : World.alloc _ _ = W3
        have hb3 : Below w.heap.size w W3 := by rw [← hW]; exact H3.out.2.1.alloc (by have := H3.out.2.1.size; omega) _
        have zr := (by rw [← hW]; exact H3.out.1.alloc _ : Blk W3 w.heap.size 33 _)
        have b33 : Below w3.heap.size w3 W3 := by rw [← hW]; exact (Below.refl _ _).alloc (Nat.le_refl _) _
        clear hW
        refine (HK.out.2.2.2.1 _ hb3).mono ?_
        rintro e w4 ⟨rfl, hb⟩
        have z0 := zr.below hb zr.lt
        have H4 := Lib.hid (And.intro z0 (And.intro (hb3.trans (hb.mono hb3.size)) (b33.trans (hb.mono b33.size))))
        have lz := z0.lt
        clear hb hb3 zr cB b33
        have f0 := z0.frozen 0
        have f1 := z0.frozen 1
        have f2 := z0.frozen 2
        have f3 := z0.frozen 3
        have c0 := z0.cell 0
        have c1 := z0.cell 1
        have c2 := z0.cell 2
        have c3 := z0.cell 3
        clear z0
        simp only [chA]
        go_wp2_with fail
        have hfin := (((H4.out.1.set_ 0 (.int .i64 0)).set_ 1 (.int .u64 0)).set_ 2 (.int .i64 0)).set_ 3 (.pointer d)
        have hbb : ∀ o, Below w.heap.size w (((((w4.setCell ⟨w.heap.size, 0, none⟩ (.int .i64 0)).setCell ⟨w.heap.size, 1, none⟩ (.int .u64 0)).setCell ⟨w.heap.size, 2, none⟩ (.int .i64 0)).setCell ⟨w.heap.size, 3, none⟩ (.pointer d)).alloc o) := fun o =>
          ((((H4.out.2.1.setCell (p := ⟨w.heap.size, 0, none⟩) (Nat.le_refl _) _).setCell (p := ⟨w.heap.size, 1, none⟩) (Nat.le_refl _) _).setCell (p := ⟨w.heap.size, 2, none⟩) (Nat.le_refl _) _).setCell (p := ⟨w.heap.size, 3, none⟩) (Nat.le_refl _) _).alloc (by have := H4.out.2.1.size; simpa [World.setCell] using this) _
        have hbt : ∀ o, But (fun j => j < N) w3.heap.size w3 (((((w4.setCell ⟨w.heap.size, 0, none⟩ (.int .i64 0)).setCell ⟨w.heap.size, 1, none⟩ (.int .u64 0)).setCell ⟨w.heap.size, 2, none⟩ (.int .i64 0)).setCell ⟨w.heap.size, 3, none⟩ (.pointer d)).alloc o) := fun o =>
          (((((But.of_below H4.out.2.2).setCell (p := ⟨w.heap.size, 0, none⟩) (fun _ => hNw) _).setCell (p := ⟨w.heap.size, 1, none⟩) (fun _ => hNw) _).setCell (p := ⟨w.heap.size, 2, none⟩) (fun _ => hNw) _).setCell (p := ⟨w.heap.size, 3, none⟩) (fun _ => hNw) _).alloc (by have := H4.out.2.2.size; simpa [World.setCell] using this) o
        refine bodyPost_ret (results_cell_row rfl _ _ w.heap.size 33 _ (0, 0) _ rfl (hfin.alloc _) Try.underlying33 rfl (by kernel_rfl)) rfl ⟨hbb _, .inr (.inr ⟨rfl, rfl, m, nx, N, Nat.le_of_lt hNw, Nat.le_trans hN2 (hbt _).size, hS _ _ _ _ _ _ H3.out.2.2 (hbt _), by rw [HSM.out]; rfl⟩)⟩

end Go.Proofs.Ytnhbcpopnhdhiaa
