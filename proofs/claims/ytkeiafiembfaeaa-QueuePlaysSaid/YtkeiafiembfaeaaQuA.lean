/- A ring of packets: New, Len, Put, First, Take. -/
import Derived.Test.YtkeiafiembfaeaaProg
import Derived.Test.YtkeiafiembfaeaaSlT
import Derived.Test.YtkeiafiembfaeaaSl2
import Derived.Test.YtkeiafiembfaeaaRes
import Derived.Test.YtkeiafiembfaeaaOpen
import Derived.BigQuiet
import Derived.WalkSmall
import Derived.Deep.CutRange
import Derived.Deep.CutBlock
set_option linter.unusedSimpArgs false
set_option linter.unusedVariables false
namespace Go.Proofs.Ytkeiafiembfaeaa
open Go.RowKit
attribute [local irreducible] wpMix

/-- A packet: number, (terminal, class, bytes), time. -/
abbrev Pk := Int × (Int × Int × ByteArray) × Int
def pC (p : Pk) : List Value := [.int .u64 p.1, .int .i64 p.2.1.1, .int .i64 p.2.1.2.1, .string p.2.1.2.2, .int .u64 p.2.2]
theorem pC_len (p : Pk) : (pC p).length = 5 := rfl
abbrev pV (p : Pk) : Value := .agg #[.int .u64 p.1, .int .i64 p.2.1.1, .int .i64 p.2.1.2.1, .string p.2.1.2.2, .int .u64 p.2.2]
theorem pk_info : (Try.prog.info? 37).map (fun i => (i.zero, i.size, i.bytes)) = some (some (.agg #[.int .u64 0, .int .i64 0, .int .i64 0, .string ByteArray.empty, .int .u64 0]), 5, 48) := by kernel_rfl

/-- Block b is a ring that has the packets l; v: its slice. -/
def RingAt (w : World) (b : Nat) (room : Int) (v : Value) (l : List Pk) : Prop :=
  Blk w b 79 #[.int .i64 room, v] ∧ OwnsAt w 0 37 5 v l.length (l.flatMap pC) ∧ v.ownBlock ≠ some b

theorem ringNew_yes (n : Int) (w : World) (h : 1 ≤ n ∧ n ≤ 65536) : Calls Try.prog 24 #[.int .i64 n] w fun e w' => e = .returned (.pointer (some ⟨w.heap.size, 0, none⟩)) ∧ Below w.heap.size w w' ∧ RingAt w' w.heap.size n (.slice none 0 0) [] := by
  obtain ⟨h1, h2⟩ := h
  have g1 : decide (n < 1) = false := by rw [decide_eq_false_iff_not]; omega
  have g2 : decide (65536 < n) = false := by rw [decide_eq_false_iff_not]; omega
  go_enter Try.func24, Try.ntmps24
  go_wp2_with fail
  go_ret
  exact ⟨rfl, (Below.refl _ _).alloc (Nat.le_refl _) _, Blk.new _ _ _, OwnsAt.nil _ _ _ _, by simp [Value.ownBlock]⟩

theorem ringLen (b : Nat) (room : Int) (v : Value) (l : List Pk) (w : World) (h : RingAt w b room v l) : Calls Try.prog 34 #[.pointer (some ⟨b, 0, none⟩)] w fun e w' => e = .returned (.int .i64 l.length) ∧ w = w' := by
  obtain ⟨hB, ho, hne⟩ := h
  obtain ⟨A, cap, rfl, _⟩ := ho.len
  have c1 := hB.cell 1
  have hl := hB.lt
  clear hB ho hne
  go_enter Try.func34, Try.ntmps34
  go_wp2_with fail
  go_ret
  exact ⟨rfl, rfl⟩

def noPk : Pk := (0, (0, 0, ByteArray.empty), 0)
theorem ringFirst_nil (b : Nat) (room : Int) (v : Value) (w : World) (h : RingAt w b room v []) : Calls Try.prog 40 #[.pointer (some ⟨b, 0, none⟩)] w fun e w' => e = .returned (.tuple #[pV noPk, .bool false]) ∧ Below w.heap.size w w' := by
  obtain ⟨hB, ho, hne⟩ := h
  obtain ⟨A, cap, rfl, _⟩ := ho.len
  have c1 := hB.cell 1
  have hl := hB.lt
  clear hB ho hne
  go_enter Try.func40, Try.ntmps40
  go_wp2_with fail
  refine bodyPost_ret (res_cell_tmp rfl _ _ w.heap.size 37 _ _ rfl (Blk.new w _ _) Try.underlying37 rfl (by kernel_rfl)) rfl ⟨rfl, ?_⟩
  exact (Below.refl _ _).alloc (Nat.le_refl _) _

theorem ringFirst (b : Nat) (room : Int) (v : Value) (p : Pk) (l : List Pk) (w : World) (h : RingAt w b room v (p :: l)) : Calls Try.prog 40 #[.pointer (some ⟨b, 0, none⟩)] w fun e w' => e = .returned (.tuple #[pV p, .bool true]) ∧ Below w.heap.size w w' := by
  obtain ⟨hB, ho, hne⟩ := h
  obtain ⟨A, cap, rfl, _⟩ := ho.len
  have c1 := hB.cell 1
  have hl := hB.lt
  obtain ⟨b1, o1, cap', he', hbl, _, _, hx⟩ := ho.sl.some (by simp)
  cases he'
  obtain ⟨n, ⟨t, c, s⟩, at'⟩ := p
  have e0 := hx 0 _ rfl
  have e1 := hx 1 _ rfl
  have e2 := hx 2 _ rfl
  have e3 := hx 3 _ rfl
  have e4 := hx 4 _ rfl
  simp only [Nat.add_zero] at e0
  have hn0 : (((List.length ((n, (t, c, s), at') :: l) : Nat) : Int) == 0) = false := by rw [beq_eq_false_iff_ne, List.length_cons]; omega
  have hn1 : (0 : Int) < ((List.length ((n, (t, c, s), at') :: l) : Nat) : Int) := by rw [List.length_cons]; omega
  generalize List.length ((n, (t, c, s), at') :: l) = N at *
  clear hB ho hne hx
  go_enter Try.func40, Try.ntmps40
  go_wp2_with fail
  refine bodyPost_ret (res_cell_tmp rfl _ _ w.heap.size 37 _ _ rfl (Blk.new w _ _) Try.underlying37 rfl (by kernel_rfl)) rfl ⟨rfl, ?_⟩
  exact (Below.refl _ _).alloc (Nat.le_refl _) _

theorem but_grown {w w' : World} {row : Option Nat} (h : w.grownBy w' row) (S : Nat → Prop) (hS : ∀ k, row = some k → S k) : But S w.heap.size w w' :=
  ⟨h.os, h.tape, h.output, h.size, fun k hk hs => h.block k hk (fun e => hs (hS k e.symm))⟩
theorem ringPut_full (b : Nat) (room : Int) (v : Value) (l : List Pk) (p : Pk) (w : World) (h : RingAt w b room v l) (hr : room ≤ l.length) : Calls Try.prog 37 #[.pointer (some ⟨b, 0, none⟩), pV p] w fun e w' => e = .returned (.int .i64 6) ∧ Below w.heap.size w w' := by
  obtain ⟨hB, ho, hne⟩ := h
  obtain ⟨A, cap, rfl, _⟩ := ho.len
  obtain ⟨n, ⟨t, c, s⟩, at'⟩ := p
  have c0 := hB.cell 0
  have c1 := hB.cell 1
  have hl := hB.lt
  generalize hN : l.length = N at *
  have g1 : decide (room ≤ (N : Int)) = true := by rw [decide_eq_true_iff]; omega
  have HB := Lib.hid (And.intro hB (And.intro ho hne))
  clear hB ho hne
  go_enter Try.func37, Try.ntmps37
  go_upto_region 3 with fail
  have hlw : b < (w.alloc (.cells #[.int .u64 n, .int .i64 t, .int .i64 c, .string s, .int .u64 at'] 37)).heap.size := by simp; omega
  go_quiet (fail)
  go_wp2_with fail
  go_ret
  exact ⟨rfl, below_drewN ((Below.refl _ _).alloc (Nat.le_refl _) _) _⟩

theorem Blk.drewN {w : World} {g : Nat} {t : TypeId} {cs : Array Value} (h : Blk w g t cs) (q : Nat) : Blk (w.drewN q) g t cs := h
/-- A ring that has got a packet more. -/
def RingPut (b : Nat) (room : Int) (v : Value) (l : List Pk) (w w' : World) : Prop :=
  ∃ v', RingAt w' b room v' l ∧ But (fun k => k = b ∨ v.ownBlock = some k) w.heap.size w w' ∧ (v'.ownBlock = v.ownBlock ∨ ∃ g, v'.ownBlock = some g ∧ w.heap.size ≤ g)
set_option maxRecDepth 100000 in
set_option maxHeartbeats 4000000 in
theorem ringPut (b : Nat) (room : Int) (v : Value) (l : List Pk) (p : Pk) (w : World) (h : RingAt w b room v l) (hr : (l.length : Int) < room) (hm : room ≤ 65536) :
    Calls Try.prog 37 #[.pointer (some ⟨b, 0, none⟩), pV p] w fun e w' => e = .returned (.int .i64 0) ∧ RingPut b room v (l ++ [p]) w w' := by
  obtain ⟨hB, ho, hne⟩ := h
  obtain ⟨A, cap, rfl, hcap⟩ := ho.len
  obtain ⟨n, ⟨t, c, s⟩, at'⟩ := p
  have hN' : (l ++ [(n, (t, c, s), at')]).length = l.length + 1 := by simp
  have hF' : (l ++ [(n, (t, c, s), at')]).flatMap pC = l.flatMap pC ++ [.int .u64 n, .int .i64 t, .int .i64 c, .string s, .int .u64 at'] := by rw [List.flatMap_append, List.flatMap_cons, List.flatMap_nil, List.append_nil]; rfl
  unfold RingPut RingAt
  rw [hN', hF']
  clear hN' hF'
  generalize l.flatMap pC = xs at *
  generalize l.length = N at *
  have c0 := hB.cell 0
  have c1 := hB.cell 1
  have f1 := hB.frozen 1
  have hlb := hB.lt
  have g1 : decide (room ≤ (N : Int)) = false := by rw [decide_eq_false_iff_not]; omega
  have HB := Lib.hid (And.intro hB hne)
  obtain ⟨i0, hi, hz0, hz1, hz2⟩ := info_parts pk_info
  clear hB hne
  go_enter Try.func37, Try.ntmps37
  go_upto_region 3 with fail
  have hlw : b < (w.alloc (.cells #[.int .u64 n, .int .i64 t, .int .i64 c, .string s, .int .u64 at'] 37)).heap.size := by simp; omega
  go_quiet (fail)
  go_upto_region 5 with fail
  have hb0' : ∀ q, Below w.heap.size w ((w.alloc (.cells #[.int .u64 n, .int .i64 t, .int .i64 c, .string s, .int .u64 at'] 37)).drewN q) := fun q => below_drewN ((Below.refl _ _).alloc (Nat.le_refl _) _) _
  have k3' : ∀ q, Blk ((w.alloc (.cells #[.int .u64 n, .int .i64 t, .int .i64 c, .string s, .int .u64 at'] 37)).drewN q) w.heap.size 37 #[.int .u64 n, .int .i64 t, .int .i64 c, .string s, .int .u64 at'] := fun q => (Blk.new w _ _).drewN q
  have hb0 := hb0' nq
  have k3 := k3' nq
  clear hb0' k3'
  generalize World.drewN _ _ = W0 at hb0 k3 ⊢
  have kb := HB.out.1.below hb0 hlb
  have d0 := k3.cell 0
  have d1 := k3.cell 1
  have d2 := k3.cell 2
  have d3 := k3.cell 3
  have d4 := k3.cell 4
  have e1 := kb.cell 1
  have hl0 := k3.lt
  have hlb0 := kb.lt
  have o0 := ho.below hb0
  obtain ⟨S, hSd⟩ : ∃ S : Nat → Prop, ∀ k, S k ↔ (Value.slice A N cap).ownBlock = some k := ⟨_, fun _ => Iff.rfl⟩
  have hSb : ¬ S b := fun h => HB.out.2 ((hSd b).1 h)
  have hSw : ¬ S w.heap.size := fun h => by have := (ho.lt _ ((hSd _).1 h)).2; omega
  have q1 : ∀ X : Cls fun W => But S W0.heap.size W0 W, X.W.cell? ⟨b, 1, none⟩ = some (.slice A N cap) := fun X => (but_cell X _ _ hlb0 hSb).trans e1
  have r0 : ∀ X : Cls fun W => But S W0.heap.size W0 W, X.W.cell? ⟨w.heap.size, 0, none⟩ = some (.int .u64 n) := fun X => (but_cell X _ _ hl0 hSw).trans d0
  have r1 : ∀ X : Cls fun W => But S W0.heap.size W0 W, X.W.cell? ⟨w.heap.size, 1, none⟩ = some (.int .i64 t) := fun X => (but_cell X _ _ hl0 hSw).trans d1
  have r2 : ∀ X : Cls fun W => But S W0.heap.size W0 W, X.W.cell? ⟨w.heap.size, 2, none⟩ = some (.int .i64 c) := fun X => (but_cell X _ _ hl0 hSw).trans d2
  have r3 : ∀ X : Cls fun W => But S W0.heap.size W0 W, X.W.cell? ⟨w.heap.size, 3, none⟩ = some (.string s) := fun X => (but_cell X _ _ hl0 hSw).trans d3
  have r4 : ∀ X : Cls fun W => But S W0.heap.size W0 W, X.W.cell? ⟨w.heap.size, 4, none⟩ = some (.int .u64 at') := fun X => (but_cell X _ _ hl0 hSw).trans d4
  have HK := Lib.hid (And.intro hb0 (And.intro kb (And.intro o0 hSd)))
  clear k3 kb hb0 ho o0 c0 c1 f1 d0 d1 d2 d3 d4 e1 hSd hlw
  refine wp_region_sub [6, 7, 10] (fun W => But S W0.heap.size W0 W) (by kernel_rfl) (by kernel_rfl) ((But.refl _ _ _).drew) (fun _ => ?_)
  iterate 6 (refine mix_read (by kernel_rfl) (by rfl) (by rfl) (by rfl) (of_decide_eq_true (by kernel_rfl)) ?_; apply Exists.intro; apply Exists.intro; refine ⟨fun w' hw' K hK => ?_, ?_, ?_⟩; (obtain ⟨X, rfl⟩ := hw'; go_wp2_with fail; first | exact ⟨rfl, rfl⟩ | exact rfl); rfl)
  (refine mix_act (by rfl) (by rfl) (fun K hK => ?_))
  go_wp2_with fail
  refine ⟨.mk ((But.refl S _ _).alloc (Nat.le_refl _) _).drew, ?_⟩
  (refine mix_act (by rfl) (by rfl) (fun K hK => ?_))
  refine wp_append_at (.tmp 23) (.tmp 25) 43 rfl 0 37 i0 (.agg #[.int .u64 0, .int .i64 0, .int .i64 0, .string ByteArray.empty, .int .u64 0]) 5 48 Try.underlying43 hi hz0 hz1 hz2 rfl (by decide) (.slice A N cap) N xs rfl (HK.out.2.2.1.below ((Below.refl _ _).alloc (Nat.le_refl _) _).drew) ⟨W0.heap.size, 0, none⟩ 1 [.int .u64 n, .int .i64 t, .int .i64 c, .string s, .int .u64 at'] rfl rfl
    (fun j u hj => by rw [Addr.add_lit, Nat.zero_add, (Blk.new W0 37 #[.int .u64 n, .int .i64 t, .int .i64 c, .string s, .int .u64 at']).drew.cell j, ← Array.getElem?_toList]; exact hj) (fun u hu => by simp at hu; rcases hu with rfl | rfl | rfl | rfl | rfl <;> rfl) (Nat.zero_le _) (by unfold maxLen; omega) (by omega) ?_
  intro v' w1 ho1 hg1 hv1
  obtain ⟨A', cap', rfl, hcap'⟩ := ho1.len
  have hB1 : Blk w1 b 79 #[.int .i64 room, .slice A N cap] := (hg1.block b (by simp; omega) (fun e => HB.out.2 e.symm)).trans ((HK.out.2.1.alloc _).drew)
  have hb1 : But S W0.heap.size W0 w1 := ((But.refl S _ _).alloc (Nat.le_refl _) _).drew.trans ((but_grown hg1 S (fun k hk => (HK.out.2.2.2 k).2 hk)).mono (by simp) (fun k _ h => h))
  have c1' := hB1.cell 1
  have f1' := hB1.frozen 1
  have HB1 := Lib.hid (And.intro hB1 hb1)
  clear hB1 hb1 q1 r0 r1 r2 r3 r4
  (simp [Act.put])
  refine hK _ _ ⟨.mk HB1.out.2, ?_⟩
  iterate 2 (refine mix_read (by kernel_rfl) (by rfl) (by rfl) (by rfl) (of_decide_eq_true (by kernel_rfl)) ?_; apply Exists.intro; apply Exists.intro; refine ⟨fun w' hw' K hK => ?_, ?_, ?_⟩; (obtain ⟨X, rfl⟩ := hw'; go_wp2_with fail; first | exact ⟨rfl, rfl⟩ | exact rfl); rfl)
  (refine mix_last (by rfl) (by rfl) (by kernel_rfl) (fun K hK => ?_))
  go_wp2_with fail
  go_ret
  refine ⟨rfl, _, ⟨HB1.out.1.set_ 1 _, ?_, ?_⟩, ?_, ?_⟩
  · refine ho1.keep fun k hk => Below.heap_setCell _ _ _ _ ?_
    rcases hv1 with h | ⟨g, h, hg⟩
    · rw [h] at hk; rintro rfl; exact HB.out.2 hk
    · rw [h] at hk; cases hk; simp at hg; simp; omega
  · rcases hv1 with h | ⟨g, h, hg⟩
    · rw [h]; exact HB.out.2
    · rw [h]; intro e; cases e; simp at hg; omega
  · have e1 : But (fun k => k = b ∨ Value.ownBlock (.slice A N cap) = some k) w.heap.size w w1 := (But.of_below HK.out.1).trans (HB1.out.2.mono HK.out.1.size (fun k _ h => .inr ((HK.out.2.2.2 k).1 h)))
    exact e1.setCell (p := ⟨b, 1, none⟩) (fun _ => .inl rfl) _
  · rcases hv1 with h | ⟨g, h, hg⟩
    · exact .inl h
    · exact .inr ⟨g, h, by simp at hg; have := HK.out.1.size; omega⟩

end Go.Proofs.Ytkeiafiembfaeaa
