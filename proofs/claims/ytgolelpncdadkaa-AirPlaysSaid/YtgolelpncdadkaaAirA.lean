/- The air's rows, walked. -/
import Derived.Test.YtgolelpncdadkaaProg
import Derived.Test.YtgolelpncdadkaaOwn
import Derived.Test.YtgolelpncdadkaaReg
import Derived.Test.YtgolelpncdadkaaRes
import Derived.Test.YtgolelpncdadkaaOpen
set_option linter.unusedSimpArgs false
set_option linter.unusedVariables false
namespace Go.Proofs.Ytgolelpncdadkaa
open Go.RowKit

theorem int_info : (Try.prog.info? 3).map (fun i => (i.zero, i.size, i.bytes)) = some (some (.int .i64 0), 1, 8) := by kernel_rfl
theorem turn_info : (Try.prog.info? 56).map (fun i => (i.zero, i.size, i.bytes)) = some (some (.agg #[.int .i64 0, .int .i64 0]), 2, 16) := by kernel_rfl

/-- What put leaves: the row at field 1 of b. -/
def PutMask (b : Nat) (tv v1 v2 : Value) (n : Nat) (xs : List Value) (w : World) (w' : World) : Prop :=
  ∃ v', Blk w' b 49 #[tv, v', v2] ∧ OwnsAt w' 0 3 1 v' n xs ∧ But (fun k => k = b ∨ v1.ownBlock = some k) w.heap.size w w' ∧ (v'.ownBlock = v1.ownBlock ∨ ∃ g, v'.ownBlock = some g ∧ w.heap.size ≤ g)
def PutTurn (b : Nat) (tv v1 v2 : Value) (n : Nat) (xs : List Value) (w : World) (w' : World) : Prop :=
  ∃ v', Blk w' b 49 #[tv, v1, v'] ∧ OwnsAt w' 0 56 2 v' n xs ∧ But (fun k => k = b ∨ v2.ownBlock = some k) w.heap.size w w' ∧ (v'.ownBlock = v2.ownBlock ∨ ∃ g, v'.ownBlock = some g ∧ w.heap.size ≤ g)

theorem but_grown {w w' : World} {row : Option Nat} (h : w.grownBy w' row) (S : Nat → Prop) (hS : ∀ k, row = some k → S k) : But S w.heap.size w w' :=
  ⟨h.os, h.tape, h.output, h.size, fun k hk hs => h.block k hk (fun e => hs (hS k e.symm))⟩

set_option maxRecDepth 100000 in
set_option maxHeartbeats 1000000 in
theorem put_mask (b : Nat) (tv v1 v2 : Value) (n : Nat) (xs : List Value) (x : Int) (w : World) (hB : Blk w b 49 #[tv, v1, v2]) (ho : OwnsAt w 0 3 1 v1 n xs) (hne : v1.ownBlock ≠ some b) (hn : n < 4096) :
    Calls Try.prog 20 #[.pointer (some ⟨b, 1, none⟩), .int .i64 x] w fun e w' => e = .returned (.int .i64 0) ∧ PutMask b tv v1 v2 (n + 1) (xs ++ [.int .i64 x]) w w' := by
  obtain ⟨A, cap, rfl, hcap⟩ := ho.len
  have c1 := hB.cell 1
  have f1 := hB.frozen 1
  have hlb := hB.lt
  have hn' : (n : Int) < 4096 := by omega
  have HB := Lib.hid (And.intro hB hne)
  obtain ⟨i0, hi, hz0, hz1, hz2⟩ := info_parts int_info
  clear hB hne
  go_enter Try.func20, Try.ntmps20
  have hblk : OwnsAt (w.alloc (.cells #[.int .i64 x] 3)) 0 3 1 (.slice A n cap) n xs := ho.below ((Below.refl _ _).alloc (Nat.le_refl _) _)
  go_wp2_with (first
    | (at_builtin; refine wpList_append_at rfl (.tmp 15) (.tmp 17) 42 rfl 0 3 i0 (.int .i64 0) 1 8 Try.underlying42 hi hz0 hz1 hz2 rfl (by decide) _ n xs rfl hblk ⟨w.heap.size, 0, none⟩ 1 [.int .i64 x] rfl rfl (fun j u hj => by match j, hj with | 0, hj => (simp at hj; subst hj; exact (Blk.new _ _ _).cell 0)) (fun u hu => by simp at hu; subst hu; rfl) (Nat.zero_le _) (by unfold maxLen; omega) (by omega) ?_; intro v' w1 ho1 hg1 hv1; obtain ⟨A', cap', rfl, hcap'⟩ := ho1.len; have hB1 : Blk w1 b 49 #[tv, .slice A n cap, v2] := (hg1.block b (by simp; omega) (fun e => HB.out.2 e.symm)).trans (HB.out.1.alloc _); have c1' := hB1.cell 1; have f1' := hB1.frozen 1; have HB1 := Lib.hid hB1; clear hB1))
  go_ret
  refine ⟨rfl, _, HB1.out.set_ 1 _, ?_, ?_, ?_⟩
  · refine ho1.keep fun k hk => Below.heap_setCell _ _ _ _ ?_
    rcases hv1 with h | ⟨g, h, hg⟩
    · rw [h] at hk; rintro rfl; exact HB.out.2 hk
    · rw [h] at hk; cases hk; simp at hg; simp; omega
  · exact ((But.of_below ((Below.refl _ w).alloc (Nat.le_refl _) _)).trans ((but_grown hg1 (fun k => k = b ∨ Value.ownBlock (.slice A n cap) = some k) (fun k hk => .inr hk)).mono (by simp) (fun k _ h => h))).setCell (p := ⟨b, 1, none⟩) (fun _ => .inl rfl) _
  · rcases hv1 with h | ⟨g, h, hg⟩
    · exact .inl h
    · exact .inr ⟨g, h, by simp at hg; omega⟩

def flat (ts : List (Int × Int)) : List Value := ts.flatMap fun t => [.int .i64 t.1, .int .i64 t.2]
theorem flat_len (ts : List (Int × Int)) : (flat ts).length = ts.length * 2 := by
  induction ts with
  | nil => rfl
  | cons t ts ih => simp only [flat, List.flatMap_cons, List.length_append, List.length_cons, List.length_nil] at *; omega
theorem flat_snoc (ts : List (Int × Int)) (t : Int × Int) : flat (ts ++ [t]) = flat ts ++ [.int .i64 t.1, .int .i64 t.2] := by simp [flat]

attribute [local irreducible] wpMix

set_option maxRecDepth 100000 in
set_option maxHeartbeats 1000000 in
theorem put_turn (b : Nat) (tv v1 v2 : Value) (n : Nat) (xs : List Value) (x y : Int) (w : World) (hB : Blk w b 49 #[tv, v1, v2]) (ho : OwnsAt w 0 56 2 v2 n xs) (hne : v2.ownBlock ≠ some b) (hn : n < 4096) :
    Calls Try.prog 23 #[.pointer (some ⟨b, 2, none⟩), .agg #[.int .i64 x, .int .i64 y]] w fun e w' => e = .returned (.int .i64 0) ∧ PutTurn b tv v1 v2 (n + 1) (xs ++ [.int .i64 x, .int .i64 y]) w w' := by
  obtain ⟨A, cap, rfl, hcap⟩ := ho.len
  have c1 := hB.cell 2
  have f1 := hB.frozen 2
  have hlb := hB.lt
  have hn' : (n : Int) < 4096 := by omega
  have HB := Lib.hid (And.intro hB hne)
  obtain ⟨i0, hi, hz0, hz1, hz2⟩ := info_parts turn_info
  clear hB hne
  go_enter Try.func23, Try.ntmps23
  go_wp2_with fail
  generalize hW0 : World.alloc _ _ = W0
  have hb0 : Below w.heap.size w W0 := by rw [← hW0]; exact (Below.refl _ _).alloc (Nat.le_refl _) _
  have k3 : Blk W0 w.heap.size 56 #[.int .i64 x, .int .i64 y] := by rw [← hW0]; exact Blk.new _ _ _
  have kb := HB.out.1.below hb0 hlb
  have d0 := k3.cell 0
  have d1 := k3.cell 1
  have d2 := kb.cell 2
  have f2 := kb.frozen 2
  have hl0 := k3.lt
  have hlb0 := kb.lt
  have o0 := ho.below hb0
  obtain ⟨S, hSd⟩ : ∃ S : Nat → Prop, ∀ k, S k ↔ (Value.slice A n cap).ownBlock = some k := ⟨_, fun _ => Iff.rfl⟩
  have hSb : ¬ S b := fun h => HB.out.2 ((hSd b).1 h)
  have hSw : ¬ S w.heap.size := fun h => by have := (ho.lt _ ((hSd _).1 h)).2; omega
  have q1 : ∀ X : Cls fun W => But S W0.heap.size W0 W, X.W.cell? ⟨b, 2, none⟩ = some (.slice A n cap) := fun X => (but_cell X _ _ hlb0 hSb).trans d2
  have q2 : ∀ X : Cls fun W => But S W0.heap.size W0 W, X.W.cell? ⟨w.heap.size, 0, none⟩ = some (.int .i64 x) := fun X => (but_cell X _ _ hl0 hSw).trans d0
  have q3 : ∀ X : Cls fun W => But S W0.heap.size W0 W, X.W.cell? ⟨w.heap.size, 1, none⟩ = some (.int .i64 y) := fun X => (but_cell X _ _ hl0 hSw).trans d1
  have HK := Lib.hid (And.intro hb0 (And.intro kb (And.intro o0 hSd)))
  clear hW0 k3 kb hb0 ho o0 c1 f1 d0 d1 d2 f2 hSd
  refine wp_region_sub [6, 7, 10] (fun W => But S W0.heap.size W0 W) (by kernel_rfl) (by kernel_rfl) ((But.refl _ _ _).drew) (fun _ => ?_)
  iterate 6 (refine mix_read (by kernel_rfl) (by rfl) (by rfl) (by rfl) (of_decide_eq_true (by kernel_rfl)) ?_; apply Exists.intro; apply Exists.intro; refine ⟨fun w' hw' K hK => ?_, ?_, ?_⟩; (obtain ⟨X, rfl⟩ := hw'; go_wp2_with fail; first | exact ⟨rfl, rfl⟩ | exact rfl); rfl)
  (refine mix_act (by rfl) (by rfl) (fun K hK => ?_))
  go_wp2_with fail
  refine ⟨.mk ((But.refl S _ _).alloc (Nat.le_refl _) _).drew, ?_⟩
  (refine mix_act (by rfl) (by rfl) (fun K hK => ?_))
  refine wp_append_at (.tmp 15) (.tmp 17) 45 rfl 0 56 i0 (.agg #[.int .i64 0, .int .i64 0]) 2 16 Try.underlying45 hi hz0 hz1 hz2 rfl (by decide) (.slice A n cap) n xs rfl (HK.out.2.2.1.below ((Below.refl _ _).alloc (Nat.le_refl _) _).drew) ⟨W0.heap.size, 0, none⟩ 1 [.int .i64 x, .int .i64 y] rfl rfl
    (fun j u hj => by match j, hj with | 0, hj => (simp at hj; subst hj; exact (Blk.new _ _ _).drew.cell 0) | 1, hj => (simp at hj; subst hj; exact (Blk.new _ _ _).drew.cell 1)) (fun u hu => by simp at hu; rcases hu with rfl | rfl <;> rfl) (Nat.zero_le _) (by unfold maxLen; omega) (by omega) ?_
  intro v' w1 ho1 hg1 hv1
  obtain ⟨A', cap', rfl, hcap'⟩ := ho1.len
  have hB1 : Blk w1 b 49 #[tv, v1, .slice A n cap] := (hg1.block b (by simp; omega) (fun e => HB.out.2 e.symm)).trans ((HK.out.2.1.alloc _).drew)
  have hb1 : But S W0.heap.size W0 w1 := ((But.refl S _ _).alloc (Nat.le_refl _) _).drew.trans ((but_grown hg1 S (fun k hk => (HK.out.2.2.2 k).2 hk)).mono (by simp) (fun k _ h => h))
  have c1' := hB1.cell 2
  have f1' := hB1.frozen 2
  have HB1 := Lib.hid (And.intro hB1 hb1)
  clear hB1 hb1 q1 q2 q3
  (simp [Act.put])
  refine hK _ _ ⟨.mk HB1.out.2, ?_⟩
  iterate 2 (refine mix_read (by kernel_rfl) (by rfl) (by rfl) (by rfl) (of_decide_eq_true (by kernel_rfl)) ?_; apply Exists.intro; apply Exists.intro; refine ⟨fun w' hw' K hK => ?_, ?_, ?_⟩; (obtain ⟨X, rfl⟩ := hw'; go_wp2_with fail; first | exact ⟨rfl, rfl⟩ | exact rfl); rfl)
  (refine mix_last (by rfl) (by rfl) (by kernel_rfl) (fun K hK => ?_))
  go_wp2_with fail
  go_ret
  refine ⟨rfl, _, HB1.out.1.set_ 2 _, ?_, ?_, ?_⟩
  · refine ho1.keep fun k hk => Below.heap_setCell _ _ _ _ ?_
    rcases hv1 with h | ⟨g, h, hg⟩
    · rw [h] at hk; rintro rfl; exact HB.out.2 hk
    · rw [h] at hk; cases hk; simp at hg; simp; omega
  · have e1 : But (fun k => k = b ∨ Value.ownBlock (.slice A n cap) = some k) w.heap.size w w1 := (But.of_below HK.out.1).trans (HB1.out.2.mono HK.out.1.size (fun k _ h => .inr ((HK.out.2.2.2 k).1 h)))
    exact e1.setCell (p := ⟨b, 2, none⟩) (fun _ => .inl rfl) _
  · rcases hv1 with h | ⟨g, h, hg⟩
    · exact .inl h
    · exact .inr ⟨g, h, by simp at hg; have := HK.out.1.size; omega⟩

end Go.Proofs.Ytgolelpncdadkaa
