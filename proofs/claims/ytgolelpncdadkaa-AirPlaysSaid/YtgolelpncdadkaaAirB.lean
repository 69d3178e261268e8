/- The air's rows, taken from. -/
import Derived.Test.YtgolelpncdadkaaAirA
set_option linter.unusedSimpArgs false
set_option linter.unusedVariables false
namespace Go.Proofs.Ytgolelpncdadkaa
open Go.RowKit

attribute [local irreducible] wpMix

def TakeMask (b : Nat) (tv v1 v2 : Value) (n : Nat) (xs : List Value) (w : World) (w' : World) : Prop :=
  ∃ v', Blk w' b 49 #[tv, v', v2] ∧ OwnsAt w' 0 3 1 v' n xs ∧ But (fun k => k = b) w.heap.size w w' ∧ v'.ownBlock = v1.ownBlock

theorem take_mask_none (b : Nat) (tv v1 v2 : Value) (xs : List Value) (w : World) (hB : Blk w b 49 #[tv, v1, v2]) (ho : OwnsAt w 0 3 1 v1 0 xs) :
    Calls Try.prog 24 #[.pointer (some ⟨b, 1, none⟩)] w fun e w' => e = .returned (.tuple #[.int .i64 0, .bool false]) ∧ w = w' := by
  obtain ⟨A, cap, rfl, hcap⟩ := ho.len
  have c1 := hB.cell 1
  clear hB ho
  go_enter Try.func24, Try.ntmps24
  go_wp2_with fail
  go_ret2
  exact ⟨rfl, rfl⟩

set_option maxHeartbeats 1000000 in
theorem take_mask (b : Nat) (tv v1 v2 : Value) (n : Nat) (x : Int) (xs : List Value) (w : World) (hB : Blk w b 49 #[tv, v1, v2]) (ho : OwnsAt w 0 3 1 v1 (n + 1) (.int .i64 x :: xs)) (hne : v1.ownBlock ≠ some b) (hn : n < 100000) :
    Calls Try.prog 24 #[.pointer (some ⟨b, 1, none⟩)] w fun e w' => e = .returned (.tuple #[.int .i64 x, .bool true]) ∧ TakeMask b tv v1 v2 n xs w w' := by
  obtain ⟨g, off, cap, rfl, ht⟩ := ho.tail
  have c1 := hB.cell 1
  have f1 := hB.frozen 1
  have hlb := hB.lt
  have d0 := ho.cell 0 _ rfl
  rw [Nat.add_zero] at d0
  have hlg := (ho.lt g rfl).2
  have hnc := ho.len
  obtain ⟨_, _, he, hnc⟩ := hnc
  cases he
  have HB := Lib.hid (And.intro hB (And.intro ht hne))
  have hn0 : (((n + 1 : Nat) : Int) == 0) = false := by simp; omega
  clear hB ho ht hne
  go_enter Try.func24, Try.ntmps24
  go_wp2_with fail
  refine wp_region_sub [15] (fun W => Below w.heap.size w W) (by kernel_rfl) (by kernel_rfl) ((Below.refl _ _).drew) (fun _ => ?_)
  iterate 11 (refine mix_read (by kernel_rfl) (by rfl) (by rfl) (by rfl) (of_decide_eq_true (by kernel_rfl)) ?_; apply Exists.intro; apply Exists.intro; refine ⟨fun w' hw' K hK => ?_, ?_, ?_⟩; (obtain ⟨X, rfl⟩ := hw'; go_wp2_with fail; first | exact ⟨rfl, rfl⟩ | exact rfl); rfl)
  (refine mix_read (by kernel_rfl) (by rfl) (by rfl) (by rfl) (of_decide_eq_true (by kernel_rfl)) ?_; apply Exists.intro; apply Exists.intro; refine ⟨fun w' hw' K hK => ?_, ?_, ?_⟩; (obtain ⟨X, rfl⟩ := hw'; refine wp_tail (size := 1) 42 3 (.tmp 21) (.const (.int .i64 1)) rfl rfl rfl (by omega) Try.underlying42 (by kernel_rfl) ?_; (simp [Act.put]); exact hK _ _ ⟨rfl, rfl⟩); rfl)
  iterate 3 (refine mix_read (by kernel_rfl) (by rfl) (by rfl) (by rfl) (of_decide_eq_true (by kernel_rfl)) ?_; apply Exists.intro; apply Exists.intro; refine ⟨fun w' hw' K hK => ?_, ?_, ?_⟩; (obtain ⟨X, rfl⟩ := hw'; go_wp2_with fail; first | exact ⟨rfl, rfl⟩ | exact rfl); rfl)
  obtain ⟨A', hA'⟩ := tailV_slice g off n cap 1
  have hown := tailV_own g off n cap 1
  rw [hA'] at hown
  have HT := Lib.hid (And.intro hA' hown)
  rw [hA']
  clear hA' hown
  (refine mix_last (by rfl) (by rfl) (by kernel_rfl) (fun K hK => ?_))
  go_wp2_with fail
  go_ret2
  have hbk := (HB.out.1.drew).set_ 1 (.slice A' n cap)
  refine ⟨rfl, _, hbk, ?_, ?_, HT.out.2⟩
  · have := HB.out.2.1
    rw [HT.out.1] at this
    exact this.keep fun k hk => Below.heap_setCell _ _ _ _ (by rw [HT.out.2] at hk; rintro rfl; exact HB.out.2.2 hk)
  · exact ((But.refl (fun k => k = b) _ _).setCell (p := ⟨b, 1, none⟩) (fun _ => rfl) _).drew

def TakeTurn (b : Nat) (tv v1 v2 : Value) (n : Nat) (xs : List Value) (w : World) (w' : World) : Prop :=
  ∃ v', Blk w' b 49 #[tv, v1, v'] ∧ OwnsAt w' 0 56 2 v' n xs ∧ But (fun k => k = b) w.heap.size w w' ∧ v'.ownBlock = v2.ownBlock

theorem take_turn_none (b : Nat) (tv v1 v2 : Value) (xs : List Value) (w : World) (hB : Blk w b 49 #[tv, v1, v2]) (ho : OwnsAt w 0 56 2 v2 0 xs) :
    Calls Try.prog 25 #[.pointer (some ⟨b, 2, none⟩)] w fun e w' => e = .returned (.tuple #[.agg #[.int .i64 0, .int .i64 0], .bool false]) ∧ Below w.heap.size w w' := by
  obtain ⟨A, cap, rfl, hcap⟩ := ho.len
  have c1 := hB.cell 2
  have hlb := hB.lt
  clear hB ho
  go_enter Try.func25, Try.ntmps25
  go_wp2_with fail
  refine bodyPost_ret (res_cell_tmp rfl _ _ w.heap.size 56 _ _ rfl (Blk.new w _ _) Try.underlying56 rfl (by kernel_rfl)) rfl ⟨rfl, ?_⟩
  exact (Below.refl _ _).alloc (Nat.le_refl _) _

set_option maxHeartbeats 1000000 in
theorem take_turn (b : Nat) (tv v1 v2 : Value) (n : Nat) (x y : Int) (xs : List Value) (w : World) (hB : Blk w b 49 #[tv, v1, v2]) (ho : OwnsAt w 0 56 2 v2 (n + 1) (.int .i64 x :: .int .i64 y :: xs)) (hne : v2.ownBlock ≠ some b) (hn : n < 100000) :
    Calls Try.prog 25 #[.pointer (some ⟨b, 2, none⟩)] w fun e w' => e = .returned (.tuple #[.agg #[.int .i64 x, .int .i64 y], .bool true]) ∧ TakeTurn b tv v1 v2 n xs w w' := by
  obtain ⟨g, off, cap, rfl, ht⟩ := ho.tail
  have c1 := hB.cell 2
  have f1 := hB.frozen 2
  have hlb := hB.lt
  have d0 := ho.cell 0 _ rfl
  have d1 := ho.cell 1 _ rfl
  rw [Nat.add_zero] at d0
  have hlg := (ho.lt g rfl).2
  have hnc := ho.len
  obtain ⟨_, _, he, hnc⟩ := hnc
  cases he
  have HB := Lib.hid (And.intro hB (And.intro ht hne))
  have hn0 : (((n + 1 : Nat) : Int) == 0) = false := by simp; omega
  clear hB ho ht hne
  go_enter Try.func25, Try.ntmps25
  go_wp2_with fail
  refine wp_region_sub [12, 15] (fun W => Below w.heap.size w W) (by kernel_rfl) (by kernel_rfl) (((Below.refl _ _).alloc (Nat.le_refl _) _).drew) (fun _ => ?_)
  iterate 11 (refine mix_read (by kernel_rfl) (by rfl) (by rfl) (by rfl) (of_decide_eq_true (by kernel_rfl)) ?_; apply Exists.intro; apply Exists.intro; refine ⟨fun w' hw' K hK => ?_, ?_, ?_⟩; (obtain ⟨X, rfl⟩ := hw'; go_wp2_with fail; first | exact ⟨rfl, rfl⟩ | exact rfl); rfl)
  (refine mix_read (by kernel_rfl) (by rfl) (by rfl) (by rfl) (of_decide_eq_true (by kernel_rfl)) ?_; apply Exists.intro; apply Exists.intro; refine ⟨fun w' hw' K hK => ?_, ?_, ?_⟩; (obtain ⟨X, rfl⟩ := hw'; refine wp_tail (size := 2) 45 56 (.tmp 21) (.const (.int .i64 1)) rfl rfl rfl (by omega) Try.underlying45 (by kernel_rfl) ?_; (simp [Act.put]); exact hK _ _ ⟨rfl, rfl⟩); rfl)
  obtain ⟨A', hA'⟩ := tailV_slice g off n cap 2
  have hown := tailV_own g off n cap 2
  rw [hA'] at hown
  have HT := Lib.hid (And.intro hA' hown)
  rw [hA']
  clear hA' hown
  (refine mix_act (by rfl) (by rfl) (fun K hK => ?_))
  go_wp2_with fail
  refine ⟨.mk (((Below.refl _ _).alloc (Nat.le_refl _) _).drew), ?_⟩
  iterate 2 (refine mix_read (by kernel_rfl) (by rfl) (by rfl) (by rfl) (of_decide_eq_true (by kernel_rfl)) ?_; apply Exists.intro; apply Exists.intro; refine ⟨fun w' hw' K hK => ?_, ?_, ?_⟩; (obtain ⟨X, rfl⟩ := hw'; go_wp2_with fail; first | exact ⟨rfl, rfl⟩ | exact rfl); rfl)
  (refine mix_last (by rfl) (by rfl) (by kernel_rfl) (fun K hK => ?_))
  go_wp2_with fail
  have hk2 : Blk ((w.setCell ⟨b, 2, none⟩ (.slice A' n cap)).alloc (.cells #[.int .i64 x, .int .i64 y] 56)).drew w.heap.size 56 #[.int .i64 x, .int .i64 y] := ((Blk.new (w.setCell ⟨b, 2, none⟩ (.slice A' n cap)) _ _).same_g (by simp [World.setCell])).drew
  have hbk : Blk ((w.setCell ⟨b, 2, none⟩ (.slice A' n cap)).alloc (.cells #[.int .i64 x, .int .i64 y] 56)).drew b 49 #[tv, v1, .slice A' n cap] := ((HB.out.1.set_ 2 (.slice A' n cap)).alloc _).drew
  refine bodyPost_ret (res_cell_tmp rfl _ _ w.heap.size 56 _ _ rfl hk2 Try.underlying56 rfl (by kernel_rfl)) rfl ⟨rfl, _, hbk, ?_, ?_, HT.out.2⟩
  · have := HB.out.2.1
    rw [HT.out.1] at this
    refine this.keep fun k hk => ?_
    have hkb : k ≠ b := by rw [HT.out.2] at hk; rintro rfl; exact HB.out.2.2 hk
    have hkl : k < (w.setCell ⟨b, 2, none⟩ (.slice A' n cap)).heap.size := by simpa [World.setCell] using (this.lt k hk).2
    exact (Below.heap_alloc _ _ k hkl).trans (Below.heap_setCell _ _ _ _ hkb)
  · have h1 : But (fun k => k = b) w.heap.size w (w.setCell ⟨b, 2, none⟩ (.slice A' n cap)) := (But.refl (fun k => k = b) _ _).setCell (p := ⟨b, 2, none⟩) (fun _ => rfl) _
    exact (h1.alloc h1.size _).drew

end Go.Proofs.Ytgolelpncdadkaa
