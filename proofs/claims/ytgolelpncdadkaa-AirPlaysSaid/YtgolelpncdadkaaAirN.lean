/- The reference's Turn. -/
import Derived.Test.YtgolelpncdadkaaAirM
set_option linter.unusedSimpArgs false
set_option linter.unusedVariables false
namespace Go.Proofs.Ytgolelpncdadkaa
open Go.RowKit Go.Shelf

theorem RefTurn_bad (b : Nat) (at_ mask : Int) (w : World) (h : ¬ ((0 ≤ at_ ∧ at_ ≤ 72) ∧ (0 < mask ∧ mask < 256))) :
    Calls Try.prog 13 #[.pointer (some ⟨b, 0, none⟩), .int .i64 at_, .int .i64 mask] w fun e w' => e = .returned (.int .i64 2) ∧ w = w' := by
  have hor : decide (at_ < 0) = true ∨ (decide (at_ < 0) = false ∧ decide (72 < at_) = true) ∨ (decide (at_ < 0) = false ∧ decide (72 < at_) = false ∧ decide (mask < 1) = true) ∨ (decide (at_ < 0) = false ∧ decide (72 < at_) = false ∧ decide (mask < 1) = false ∧ decide (255 < mask) = true) := by
    simp only [decide_eq_true_iff, decide_eq_false_iff_not]; omega
  clear h
  rcases hor with g1 | ⟨g1, g2⟩ | ⟨g1, g2, g3⟩ | ⟨g1, g2, g3, g4⟩
  all_goals
    go_enter Try.func13, Try.ntmps13
    go_wp2_with fail
    go_ret
    exact ⟨rfl, rfl⟩

theorem arr_info : (Try.prog.info? 57).map (fun i => (i.zero, i.size, i.bytes)) = some (some (.agg #[.int .i64 0, .int .i64 0]), 2, 16) := by kernel_rfl

def RPutTurn (b : Nat) (tv v1 v2 : Value) (n : Nat) (xs : List Value) (w : World) (w' : World) : Prop :=
  ∃ v', Blk w' b 52 #[tv, v1, v'] ∧ OwnsAt w' 0 57 2 v' n xs ∧ But (fun k => k = b ∨ v2.ownBlock = some k) w.heap.size w w' ∧ (v'.ownBlock = v2.ownBlock ∨ ∃ g, v'.ownBlock = some g ∧ w.heap.size ≤ g)
theorem racted_turn {F : Nat → Prop} {b n : Nat} {ms : List Int} {ts : List (Int × Int)} {w w2 w3 : World} {v1 v2 : Value} {t : Int × Int}
    (hb : But F w.heap.size w w2) (hB : Blk w2 b 52 #[.int .i64 n, v1, v2]) (h1 : OwnsAt w2 0 3 1 v1 ms.length (ms.map (Value.int .i64))) (h2 : OwnsAt w2 0 57 2 v2 ts.length (flat ts)) (n1 : v1.ownBlock ≠ some b) (n2 : v2.ownBlock ≠ some b)
    (n3 : ∀ k, v1.ownBlock = some k → v2.ownBlock ≠ some k) (hF : ∀ k, F k ↔ k = b ∨ v1.ownBlock = some k ∨ v2.ownBlock = some k)
    (h : RPutTurn b (.int .i64 n) v1 v2 (ts.length + 1) (flat ts ++ [.int .i64 t.1, .int .i64 t.2]) w2 w3) : Acts (RefT b n ms (ts ++ [t])) F w w3 := by
  obtain ⟨v', hB', ho, hbt, hv⟩ := h
  have hown : ∀ k, v'.ownBlock = some k → v2.ownBlock = some k ∨ w2.heap.size ≤ k := by
    intro k hk
    rcases hv with h | ⟨g, h, hg⟩
    · left; rw [← h]; exact hk
    · right; rw [h] at hk; cases hk; exact hg
  refine ⟨fun k => k = b ∨ v1.ownBlock = some k ∨ v'.ownBlock = some k, ⟨v1, v', hB', ?_, ?_, n1, ?_, ?_, fun k => Iff.rfl⟩, ?_, ?_⟩
  · refine h1.but hbt (fun k hk => ⟨(h1.lt k hk).2, ?_⟩)
    rintro (rfl | h)
    · exact n1 hk
    · exact n3 k hk h
  · rw [List.length_append, flat_snoc]; exact ho
  · intro h
    rcases hown b h with h | h
    · exact n2 h
    · have := hB.lt; omega
  · intro k hk hk2
    rcases hown k hk2 with h | h
    · exact n3 k hk h
    · have := (h1.lt k hk).2; omega
  · exact hb.trans (hbt.mono hb.size (fun k hk hs => by
      rcases hs with rfl | h
      · exact (hF _).2 (.inl rfl)
      · exact (hF k).2 (.inr (.inr h))))
  · rintro k (rfl | h | h)
    · exact .inl ((hF _).2 (.inl rfl))
    · exact .inl ((hF k).2 (.inr (.inl h)))
    · rcases hown k h with h | h
      · exact .inl ((hF k).2 (.inr (.inr h)))
      · exact .inr (Nat.le_trans hb.size h)

attribute [local irreducible] wpMix



set_option maxRecDepth 100000 in
set_option maxHeartbeats 1000000 in
theorem RefTurn_ok (F : Nat → Prop) (b n : Nat) (ms : List Int) (ts : List (Int × Int)) (at_ mask : Int) (w : World) (hI : RefInv w F b n ms ts) (h1 : 0 ≤ at_ ∧ at_ ≤ 72) (h2 : 0 < mask ∧ mask < 256) (hl : ts.length < 4096) :
    Calls Try.prog 13 #[.pointer (some ⟨b, 0, none⟩), .int .i64 at_, .int .i64 mask] w fun e w' => e = .returned (.int .i64 0) ∧ Acts (RefT b n ms (ts ++ [(at_, mask)])) F w w' := by
  obtain ⟨v1, v2, hB, h1o, ho, n1, n2, n3, hF⟩ := hI
  obtain ⟨A, cap, rfl, hcap⟩ := ho.len
  have c2 := hB.cell 2
  have f2 := hB.frozen 2
  have hlb := hB.lt
  have hn' : (ts.length : Int) < 4096 := by omega
  have g1 : decide (at_ < 0) = false := by rw [decide_eq_false_iff_not]; omega
  have g2 : decide (72 < at_) = false := by rw [decide_eq_false_iff_not]; omega
  have g3 : decide (mask < 1) = false := by rw [decide_eq_false_iff_not]; omega
  have g4 : decide (255 < mask) = false := by rw [decide_eq_false_iff_not]; omega
  have HB := Lib.hid (And.intro hB (And.intro h1o (And.intro n1 (And.intro n2 (And.intro n3 hF)))))
  obtain ⟨i0, hi, hz0, hz1, hz2⟩ := info_parts arr_info
  clear hB h1o n1 n2 n3 hF hcap h1 h2
  have hblk : OwnsAt (w.alloc (.cells #[.int .i64 at_, .int .i64 mask] 57)) 0 57 2 (.slice A ts.length cap) ts.length (flat ts) := ho.below ((Below.refl _ _).alloc (Nat.le_refl _) _)
  go_enter Try.func13, Try.ntmps13
  go_wp2_with (first
    | (at_builtin; refine wpList_append_at rfl (.tmp 31) (.tmp 35) 50 rfl 0 57 i0 (.agg #[.int .i64 0, .int .i64 0]) 2 16 Try.underlying50 hi hz0 hz1 hz2 rfl (by decide) _ _ _ rfl hblk ⟨w.heap.size, 0, none⟩ 1 [.int .i64 at_, .int .i64 mask] rfl rfl (fun j u hj => by match j, hj with | 0, hj => (simp at hj; subst hj; exact (Blk.new _ _ _).cell 0) | 1, hj => (simp at hj; subst hj; exact (Blk.new _ _ _).cell 1)) (fun u hu => by simp at hu; rcases hu with rfl | rfl <;> rfl) (Nat.zero_le _) (by unfold maxLen; omega) (by omega) ?_; intro v' w1 ho1 hg1 hv1; obtain ⟨A', cap', rfl, hcap'⟩ := ho1.len; have hB1 := (hg1.block b (by simp; omega) (fun e => HB.out.2.2.2.1 e.symm)).trans (HB.out.1.alloc _); have hB1 : Blk w1 b 52 _ := hB1; have c2' := hB1.cell 2; have f2' := hB1.frozen 2; have HB1 := Lib.hid hB1; clear hB1))
  go_ret
  refine ⟨rfl, racted_turn (t := (at_, mask)) (But.refl _ _ _) HB.out.1 HB.out.2.1 ho HB.out.2.2.1 HB.out.2.2.2.1 HB.out.2.2.2.2.1 HB.out.2.2.2.2.2 ⟨_, HB1.out.set_ 2 _, ?_, ?_, ?_⟩⟩
  · refine ho1.keep fun k hk => Below.heap_setCell _ _ _ _ ?_
    rcases hv1 with h | ⟨g, h, hg⟩
    · rw [h] at hk; rintro rfl; exact HB.out.2.2.2.1 hk
    · rw [h] at hk; cases hk; simp at hg; simp; omega
  · exact ((But.of_below ((Below.refl _ w).alloc (Nat.le_refl _) _)).trans ((but_grown hg1 (fun k => k = b ∨ Value.ownBlock (.slice A ts.length cap) = some k) (fun k hk => .inr hk)).mono (by simp) (fun k _ h => h))).setCell (p := ⟨b, 2, none⟩) (fun _ => .inl rfl) _
  · rcases hv1 with h | ⟨g, h, hg⟩
    · exact .inl h
    · exact .inr ⟨g, h, by simp at hg; omega⟩

end Go.Proofs.Ytgolelpncdadkaa
