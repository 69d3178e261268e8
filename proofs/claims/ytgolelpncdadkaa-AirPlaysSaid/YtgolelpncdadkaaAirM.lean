/- The reference's air: its thing, New. -/
import Derived.Test.YtgolelpncdadkaaAirG
set_option linter.unusedSimpArgs false
set_option linter.unusedVariables false
namespace Go.Proofs.Ytgolelpncdadkaa
open Go.RowKit Go.Shelf

def RefInv (w : World) (F : Nat → Prop) (b : Nat) (terms : Nat) (ms : List Int) (ts : List (Int × Int)) : Prop :=
  ∃ v1 v2, Blk w b 52 #[.int .i64 terms, v1, v2] ∧ OwnsAt w 0 3 1 v1 ms.length (ms.map (Value.int .i64)) ∧ OwnsAt w 0 57 2 v2 ts.length (flat ts) ∧
    v1.ownBlock ≠ some b ∧ v2.ownBlock ≠ some b ∧ (∀ k, v1.ownBlock = some k → v2.ownBlock ≠ some k) ∧ (∀ k, F k ↔ k = b ∨ v1.ownBlock = some k ∨ v2.ownBlock = some k)

section
variable {w w' : World} {F : Nat → Prop} {b terms : Nat} {ms : List Int} {ts : List (Int × Int)}
theorem RefInv.lt (h : RefInv w F b terms ms ts) : ∀ k, F k → k < w.heap.size := by
  obtain ⟨v1, v2, hB, h1, h2, _, _, _, hF⟩ := h
  intro k hk
  rcases (hF k).1 hk with rfl | h | h
  · exact hB.lt
  · exact (h1.lt k h).2
  · exact (h2.lt k h).2
theorem RefInv.but {S : Nat → Prop} (h : RefInv w F b terms ms ts) (hb : But S w.heap.size w w') (hS : ∀ k, F k → ¬ S k) : RefInv w' F b terms ms ts := by
  have hlt := h.lt
  obtain ⟨v1, v2, hB, h1, h2, n1, n2, n3, hF⟩ := h
  exact ⟨v1, v2, hb.blk hB.lt (hS b ((hF b).2 (.inl rfl))) hB, h1.but hb (fun k hk => ⟨(h1.lt k hk).2, hS k ((hF k).2 (.inr (.inl hk)))⟩), h2.but hb (fun k hk => ⟨(h2.lt k hk).2, hS k ((hF k).2 (.inr (.inr hk)))⟩), n1, n2, n3, hF⟩
end
def RefT (b n : Nat) (ms : List Int) (ts : List (Int × Int)) : Thing := fun w F => RefInv w F b n ms ts
theorem RefT.loc (b n : Nat) (ms : List Int) (ts : List (Int × Int)) : Local (RefT b n ms ts) := ⟨fun _ _ h => RefInv.lt h, fun _ _ _ _ h hb hS => RefInv.but h hb hS⟩

theorem RefNew_yes (n : Nat) (w : World) (h : 1 ≤ n ∧ n ≤ 8) :
    Calls Try.prog 8 #[.int .i64 (n : Int)] w fun e w' => e = .returned (.pointer (some ⟨w.heap.size, 0, none⟩)) ∧ Below w.heap.size w w' ∧ RefInv w' (· = w.heap.size) w.heap.size n [] [] := by
  obtain ⟨h1, h2⟩ := h
  have g1 : decide ((n : Int) < 1) = false := by rw [decide_eq_false_iff_not]; omega
  have g2 : decide ((8 : Int) < n) = false := by rw [decide_eq_false_iff_not]; omega
  go_enter Try.func8, Try.ntmps8
  go_wp2_with fail
  go_ret
  exact ⟨rfl, (Below.refl _ _).alloc (Nat.le_refl _) _, .slice none 0 0, .slice none 0 0, Blk.new _ _ _, OwnsAt.nil _ _ _ _, OwnsAt.nil _ _ _ _, by simp [Value.ownBlock], by simp [Value.ownBlock], by simp [Value.ownBlock], by simp [Value.ownBlock]⟩
theorem RefNew_no (a : Int) (w : World) (h : a < 1 ∨ 8 < a) :
    Calls Try.prog 8 #[.int .i64 a] w fun e w' => e = .returned (.pointer none) ∧ w = w' := by
  have ho : decide (a < (1 : Int)) = true ∨ (decide (a < (1 : Int)) = false ∧ decide ((8 : Int) < a) = true) := by
    by_cases h1 : a < 1
    · left; simpa using h1
    · right; simp; omega
  clear h
  rcases ho with g1 | ⟨g1, g2⟩
  all_goals
    go_enter Try.func8, Try.ntmps8
    go_wp2_with fail
    go_ret
    exact ⟨rfl, rfl⟩

theorem RefErase_bad (b n : Nat) (v1 v2 : Value) (mask : Int) (w : World) (hB : Blk w b 52 #[.int .i64 n, v1, v2]) (hn : 1 ≤ n ∧ n ≤ 8) (hm : mask < 0 ∨ 2 ^ n ≤ mask) :
    Calls Try.prog 11 #[.pointer (some ⟨b, 0, none⟩), .int .i64 mask] w fun e w' => e = .returned (.int .i64 2) ∧ w = w' := by
  have c0 := hB.cell 0
  obtain ⟨hn1, hn2⟩ := hn
  have hor : decide (mask < 0) = true ∨ (decide (mask < 0) = false ∧ decide ((2 : Int) ^ n ≤ mask) = true) := by
    by_cases h : mask < 0
    · left; simpa using h
    · right; simp; omega
  clear hB hm
  rcases hor with g1 | ⟨g1, g2⟩
  all_goals
    rcases (show n = 1 ∨ n = 2 ∨ n = 3 ∨ n = 4 ∨ n = 5 ∨ n = 6 ∨ n = 7 ∨ n = 8 by omega) with rfl | rfl | rfl | rfl | rfl | rfl | rfl | rfl
  all_goals
    try simp only [Int.reducePow] at g2
    go_enter Try.func11, Try.ntmps11
    go_wp2_with fail
    go_ret
    exact ⟨rfl, rfl⟩

def RPutMask (b : Nat) (tv v1 v2 : Value) (n : Nat) (xs : List Value) (w : World) (w' : World) : Prop :=
  ∃ v', Blk w' b 52 #[tv, v', v2] ∧ OwnsAt w' 0 3 1 v' n xs ∧ But (fun k => k = b ∨ v1.ownBlock = some k) w.heap.size w w' ∧ (v'.ownBlock = v1.ownBlock ∨ ∃ g, v'.ownBlock = some g ∧ w.heap.size ≤ g)
theorem racted_mask {F : Nat → Prop} {b n : Nat} {ms : List Int} {ts : List (Int × Int)} {w w2 w3 : World} {v1 v2 : Value} {mask : Int}
    (hb : But F w.heap.size w w2) (hB : Blk w2 b 52 #[.int .i64 n, v1, v2]) (h1 : OwnsAt w2 0 3 1 v1 ms.length (ms.map (Value.int .i64))) (h2 : OwnsAt w2 0 57 2 v2 ts.length (flat ts)) (n1 : v1.ownBlock ≠ some b) (n2 : v2.ownBlock ≠ some b)
    (n3 : ∀ k, v1.ownBlock = some k → v2.ownBlock ≠ some k) (hF : ∀ k, F k ↔ k = b ∨ v1.ownBlock = some k ∨ v2.ownBlock = some k)
    (h : RPutMask b (.int .i64 n) v1 v2 (ms.length + 1) (ms.map (Value.int .i64) ++ [.int .i64 mask]) w2 w3) : Acts (RefT b n (ms ++ [mask]) ts) F w w3 := by
  obtain ⟨v', hB', ho, hbt, hv⟩ := h
  have hown : ∀ k, v'.ownBlock = some k → v1.ownBlock = some k ∨ w2.heap.size ≤ k := by
    intro k hk
    rcases hv with h | ⟨g, h, hg⟩
    · left; rw [← h]; exact hk
    · right; rw [h] at hk; cases hk; exact hg
  refine ⟨fun k => k = b ∨ v'.ownBlock = some k ∨ v2.ownBlock = some k, ⟨v', v2, hB', ?_, ?_, ?_, n2, ?_, fun k => Iff.rfl⟩, ?_, ?_⟩
  · rw [List.length_append, List.map_append]; exact ho
  · refine h2.but hbt (fun k hk => ⟨(h2.lt k hk).2, ?_⟩)
    rintro (rfl | h)
    · exact n2 hk
    · exact n3 k h hk
  · intro h
    rcases hown b h with h | h
    · exact n1 h
    · have := hB.lt; omega
  · intro k hk hk2
    rcases hown k hk with h | h
    · exact n3 k h hk2
    · have := (h2.lt k hk2).2; omega
  · exact hb.trans (hbt.mono hb.size (fun k hk hs => by
      rcases hs with rfl | h
      · exact (hF _).2 (.inl rfl)
      · exact (hF k).2 (.inr (.inl h))))
  · rintro k (rfl | h | h)
    · exact .inl ((hF _).2 (.inl rfl))
    · rcases hown k h with h | h
      · exact .inl ((hF k).2 (.inr (.inl h)))
      · exact .inr (Nat.le_trans hb.size h)
    · exact .inl ((hF k).2 (.inr (.inr h)))

set_option maxRecDepth 100000 in
set_option maxHeartbeats 1000000 in
theorem RefErase_ok (F : Nat → Prop) (b n : Nat) (ms : List Int) (ts : List (Int × Int)) (mask : Int) (w : World) (hI : RefInv w F b n ms ts) (hn : 1 ≤ n ∧ n ≤ 8) (h0 : 0 ≤ mask) (hm : mask < 2 ^ n) (hl : ms.length < 4096) :
    Calls Try.prog 11 #[.pointer (some ⟨b, 0, none⟩), .int .i64 mask] w fun e w' => e = .returned (.int .i64 0) ∧ Acts (RefT b n (ms ++ [mask]) ts) F w w' := by
  obtain ⟨v1, v2, hB, ho, h2, n1, n2, n3, hF⟩ := hI
  obtain ⟨A, cap, rfl, hcap⟩ := ho.len
  have c0 := hB.cell 0
  have c1 := hB.cell 1
  have f1 := hB.frozen 1
  have hlb := hB.lt
  have hn' : (ms.length : Int) < 4096 := by omega
  have g1 : decide (mask < 0) = false := by rw [decide_eq_false_iff_not]; omega
  have g2 : decide ((2 : Int) ^ n ≤ mask) = false := by rw [decide_eq_false_iff_not]; omega
  have HB := Lib.hid (And.intro hB (And.intro h2 (And.intro n1 (And.intro n2 (And.intro n3 hF)))))
  obtain ⟨i0, hi, hz0, hz1, hz2⟩ := info_parts int_info
  clear hB h2 n1 n2 n3 hF hm hcap
  obtain ⟨hn1, hn2⟩ := hn
  have hblk : OwnsAt (w.alloc (.cells #[.int .i64 mask] 3)) 0 3 1 (.slice A ms.length cap) ms.length (ms.map (Value.int .i64)) := ho.below ((Below.refl _ _).alloc (Nat.le_refl _) _)
  rcases (show n = 1 ∨ n = 2 ∨ n = 3 ∨ n = 4 ∨ n = 5 ∨ n = 6 ∨ n = 7 ∨ n = 8 by omega) with rfl | rfl | rfl | rfl | rfl | rfl | rfl | rfl
  all_goals
    simp only [Int.reducePow] at g2
    go_enter Try.func11, Try.ntmps11
    go_wp2_with (first
      | (at_builtin; refine wpList_append_at rfl (.tmp 26) (.tmp 28) 42 rfl 0 3 i0 (.int .i64 0) 1 8 Try.underlying42 hi hz0 hz1 hz2 rfl (by decide) _ _ _ rfl hblk ⟨w.heap.size, 0, none⟩ 1 [.int .i64 mask] rfl rfl (fun j u hj => by match j, hj with | 0, hj => (simp at hj; subst hj; exact (Blk.new _ _ _).cell 0)) (fun u hu => by simp at hu; subst hu; rfl) (Nat.zero_le _) (by unfold maxLen; omega) (by omega) ?_; intro v' w1 ho1 hg1 hv1; obtain ⟨A', cap', rfl, hcap'⟩ := ho1.len; have hB1 := (hg1.block b (by simp; omega) (fun e => HB.out.2.2.1 e.symm)).trans (HB.out.1.alloc _); have hB1 : Blk w1 b 52 _ := hB1; have c1' := hB1.cell 1; have f1' := hB1.frozen 1; have HB1 := Lib.hid hB1; clear hB1))
    go_ret
    refine ⟨rfl, racted_mask (But.refl _ _ _) HB.out.1 ho HB.out.2.1 HB.out.2.2.1 HB.out.2.2.2.1 HB.out.2.2.2.2.1 HB.out.2.2.2.2.2 ⟨_, HB1.out.set_ 1 _, ?_, ?_, ?_⟩⟩
    · refine ho1.keep fun k hk => Below.heap_setCell _ _ _ _ ?_
      rcases hv1 with h | ⟨g, h, hg⟩
      · rw [h] at hk; rintro rfl; exact HB.out.2.2.1 hk
      · rw [h] at hk; cases hk; simp at hg; simp; omega
    · exact ((But.of_below ((Below.refl _ w).alloc (Nat.le_refl _) _)).trans ((but_grown hg1 (fun k => k = b ∨ Value.ownBlock (.slice A ms.length cap) = some k) (fun k hk => .inr hk)).mono (by simp) (fun k _ h => h))).setCell (p := ⟨b, 1, none⟩) (fun _ => .inl rfl) _
    · rcases hv1 with h | ⟨g, h, hg⟩
      · exact .inl h
      · exact .inr ⟨g, h, by simp at hg; omega⟩

end Go.Proofs.Ytgolelpncdadkaa
