/- The air itself: New, Erase, Turn. -/
import Derived.Test.YtgolelpncdadkaaAirB
import Derived.Shelf.Abstract
import Derived.RangeFuncCalls
import Derived.LoopN
import Derived.Deep.QuietTactic
import Derived.BigQuiet
set_option linter.unusedSimpArgs false
set_option linter.unusedVariables false
namespace Go.Proofs.Ytgolelpncdadkaa
open Go.RowKit Go.Shelf

/-- Air at b: its number of terminals, both rows; F: the blocks that are its own. -/
def AirInv (w : World) (F : Nat → Prop) (b : Nat) (terms : Nat) (ms : List Int) (ts : List (Int × Int)) : Prop :=
  ∃ v1 v2, Blk w b 49 #[.int .i64 terms, v1, v2] ∧ OwnsAt w 0 3 1 v1 ms.length (ms.map (Value.int .i64)) ∧ OwnsAt w 0 56 2 v2 ts.length (flat ts) ∧
    v1.ownBlock ≠ some b ∧ v2.ownBlock ≠ some b ∧ (∀ k, v1.ownBlock = some k → v2.ownBlock ≠ some k) ∧ (∀ k, F k ↔ k = b ∨ v1.ownBlock = some k ∨ v2.ownBlock = some k)

section
variable {w w' : World} {F : Nat → Prop} {b terms : Nat} {ms : List Int} {ts : List (Int × Int)}
theorem AirInv.lt (h : AirInv w F b terms ms ts) : ∀ k, F k → k < w.heap.size := by
  obtain ⟨v1, v2, hB, h1, h2, _, _, _, hF⟩ := h
  intro k hk
  rcases (hF k).1 hk with rfl | h | h
  · exact hB.lt
  · exact (h1.lt k h).2
  · exact (h2.lt k h).2
theorem AirInv.but {S : Nat → Prop} (h : AirInv w F b terms ms ts) (hb : But S w.heap.size w w') (hS : ∀ k, F k → ¬ S k) : AirInv w' F b terms ms ts := by
  have hlt := h.lt
  obtain ⟨v1, v2, hB, h1, h2, n1, n2, n3, hF⟩ := h
  exact ⟨v1, v2, hb.blk hB.lt (hS b ((hF b).2 (.inl rfl))) hB, h1.but hb (fun k hk => ⟨(h1.lt k hk).2, hS k ((hF k).2 (.inr (.inl hk)))⟩), h2.but hb (fun k hk => ⟨(h2.lt k hk).2, hS k ((hF k).2 (.inr (.inr hk)))⟩), n1, n2, n3, hF⟩
theorem AirInv.below (h : AirInv w F b terms ms ts) (hb : Below w.heap.size w w') : AirInv w' F b terms ms ts := h.but (But.of_below (S := fun _ => False) hb) (fun _ _ h => h)
end

/-- What an act of the air leaves: its own blocks, and new ones, alone have turned. -/
def Acted (F : Nat → Prop) (b terms : Nat) (ms : List Int) (ts : List (Int × Int)) (w w' : World) : Prop :=
  ∃ F', AirInv w' F' b terms ms ts ∧ But F w.heap.size w w' ∧ ∀ k, F' k → F k ∨ w.heap.size ≤ k

theorem New_yes (n : Nat) (w : World) (h : 1 ≤ n ∧ n ≤ 8) :
    Calls Try.prog 7 #[.int .i64 (n : Int)] w fun e w' => e = .returned (.pointer (some ⟨w.heap.size, 0, none⟩)) ∧ Below w.heap.size w w' ∧ AirInv w' (· = w.heap.size) w.heap.size n [] [] := by
  obtain ⟨h1, h2⟩ := h
  have g1 : decide ((n : Int) < 1) = false := by rw [decide_eq_false_iff_not]; omega
  have g2 : decide ((8 : Int) < n) = false := by rw [decide_eq_false_iff_not]; omega
  go_enter Try.func7, Try.ntmps7
  go_wp2_with fail
  go_ret
  exact ⟨rfl, (Below.refl _ _).alloc (Nat.le_refl _) _, .slice none 0 0, .slice none 0 0, Blk.new _ _ _, OwnsAt.nil _ _ _ _, OwnsAt.nil _ _ _ _, by simp [Value.ownBlock], by simp [Value.ownBlock], by simp [Value.ownBlock], by simp [Value.ownBlock]⟩
theorem New_no (a : Int) (w : World) (h : a < 1 ∨ 8 < a) :
    Calls Try.prog 7 #[.int .i64 a] w fun e w' => e = .returned (.pointer none) ∧ w = w' := by
  have ho : decide (a < (1 : Int)) = true ∨ (decide (a < (1 : Int)) = false ∧ decide ((8 : Int) < a) = true) := by
    by_cases h1 : a < 1
    · left; simpa using h1
    · right; simp; omega
  clear h
  rcases ho with g1 | ⟨g1, g2⟩
  all_goals
    go_enter Try.func7, Try.ntmps7
    go_wp2_with fail
    go_ret
    exact ⟨rfl, rfl⟩

/-- A question: whenever it is asked, it tells r. -/
def FnB (w : World) (v : Value) (r : Bool) : Prop := ∃ K first cap, v = .func (.func K) first cap ∧ (∀ args w, (callFunc K args).run Try.prog w = .ok (.enter K args) w) ∧
  ∀ W, Below w.heap.size w W → Calls Try.prog K (first ++ cap) W fun e W' => e = .returned (.bool r) ∧ Below W.heap.size W W'

theorem all_two (g : Nat) (v1 v2 : Value) (r1 r2 : Bool) (w : World) (hB : Blk w g 27 #[v1, v2]) (h1 : FnB w v1 r1) (h2 : FnB w v2 r2) :
    Calls Try.prog 17 #[.slice (some ⟨g, 0, none⟩) 2 2] w fun e w' => e = .returned (.bool (r1 && r2)) ∧ Below w.heap.size w w' := by
  obtain ⟨K1, f1, c1, rfl, e1, k1⟩ := h1
  obtain ⟨K2, f2, c2, rfl, e2, k2⟩ := h2
  have d0 := hB.cell 0
  have hl := hB.lt
  have HB := Lib.hid hB
  have HK1 := Lib.hid k1
  have HK2 := Lib.hid k2
  clear hB k1 k2
  go_enter Try.func17, Try.ntmps17
  go_wp2_with fail
  refine wp_loop_rounds 3 ?_
  rw [rounds_succ]
  go_wp2_with fail
  refine (HK1.out w (Below.refl _ _)).mono ?_
  rintro e w1 ⟨rfl, hb1⟩
  have d1 := (HB.out.below hb1 hl).cell 1
  have hl1 := (HB.out.below hb1 hl).lt
  have H1 := Lib.hid hb1
  clear hb1
  cases r1 with
  | false =>
    go_wp2_with fail
    go_ret
    exact ⟨rfl, H1.out⟩
  | true =>
    go_wp2_with fail
    rw [rounds_succ]
    go_wp2_with fail
    refine (HK2.out w1 H1.out).mono ?_
    rintro e w2 ⟨rfl, hb2⟩
    have H2 := Lib.hid (H1.out.trans (hb2.mono H1.out.size))
    clear hb2
    cases r2 with
    | false =>
      go_wp2_with fail
      go_ret
      exact ⟨rfl, H2.out⟩
    | true =>
      go_wp2_with fail
      rw [rounds_succ]
      go_wp2_with fail
      go_ret
      exact ⟨rfl, H2.out⟩

theorem below_drewN {B : Nat} {a w : World} (h : Below B a w) (n : Nat) : Below B a (w.drewN n) := ⟨h.os, h.tape, h.output, h.size, h.block⟩

theorem erase1 (g : Nat) (mask : Int) (w : World) (hB : Blk w g 3 #[.int .i64 mask]) : FnB w (.func (.func 18) #[] #[.pointer (some ⟨g, 0, none⟩)]) (decide (0 ≤ mask)) := by
  refine ⟨_, _, _, rfl, enters_of Try.func18 (by kernel_rfl) rfl, fun W hW => ?_⟩
  have c0 := (hB.below hW hB.lt).cell 0
  clear hB hW
  simp only [List.append_toArray, List.nil_append]
  go_enter Try.func18, Try.ntmps18
  go_wp2_with fail
  go_ret
  exact ⟨rfl, Below.refl _ _⟩

theorem erase2 (g h b n : Nat) (mask : Int) (v1 v2 : Value) (w : World) (hn : 1 ≤ n ∧ n ≤ 8) (hG : Blk w g 3 #[.int .i64 mask]) (hH : Blk w h 23 #[.pointer (some ⟨b, 0, none⟩)]) (hB : Blk w b 49 #[.int .i64 n, v1, v2]) :
    FnB w (.func (.func 19) #[] #[.pointer (some ⟨g, 0, none⟩), .pointer (some ⟨h, 0, none⟩)]) (decide (mask < 2 ^ n)) := by
  refine ⟨_, _, _, rfl, enters_of Try.func19 (by kernel_rfl) rfl, fun W hW => ?_⟩
  have c0 := (hG.below hW hG.lt).cell 0
  have d0 := (hH.below hW hH.lt).cell 0
  have e0 := (hB.below hW hB.lt).cell 0
  have lg := (hG.below hW hG.lt).lt
  have lh := (hH.below hW hH.lt).lt
  have lb := (hB.below hW hB.lt).lt
  clear hG hH hB hW
  simp only [List.append_toArray, List.nil_append]
  have key : ∀ m : Nat, n = m → Calls Try.prog 19 #[.pointer (some ⟨g, 0, none⟩), .pointer (some ⟨h, 0, none⟩)] W fun e W' => e = .returned (.bool (decide (mask < 2 ^ m))) ∧ Below W.heap.size W W' := by
    intro m hm
    subst hm
    rcases (show n = 1 ∨ n = 2 ∨ n = 3 ∨ n = 4 ∨ n = 5 ∨ n = 6 ∨ n = 7 ∨ n = 8 by omega) with rfl | rfl | rfl | rfl | rfl | rfl | rfl | rfl
    all_goals
      go_enter Try.func19, Try.ntmps19
      go_wp2_with fail
      go_quiet (fail)
      go_wp2_with fail
      go_ret
      refine ⟨ret_bool ?_, below_drewN (Below.refl _ _) _⟩
      simp
  exact key n rfl

/-- A mask more. -/
theorem acted_mask {F : Nat → Prop} {b n : Nat} {ms : List Int} {ts : List (Int × Int)} {w w2 w3 : World} {v1 v2 : Value} {mask : Int}
    (hb : But F w.heap.size w w2) (hB : Blk w2 b 49 #[.int .i64 n, v1, v2]) (h1 : OwnsAt w2 0 3 1 v1 ms.length (ms.map (Value.int .i64))) (h2 : OwnsAt w2 0 56 2 v2 ts.length (flat ts)) (n1 : v1.ownBlock ≠ some b) (n2 : v2.ownBlock ≠ some b)
    (n3 : ∀ k, v1.ownBlock = some k → v2.ownBlock ≠ some k) (hF : ∀ k, F k ↔ k = b ∨ v1.ownBlock = some k ∨ v2.ownBlock = some k)
    (h : PutMask b (.int .i64 n) v1 v2 (ms.length + 1) (ms.map (Value.int .i64) ++ [.int .i64 mask]) w2 w3) : Acted F b n (ms ++ [mask]) ts w w3 := by
  obtain ⟨v', hB', ho, hbt, hv⟩ := h
  have hown : ∀ k, v'.ownBlock = some k → v1.ownBlock = some k ∨ w2.heap.size ≤ k := by
    intro k hk
    rcases hv with h | ⟨g, h, hg⟩
    · left; rw [← h]; exact hk
    · right; rw [h] at hk; cases hk; exact hg
  refine ⟨fun k => k = b ∨ v'.ownBlock = some k ∨ v2.ownBlock = some k, ⟨v', v2, hB', ?_, ?_, ?_, n2, ?_, fun k => Iff.rfl⟩, ?_, ?_⟩
  · rw [List.length_append, List.map_append]; exact ho
  · refine h2.but hbt (fun k hk => ⟨(h2.lt k hk).2, ?_⟩)
    rintro (rfl | h)
    · exact n2 hk
    · exact n3 k h hk
  · intro h
    rcases hown b h with h | h
    · exact n1 h
    · have := hB.lt; omega
  · intro k hk hk2
    rcases hown k hk with h | h
    · exact n3 k h hk2
    · have := (h2.lt k hk2).2; omega
  · exact hb.trans (hbt.mono hb.size (fun k hk hs => by
      rcases hs with rfl | h
      · exact (hF _).2 (.inl rfl)
      · exact (hF k).2 (.inr (.inl h))))
  · rintro k (rfl | h | h)
    · exact .inl ((hF _).2 (.inl rfl))
    · rcases hown k h with h | h
      · exact .inl ((hF k).2 (.inr (.inl h)))
      · exact .inr (Nat.le_trans hb.size h)
    · exact .inl ((hF k).2 (.inr (.inr h)))
theorem acted_turn {F : Nat → Prop} {b n : Nat} {ms : List Int} {ts : List (Int × Int)} {w w2 w3 : World} {v1 v2 : Value} {t : Int × Int}
    (hb : But F w.heap.size w w2) (hB : Blk w2 b 49 #[.int .i64 n, v1, v2]) (h1 : OwnsAt w2 0 3 1 v1 ms.length (ms.map (Value.int .i64))) (h2 : OwnsAt w2 0 56 2 v2 ts.length (flat ts)) (n1 : v1.ownBlock ≠ some b) (n2 : v2.ownBlock ≠ some b)
    (n3 : ∀ k, v1.ownBlock = some k → v2.ownBlock ≠ some k) (hF : ∀ k, F k ↔ k = b ∨ v1.ownBlock = some k ∨ v2.ownBlock = some k)
    (h : PutTurn b (.int .i64 n) v1 v2 (ts.length + 1) (flat ts ++ [.int .i64 t.1, .int .i64 t.2]) w2 w3) : Acted F b n ms (ts ++ [t]) w w3 := by
  obtain ⟨v', hB', ho, hbt, hv⟩ := h
  have hown : ∀ k, v'.ownBlock = some k → v2.ownBlock = some k ∨ w2.heap.size ≤ k := by
    intro k hk
    rcases hv with h | ⟨g, h, hg⟩
    · left; rw [← h]; exact hk
    · right; rw [h] at hk; cases hk; exact hg
  refine ⟨fun k => k = b ∨ v1.ownBlock = some k ∨ v'.ownBlock = some k, ⟨v1, v', hB', ?_, ?_, n1, ?_, ?_, fun k => Iff.rfl⟩, ?_, ?_⟩
  · refine h1.but hbt (fun k hk => ⟨(h1.lt k hk).2, ?_⟩)
    rintro (rfl | h)
    · exact n1 hk
    · exact n3 k hk h
  · rw [List.length_append, flat_snoc]; exact ho
  · intro h
    rcases hown b h with h | h
    · exact n2 h
    · have := hB.lt; omega
  · intro k hk hk2
    rcases hown k hk2 with h | h
    · exact n3 k hk h
    · have := (h1.lt k hk).2; omega
  · exact hb.trans (hbt.mono hb.size (fun k hk hs => by
      rcases hs with rfl | h
      · exact (hF _).2 (.inl rfl)
      · exact (hF k).2 (.inr (.inr h))))
  · rintro k (rfl | h | h)
    · exact .inl ((hF _).2 (.inl rfl))
    · exact .inl ((hF k).2 (.inr (.inl h)))
    · rcases hown k h with h | h
      · exact .inl ((hF k).2 (.inr (.inr h)))
      · exact .inr (Nat.le_trans hb.size h)

attribute [local irreducible] wpMix

set_option maxHeartbeats 1000000 in
theorem Erase_ok (F : Nat → Prop) (b n : Nat) (ms : List Int) (ts : List (Int × Int)) (mask : Int) (w : World) (hI : AirInv w F b n ms ts) (hn : 1 ≤ n ∧ n ≤ 8) (h0 : 0 ≤ mask) (hm : mask < 2 ^ n) (hl : ms.length < 4096) :
    Calls Try.prog 10 #[.pointer (some ⟨b, 0, none⟩), .int .i64 mask] w fun e w' => e = .returned (.int .i64 0) ∧ Acted F b n (ms ++ [mask]) ts w w' := by
  have HI := Lib.hid (And.intro hI (And.intro hn (And.intro h0 (And.intro hm hl))))
  clear hI hn h0 hm hl
  go_enter Try.func10, Try.ntmps10
  go_wp2_with fail
  generalize hW0 : World.alloc _ _ = W0
  have hb0 : Below w.heap.size w W0 := by rw [← hW0]; exact (((Below.refl _ _).alloc (Nat.le_refl _) _).alloc (by simp) _).alloc (by simp; omega) _
  have k2 : Blk W0 w.heap.size 23 #[.pointer (some ⟨b, 0, none⟩)] := by rw [← hW0]; exact ((Blk.new _ _ _).alloc _).alloc _
  have k3 : Blk W0 (w.heap.size + 1) 3 #[.int .i64 mask] := by rw [← hW0]; exact ((Blk.new (w.alloc _) _ _).same_g (by simp)).alloc _
  have k4 : Blk W0 (w.heap.size + 1 + 1) 27 #[.func (.func 18) #[] #[.pointer (some ⟨w.heap.size + 1, 0, none⟩)], .func (.func 19) #[] #[.pointer (some ⟨w.heap.size + 1, 0, none⟩), .pointer (some ⟨w.heap.size, 0, none⟩)]] := by
    rw [← hW0]; exact (Blk.new ((w.alloc _).alloc _) _ _).same_g (by simp)
  clear hW0
  obtain ⟨v1, v2, hB, h1, h2, n1, n2, n3, hF⟩ := HI.out.1.below hb0
  refine (all_two _ _ _ _ _ W0 k4 (erase1 _ mask W0 k3) (erase2 _ _ b n mask v1 v2 W0 HI.out.2.1 k3 k2 hB)).mono ?_
  rintro e w2 ⟨rfl, hb2⟩
  rw [decide_eq_true HI.out.2.2.1, decide_eq_true HI.out.2.2.2.1]
  have hlt := HI.out.1.lt
  have hb02 : Below w.heap.size w w2 := hb0.trans (hb2.mono hb0.size)
  have c2 := (k2.below hb2 k2.lt).cell 0
  have c3 := (k3.below hb2 k3.lt).cell 0
  have l2 := (k2.below hb2 k2.lt).lt
  have l3 := (k3.below hb2 k3.lt).lt
  have nF2 : ¬ F w.heap.size := fun h => by have := hlt _ h; omega
  have nF3 : ¬ F (w.heap.size + 1) := fun h => by have := hlt _ h; omega
  have q2 : ∀ X : Cls fun W => But F w2.heap.size w2 W, X.W.cell? ⟨w.heap.size, 0, none⟩ = some (.pointer (some ⟨b, 0, none⟩)) := fun X => (but_cell X _ _ l2 nF2).trans c2
  have q3 : ∀ X : Cls fun W => But F w2.heap.size w2 W, X.W.cell? ⟨w.heap.size + 1, 0, none⟩ = some (.int .i64 mask) := fun X => (but_cell X _ _ l3 nF3).trans c3
  have HK := Lib.hid (And.intro hb02 (And.intro (hB.below hb2 hB.lt) (And.intro (h1.below hb2) (And.intro (h2.below hb2) (And.intro n1 (And.intro n2 (And.intro n3 hF)))))))
  clear k2 k3 k4 hB h1 h2 n1 n2 n3 hF hlt hb0 hb2 hb02 c2 c3 nF2 nF3
  go_wp2_with fail
  refine wp_region_sub [4] (fun W => But F w2.heap.size w2 W) (by kernel_rfl) (by kernel_rfl) ((But.refl _ _ _).drew) (fun _ => ?_)
  iterate 4 (refine mix_read (by kernel_rfl) (by rfl) (by rfl) (by rfl) (of_decide_eq_true (by kernel_rfl)) ?_; apply Exists.intro; apply Exists.intro; refine ⟨fun w' hw' K hK => ?_, ?_, ?_⟩; (obtain ⟨X, rfl⟩ := hw'; go_wp2_with fail; first | exact ⟨rfl, rfl⟩ | exact rfl); rfl)
  (refine mix_act (by rfl) (by rfl) (fun K hK => ?_))
  go_wp2_with fail
  obtain ⟨hb02, hB, h1, h2, n1, n2, n3, hF⟩ := HK.out
  have hbd : But F w.heap.size w w2.drew := (But.of_below hb02).drew
  have hput := put_mask b (.int .i64 n) v1 v2 ms.length (ms.map (Value.int .i64)) mask w2.drew hB.drew (h1.keep (fun _ _ => rfl)) n1 HI.out.2.2.2.2
  refine hput.mono ?_
  rintro e w3 ⟨rfl, hp⟩
  have hA := acted_mask hbd hB.drew (h1.keep (fun _ _ => rfl)) (h2.keep (fun _ _ => rfl)) n1 n2 n3 hF hp
  have hbF : But F w2.heap.size w2 w3 := by
    obtain ⟨_, _, _, hbt, _⟩ := hp
    exact (But.refl F _ _).drew.trans (hbt.mono (Nat.le_refl _) (fun k _ hs => by
      rcases hs with rfl | h
      · exact (hF _).2 (.inl rfl)
      · exact (hF k).2 (.inr (.inl h))))
  have HA := Lib.hid (And.intro hA hbF)
  clear hA hbF hp hput hbd hb02 hB h1 h2 n1 n2 n3 hF q2 q3
  go_wp2_with fail
  refine ⟨.mk HA.out.2, ?_⟩
  iterate 1 (refine mix_read (by kernel_rfl) (by rfl) (by rfl) (by rfl) (of_decide_eq_true (by kernel_rfl)) ?_; apply Exists.intro; apply Exists.intro; refine ⟨fun w' hw' K hK => ?_, ?_, ?_⟩; (obtain ⟨X, rfl⟩ := hw'; go_wp2_with fail; first | exact ⟨rfl, rfl⟩ | exact rfl); rfl)
  refine mix_nil ?_
  go_wp2_with fail
  go_ret
  exact ⟨rfl, HA.out.1⟩

set_option maxHeartbeats 1000000 in
theorem Erase_bad (F : Nat → Prop) (b n : Nat) (ms : List Int) (ts : List (Int × Int)) (mask : Int) (w : World) (hI : AirInv w F b n ms ts) (hn : 1 ≤ n ∧ n ≤ 8) (hm : mask < 0 ∨ 2 ^ n ≤ mask) :
    Calls Try.prog 10 #[.pointer (some ⟨b, 0, none⟩), .int .i64 mask] w fun e w' => e = .returned (.int .i64 2) ∧ Below w.heap.size w w' := by
  have hand : (decide (0 ≤ mask) && decide (mask < 2 ^ n)) = false := by
    rcases hm with h | h
    · rw [decide_eq_false (by omega)]; rfl
    · rw [decide_eq_false (p := mask < 2 ^ n) (by omega), Bool.and_false]
  have HI := Lib.hid (And.intro hI (And.intro hn hand))
  clear hI hn hm hand
  go_enter Try.func10, Try.ntmps10
  go_wp2_with fail
  generalize hW0 : World.alloc _ _ = W0
  have hb0 : Below w.heap.size w W0 := by rw [← hW0]; exact (((Below.refl _ _).alloc (Nat.le_refl _) _).alloc (by simp) _).alloc (by simp; omega) _
  have k2 : Blk W0 w.heap.size 23 #[.pointer (some ⟨b, 0, none⟩)] := by rw [← hW0]; exact ((Blk.new _ _ _).alloc _).alloc _
  have k3 : Blk W0 (w.heap.size + 1) 3 #[.int .i64 mask] := by rw [← hW0]; exact ((Blk.new (w.alloc _) _ _).same_g (by simp)).alloc _
  have k4 : Blk W0 (w.heap.size + 1 + 1) 27 #[.func (.func 18) #[] #[.pointer (some ⟨w.heap.size + 1, 0, none⟩)], .func (.func 19) #[] #[.pointer (some ⟨w.heap.size + 1, 0, none⟩), .pointer (some ⟨w.heap.size, 0, none⟩)]] := by
    rw [← hW0]; exact (Blk.new ((w.alloc _).alloc _) _ _).same_g (by simp)
  clear hW0
  obtain ⟨v1, v2, hB, h1, h2, n1, n2, n3, hF⟩ := HI.out.1.below hb0
  refine (all_two _ _ _ _ _ W0 k4 (erase1 _ mask W0 k3) (erase2 _ _ b n mask v1 v2 W0 HI.out.2.1 k3 k2 hB)).mono ?_
  rintro e w2 ⟨rfl, hb2⟩
  rw [HI.out.2.2]
  have HB := Lib.hid (hb0.trans (hb2.mono hb0.size))
  clear k2 k3 k4 hB h1 h2 n1 n2 n3 hF hb0 hb2
  go_wp2_with fail
  go_ret
  exact ⟨rfl, HB.out⟩

theorem turn1 (g : Nat) (at_ : Int) (w : World) (hB : Blk w g 3 #[.int .i64 at_]) : FnB w (.func (.func 21) #[] #[.pointer (some ⟨g, 0, none⟩)]) (decide (0 ≤ at_ ∧ at_ ≤ 72)) := by
  refine ⟨_, _, _, rfl, enters_of Try.func21 (by kernel_rfl) rfl, fun W hW => ?_⟩
  have c0 := (hB.below hW hB.lt).cell 0
  clear hB hW
  simp only [List.append_toArray, List.nil_append]
  have key : ∀ x, decide (0 ≤ at_) = x → Calls Try.prog 21 #[.pointer (some ⟨g, 0, none⟩)] W fun e W' => e = .returned (.bool (x && decide (at_ ≤ 72))) ∧ Below W.heap.size W W' := by
    intro x hx
    cases x
    all_goals
      go_enter Try.func21, Try.ntmps21
      go_wp2_with fail
      go_ret
      exact ⟨rfl, Below.refl _ _⟩
  have := key _ rfl
  rwa [← Bool.decide_and] at this
theorem turn2 (g : Nat) (mask : Int) (w : World) (hB : Blk w g 3 #[.int .i64 mask]) : FnB w (.func (.func 22) #[] #[.pointer (some ⟨g, 0, none⟩)]) (decide (0 < mask ∧ mask < 256)) := by
  refine ⟨_, _, _, rfl, enters_of Try.func22 (by kernel_rfl) rfl, fun W hW => ?_⟩
  have c0 := (hB.below hW hB.lt).cell 0
  clear hB hW
  simp only [List.append_toArray, List.nil_append]
  have key : ∀ x, decide (0 < mask) = x → Calls Try.prog 22 #[.pointer (some ⟨g, 0, none⟩)] W fun e W' => e = .returned (.bool (x && decide (mask < 256))) ∧ Below W.heap.size W W' := by
    intro x hx
    cases x
    all_goals
      go_enter Try.func22, Try.ntmps22
      go_wp2_with fail
      go_ret
      exact ⟨rfl, Below.refl _ _⟩
  have := key _ rfl
  rwa [← Bool.decide_and] at this

set_option maxHeartbeats 1000000 in
theorem Turn_ok (F : Nat → Prop) (b n : Nat) (ms : List Int) (ts : List (Int × Int)) (at_ mask : Int) (w : World) (hI : AirInv w F b n ms ts) (h1 : 0 ≤ at_ ∧ at_ ≤ 72) (h2 : 0 < mask ∧ mask < 256) (hl : ts.length < 4096) :
    Calls Try.prog 12 #[.pointer (some ⟨b, 0, none⟩), .int .i64 at_, .int .i64 mask] w fun e w' => e = .returned (.int .i64 0) ∧ Acted F b n ms (ts ++ [(at_, mask)]) w w' := by
  have HI := Lib.hid (And.intro hI (And.intro h1 (And.intro h2 hl)))
  clear hI h1 h2 hl
  go_enter Try.func12, Try.ntmps12
  go_wp2_with fail
  generalize hW0 : World.alloc _ _ = W0
  have hb0 : Below w.heap.size w W0 := by rw [← hW0]; exact (((Below.refl _ _).alloc (Nat.le_refl _) _).alloc (by simp) _).alloc (by simp; omega) _
  have k2 : Blk W0 w.heap.size 3 #[.int .i64 at_] := by rw [← hW0]; exact ((Blk.new _ _ _).alloc _).alloc _
  have k3 : Blk W0 (w.heap.size + 1) 3 #[.int .i64 mask] := by rw [← hW0]; exact ((Blk.new (w.alloc _) _ _).same_g (by simp)).alloc _
  have k4 : Blk W0 (w.heap.size + 1 + 1) 27 #[.func (.func 21) #[] #[.pointer (some ⟨w.heap.size, 0, none⟩)], .func (.func 22) #[] #[.pointer (some ⟨w.heap.size + 1, 0, none⟩)]] := by
    rw [← hW0]; exact (Blk.new ((w.alloc _).alloc _) _ _).same_g (by simp)
  clear hW0
  obtain ⟨v1, v2, hB, h1, h2, n1, n2, n3, hF⟩ := HI.out.1.below hb0
  refine (all_two _ _ _ _ _ W0 k4 (turn1 _ at_ W0 k2) (turn2 _ mask W0 k3)).mono ?_
  rintro e w2 ⟨rfl, hb2⟩
  rw [decide_eq_true HI.out.2.1, decide_eq_true HI.out.2.2.1]
  have hlt := HI.out.1.lt
  have hb02 : Below w.heap.size w w2 := hb0.trans (hb2.mono hb0.size)
  have c2 := (k2.below hb2 k2.lt).cell 0
  have c3 := (k3.below hb2 k3.lt).cell 0
  have l2 := (k2.below hb2 k2.lt).lt
  have l3 := (k3.below hb2 k3.lt).lt
  have nF2 : ¬ F w.heap.size := fun h => by have := hlt _ h; omega
  have nF3 : ¬ F (w.heap.size + 1) := fun h => by have := hlt _ h; omega
  have q2 : ∀ X : Cls fun W => But F w2.heap.size w2 W, X.W.cell? ⟨w.heap.size, 0, none⟩ = some (.int .i64 at_) := fun X => (but_cell X _ _ l2 nF2).trans c2
  have q3 : ∀ X : Cls fun W => But F w2.heap.size w2 W, X.W.cell? ⟨w.heap.size + 1, 0, none⟩ = some (.int .i64 mask) := fun X => (but_cell X _ _ l3 nF3).trans c3
  have HK := Lib.hid (And.intro hb02 (And.intro (hB.below hb2 hB.lt) (And.intro (h1.below hb2) (And.intro (h2.below hb2) (And.intro n1 (And.intro n2 (And.intro n3 hF)))))))
  clear k2 k3 k4 hB h1 h2 n1 n2 n3 hF hlt hb0 hb2 hb02 c2 c3 nF2 nF3
  go_wp2_with fail
  refine wp_region_sub [6] (fun W => But F w2.heap.size w2 W) (by kernel_rfl) (by kernel_rfl) ((But.refl _ _ _).drew) (fun _ => ?_)
  iterate 6 (refine mix_read (by kernel_rfl) (by rfl) (by rfl) (by rfl) (of_decide_eq_true (by kernel_rfl)) ?_; apply Exists.intro; apply Exists.intro; refine ⟨fun w' hw' K hK => ?_, ?_, ?_⟩; (obtain ⟨X, rfl⟩ := hw'; go_wp2_with fail; first | exact ⟨rfl, rfl⟩ | exact rfl); rfl)
  (refine mix_act (by rfl) (by rfl) (fun K hK => ?_))
  go_wp2_with fail
  obtain ⟨hb02, hB, h1, h2, n1, n2, n3, hF⟩ := HK.out
  have hbd : But F w.heap.size w w2.drew := (But.of_below hb02).drew
  have hput := put_turn b (.int .i64 n) v1 v2 ts.length (flat ts) at_ mask w2.drew hB.drew (h2.keep (fun _ _ => rfl)) n2 HI.out.2.2.2
  refine hput.mono ?_
  rintro e w3 ⟨rfl, hp⟩
  have hA := acted_turn (t := (at_, mask)) hbd hB.drew (h1.keep (fun _ _ => rfl)) (h2.keep (fun _ _ => rfl)) n1 n2 n3 hF hp
  have hbF : But F w2.heap.size w2 w3 := by
    obtain ⟨_, _, _, hbt, _⟩ := hp
    exact (But.refl F _ _).drew.trans (hbt.mono (Nat.le_refl _) (fun k _ hs => by
      rcases hs with rfl | h
      · exact (hF _).2 (.inl rfl)
      · exact (hF k).2 (.inr (.inr h))))
  have HA := Lib.hid (And.intro hA hbF)
  clear hA hbF hp hput hbd hb02 hB h1 h2 n1 n2 n3 hF q2 q3
  go_wp2_with fail
  refine ⟨.mk HA.out.2, ?_⟩
  iterate 1 (refine mix_read (by kernel_rfl) (by rfl) (by rfl) (by rfl) (of_decide_eq_true (by kernel_rfl)) ?_; apply Exists.intro; apply Exists.intro; refine ⟨fun w' hw' K hK => ?_, ?_, ?_⟩; (obtain ⟨X, rfl⟩ := hw'; go_wp2_with fail; first | exact ⟨rfl, rfl⟩ | exact rfl); rfl)
  refine mix_nil ?_
  go_wp2_with fail
  go_ret
  exact ⟨rfl, HA.out.1⟩

set_option maxHeartbeats 1000000 in
theorem Turn_bad (b : Nat) (at_ mask : Int) (w : World) (h : ¬ ((0 ≤ at_ ∧ at_ ≤ 72) ∧ (0 < mask ∧ mask < 256))) :
    Calls Try.prog 12 #[.pointer (some ⟨b, 0, none⟩), .int .i64 at_, .int .i64 mask] w fun e w' => e = .returned (.int .i64 2) ∧ Below w.heap.size w w' := by
  have hand : (decide (0 ≤ at_ ∧ at_ ≤ 72) && decide (0 < mask ∧ mask < 256)) = false := by
    rw [← Bool.decide_and]; exact decide_eq_false h
  have HI := Lib.hid hand
  clear h hand
  go_enter Try.func12, Try.ntmps12
  go_wp2_with fail
  generalize hW0 : World.alloc _ _ = W0
  have hb0 : Below w.heap.size w W0 := by rw [← hW0]; exact (((Below.refl _ _).alloc (Nat.le_refl _) _).alloc (by simp) _).alloc (by simp; omega) _
  have k2 : Blk W0 w.heap.size 3 #[.int .i64 at_] := by rw [← hW0]; exact ((Blk.new _ _ _).alloc _).alloc _
  have k3 : Blk W0 (w.heap.size + 1) 3 #[.int .i64 mask] := by rw [← hW0]; exact ((Blk.new (w.alloc _) _ _).same_g (by simp)).alloc _
  have k4 : Blk W0 (w.heap.size + 1 + 1) 27 #[.func (.func 21) #[] #[.pointer (some ⟨w.heap.size, 0, none⟩)], .func (.func 22) #[] #[.pointer (some ⟨w.heap.size + 1, 0, none⟩)]] := by
    rw [← hW0]; exact (Blk.new ((w.alloc _).alloc _) _ _).same_g (by simp)
  clear hW0
  refine (all_two _ _ _ _ _ W0 k4 (turn1 _ at_ W0 k2) (turn2 _ mask W0 k3)).mono ?_
  rintro e w2 ⟨rfl, hb2⟩
  rw [HI.out]
  have HB := Lib.hid (hb0.trans (hb2.mono hb0.size))
  clear k2 k3 k4 hb0 hb2
  go_wp2_with fail
  go_ret
  exact ⟨rfl, HB.out⟩

end Go.Proofs.Ytgolelpncdadkaa
