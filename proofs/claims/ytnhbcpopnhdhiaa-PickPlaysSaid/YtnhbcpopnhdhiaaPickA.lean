/- Candidates: those that count, the first of them. -/
import Derived.Test.YtnhbcpopnhdhiaaDrvC
import Derived.Test.YtnhbcpopnhdhiaaSlT
import Derived.Test.YtnhbcpopnhdhiaaRes
set_option linter.unusedSimpArgs false
set_option linter.unusedVariables false
namespace Go.Proofs.Ytnhbcpopnhdhiaa
open Go.RowKit Go.Shelf
attribute [local irreducible] wpMix

/-- A candidate: its number, mode, whether it is voice, whether it is old. -/
abbrev Cv := Int × Int × Bool × Bool
def cC (c : Cv) : List Value := [.int .u64 c.1, .int .i64 c.2.1, .bool c.2.2.1, .bool c.2.2.2]
theorem cC_len (c : Cv) : (cC c).length = 4 := rfl
abbrev cV (c : Cv) : Value := .agg #[.int .u64 c.1, .int .i64 c.2.1, .bool c.2.2.1, .bool c.2.2.2]
def noCand : Cv := (0, 0, false, false)

def countsF (c : Cv) : Bool := decide (0 < c.1 ∧ 1 ≤ c.2.1 ∧ c.2.1 ≤ 28)

set_option maxHeartbeats 1000000 in
theorem counts_any (n m : Int) (a b : Bool) (w : World) : Calls Try.prog 20 #[cV (n, m, a, b)] w fun e w' => e = .returned (.bool (countsF (n, m, a, b))) ∧ Below w.heap.size w w' := by
  obtain ⟨q, hq⟩ : ∃ q, countsF (n, m, a, b) = q := ⟨_, rfl⟩
  have hor : (decide (0 < n) = false ∧ q = false) ∨ (decide (0 < n) = true ∧ decide (1 ≤ m) = false ∧ q = false) ∨ (decide (0 < n) = true ∧ decide (1 ≤ m) = true ∧ decide (m ≤ 28) = q) := by
    rw [← hq]
    unfold countsF
    by_cases h1 : 0 < n
    · by_cases h2 : 1 ≤ m
      · right; right; simp [h1, h2]
      · right; left; simp [h1, h2]
    · left; simp [h1]
  rw [hq]
  clear hq
  rcases hor with ⟨g1, rfl⟩ | ⟨g1, g2, rfl⟩ | ⟨g1, g2, g⟩
  all_goals
    go_enter Try.func20, Try.ntmps20
    go_wp2_with fail
    go_ret
    exact ⟨rfl, (Below.refl _ _).alloc (Nat.le_refl _) _⟩

theorem elder_any (x y : Cv) (w : World) : Calls Try.prog 21 #[cV x, cV y] w fun e w' => e = .returned (.bool (decide (x.1 < y.1))) ∧ Below w.heap.size w w' := by
  go_enter Try.func21, Try.ntmps21
  go_wp2_with fail
  go_ret
  exact ⟨rfl, ((Below.refl _ _).alloc (Nat.le_refl _) _).alloc (by simp) _⟩
theorem old_any (x : Cv) (w : World) : Calls Try.prog 22 #[cV x] w fun e w' => e = .returned (.bool x.2.2.2) ∧ Below w.heap.size w w' := by
  go_enter Try.func22, Try.ntmps22
  go_wp2_with fail
  go_ret
  exact ⟨rfl, (Below.refl _ _).alloc (Nat.le_refl _) _⟩
theorem voice_any (x : Cv) (w : World) : Calls Try.prog 24 #[cV x] w fun e w' => e = .returned (.bool x.2.2.1) ∧ Below w.heap.size w w' := by
  go_enter Try.func24, Try.ntmps24
  go_wp2_with fail
  go_ret
  exact ⟨rfl, (Below.refl _ _).alloc (Nat.le_refl _) _⟩

/-- A function value that asks p of a candidate, from the world w on. -/
def FnC (w : World) (v : Value) (p : Cv → Bool) : Prop := ∃ K fs cap, v = .func (.func K) fs cap ∧ (∀ args w, (callFunc K args).run Try.prog w = .ok (.enter K args) w) ∧
  ∀ W, Below w.heap.size w W → ∀ x : Cv, Calls Try.prog K (fs ++ #[cV x] ++ cap) W fun e W' => e = .returned (.bool (p x)) ∧ Below W.heap.size W W'
theorem FnC.below {w w' : World} {v : Value} {p : Cv → Bool} (h : FnC w v p) (hb : Below w.heap.size w w') : FnC w' v p := by
  obtain ⟨K, fs, cap, rfl, h1, h2⟩ := h
  exact ⟨K, fs, cap, rfl, h1, fun W hW => h2 W (hb.trans (hW.mono hb.size))⟩

theorem eq1_any (g : Nat) (mode : Int) (w : World) (hB : Blk w g 3 #[.int .i64 mode]) (x : Cv) : Calls Try.prog 28 #[cV x, .pointer (some ⟨g, 0, none⟩)] w fun e w' => e = .returned (.bool (x.2.1 == mode)) ∧ Below w.heap.size w w' := by
  have c0 := hB.cell 0
  have hl := hB.lt
  clear hB
  go_enter Try.func28, Try.ntmps28
  go_wp2_with fail
  go_ret
  exact ⟨rfl, (Below.refl _ _).alloc (Nat.le_refl _) _⟩

/-- counts(c) && is(c). -/
theorem and_any (g : Nat) (v : Value) (p : Cv → Bool) (w : World) (hB : Blk w g 52 #[v]) (hp : FnC w v p) (n m : Int) (a b : Bool) :
    Calls Try.prog 19 #[cV (n, m, a, b), .pointer (some ⟨g, 0, none⟩)] w fun e w' => e = .returned (.bool (countsF (n, m, a, b) && p (n, m, a, b))) ∧ Below w.heap.size w w' := by
  obtain ⟨K, fs, cap, rfl, he, hc⟩ := hp
  have c0 := hB.cell 0
  have hl := hB.lt
  have HC := Lib.hid hc
  have HB := Lib.hid hB
  clear hB hc
  generalize hq : countsF (n, m, a, b) = q
  have HQ := Lib.hid hq
  clear hq
  go_enter Try.func19, Try.ntmps19
  go_wp2_with fail
  have hc := counts_any n m a b (w.alloc (.cells #[.int .u64 n, .int .i64 m, .bool a, .bool b] 45))
  rw [HQ.out] at hc
  refine hc.mono ?_
  clear hc
  rintro e w1 ⟨rfl, hb⟩
  have hb1 : Below w.heap.size w w1 := ((Below.refl _ _).alloc (Nat.le_refl _) _).trans (hb.mono (by simp))
  have c1 := (HB.out.below hb1 hl).cell 0
  have z := (Blk.new w 45 #[.int .u64 n, .int .i64 m, .bool a, .bool b]).below hb (by simp)
  have d0 := z.cell 0
  have d1 := z.cell 1
  have d2 := z.cell 2
  have d3 := z.cell 3
  have H1 := Lib.hid hb1
  clear z hb hb1
  cases q with
  | false =>
    go_wp2_with fail
    go_ret
    exact ⟨rfl, H1.out⟩
  | true =>
    go_wp2_with fail
    refine (HC.out w1 H1.out (n, m, a, b)).mono ?_
    rintro e w2 ⟨rfl, hb⟩
    have H2 := Lib.hid (H1.out.trans (hb.mono H1.out.size))
    clear hb
    go_wp2_with fail
    go_ret
    exact ⟨rfl, H2.out⟩

end Go.Proofs.Ytnhbcpopnhdhiaa
