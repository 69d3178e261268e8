/- DrrKnown: parts. -/
import Derived.Test.YtfbfjlogcphlfaaDrrL
import Derived.Deep.CutBlock
set_option linter.unusedSimpArgs false
set_option linter.unusedVariables false
namespace Go.Proofs.Ytfbfjlogcphlfaa
open Go.RowKit

theorem rd_lit (W : World) (t : TypeId) (xs : List Int) : Rd (W.alloc (.cells (xs.map (Value.int .i64)).toArray t)) (W.heap.size + 1) (some ⟨W.heap.size, 0, none⟩) (xs.map (Value.int .i64)) := by
  refine .inr ⟨_, _, rfl, by omega, fun j u hj => ?_⟩
  rw [(Blk.new W t _).cell, Nat.zero_add, List.getElem?_toArray]
  exact hj

theorem Deficit_nil (m : Int) (w : World) :
    Calls Try.prog 16 #[.pointer none, .int .i64 m] w fun e w' => e = .returned (.int .i64 0) ∧ w = w' := by
  go_enter Try.func16, Try.ntmps16
  go_wp2
  go_ret
  exact ⟨rfl, rfl⟩

theorem Next_nil (A : Option Addr) (len cap : Nat) (vc vw : Value) (w : World) :
    Calls Try.prog 11 #[.pointer none, .slice A len cap, vc, vw] w fun e w' => e = .returned (.tuple #[.int .i64 0, .pointer none]) ∧ Below w.heap.size w w' := by
  refine calls_of_marks Try.func11 rfl ?_
  simp only [Try.ntmps11, List.size_toArray, List.length_cons, List.length_nil, Nat.reduceAdd, Nat.reduceSub, Array.replicate_succ, Array.replicate_zero, List.push_toArray, List.append_toArray, List.nil_append, List.cons_append]
  go_wp2_with fail
  all_goals
    refine marks_ret0 (results_tmp2 rfl _ _ _) ⟨rfl, ?_⟩
    exact (((Below.refl _ _).alloc (Nat.le_refl _) _).alloc (by simp) _)

theorem Next_nocost (b : Nat) (A : Option Addr) (len cap : Nat) (vw : Value) (w : World) :
    Calls Try.prog 11 #[.pointer (some ⟨b, 0, none⟩), .slice A len cap, .nilFunc, vw] w fun e w' => e = .returned (.tuple #[.int .i64 0, .pointer (some ⟨b, 0, none⟩)]) ∧ Below w.heap.size w w' := by
  refine calls_of_marks Try.func11 rfl ?_
  simp only [Try.ntmps11, List.size_toArray, List.length_cons, List.length_nil, Nat.reduceAdd, Nat.reduceSub, Array.replicate_succ, Array.replicate_zero, List.push_toArray, List.append_toArray, List.nil_append, List.cons_append]
  have hn : ∀ w, (binOp .eql 36 .nilFunc .nilFunc).run Try.prog w = .ok (.bool true) w := fun w => by kernel_rfl
  go_wp2_with fail
  all_goals
    refine marks_ret0 (results_tmp2 rfl _ _ _) ⟨rfl, ?_⟩
    exact (((Below.refl _ _).alloc (Nat.le_refl _) _).alloc (by simp) _)

theorem Next_noweight (b : Nat) (A : Option Addr) (len cap : Nat) (f : Fn) (x y : Array Value) (w : World) :
    Calls Try.prog 11 #[.pointer (some ⟨b, 0, none⟩), .slice A len cap, .func f x y, .nilFunc] w fun e w' => e = .returned (.tuple #[.int .i64 0, .pointer (some ⟨b, 0, none⟩)]) ∧ Below w.heap.size w w' := by
  refine calls_of_marks Try.func11 rfl ?_
  simp only [Try.ntmps11, List.size_toArray, List.length_cons, List.length_nil, Nat.reduceAdd, Nat.reduceSub, Array.replicate_succ, Array.replicate_zero, List.push_toArray, List.append_toArray, List.nil_append, List.cons_append]
  have hn : ∀ w, (binOp .eql 36 .nilFunc .nilFunc).run Try.prog w = .ok (.bool true) w := fun w => by kernel_rfl
  have hfn := fn_nil f x y
  go_wp2_with fail
  all_goals
    refine marks_ret0 (results_tmp2 rfl _ _ _) ⟨rfl, ?_⟩
    exact (((Below.refl _ _).alloc (Nat.le_refl _) _).alloc (by simp) _)

/-- Next at a state that can be reckoned. -/
def StepPost (q : Int) (r : St) (w : World) (e : Ending) (w' : World) : Prop :=
  Below w.heap.size w w' ∧ ∃ bx, e = .returned (.tuple #[.int .i64 (r.2.1 : Int), .pointer (some ⟨bx, 0, none⟩)]) ∧ w.heap.size ≤ bx ∧ Blk w' bx 52 (dCells q r.1 r.2.1 r.2.2) ∧ Dok r.1 ∧ (1 ≤ r.2.1 ∧ r.2.1 ≤ 28)

theorem next_step (b : Nat) (w : World) (q : Int) (s : St) (hp : 1 ≤ s.2.1 ∧ s.2.1 ≤ 28) (hq : 1000 ≤ q ∧ q ≤ 1000000) (hdf : Dok s.1) (hB : Blk w b 52 (dCells q s.1 s.2.1 s.2.2))
    (A : Option Addr) (len cap : Nat) (zs : List Int) (hlen : zs.length = len) (hm : len ≤ 9223372036854775807) (hR : Rd w w.heap.size A (zs.map (Value.int .i64)))
    (cost weight : Nat → Int) (vc vw : Value) (hvc : FnInt cost vc) (hvw : FnInt weight vw) (hne : modesOf zs ≠ [])
    (hs : (nextF q (wants zs) cost weight 2000 s.1 s.2.1 s.2.2).isSome = true) :
    Calls Try.prog 11 #[.pointer (some ⟨b, 0, none⟩), .slice A len cap, vc, vw] w (StepPost q (stepS q zs cost weight s) w) := by
  refine (next_any b w q s.1 s.2.1 s.2.2 hp hq hdf hB A len cap zs hlen hm hR cost weight vc vw hvc hvw).mono ?_
  rintro e w2 ⟨hbb, (⟨h0, _⟩ | ⟨_, bx, df', pt', fed', hn, hdo, hpp, rfl, hle, hx⟩)⟩
  · exact absurd h0 hne
  · have he := stepS_of (s := s) hn hs
    rw [← he]
    exact ⟨hbb, bx, rfl, hle, hx, hdo, hpp⟩

def knCost : Nat → Int := fun _ => 1000
def knWeight : Nat → Int := fun m => if m = 28 then 3 else 1
def knCost2 : Nat → Int := fun m => if m = 7 then 2500 else 1000
def knSt : Nat → St
  | 0 => (fun _ => 0, 1, false)
  | n + 1 => stepS 1000 [1, 28, 28, 0, 99, -3] knCost knWeight (knSt n)
def knMode : Nat → Int
  | 0 => 1 | 1 => 28 | 2 => 28 | 3 => 28 | 4 => 1 | 5 => 28 | 6 => 28 | _ => 28
theorem knSt_succ (k : Nat) : knSt (k + 1) = stepS 1000 [1, 28, 28, 0, 99, -3] knCost knWeight (knSt k) := rfl
theorem kn_some : ∀ i, i < 8 → (nextF 1000 (wants [1, 28, 28, 0, 99, -3]) knCost knWeight 2000 (knSt i).1 (knSt i).2.1 (knSt i).2.2).isSome = true := by decide +kernel
theorem kn_mode : ∀ i, i < 8 → ((knSt (i + 1)).2.1 : Int) = knMode i := by decide +kernel
def keSt : Nat → St
  | 0 => (fun _ => 0, 1, false)
  | 1 => stepS 1000 [6, 7] knCost2 knWeight (fun _ => 0, 1, false)
  | 2 => stepS 1000 [6, 7] knCost2 knWeight (stepS 1000 [6, 7] knCost2 knWeight (fun _ => 0, 1, false))
  | _ => stepS 1000 [6] knCost2 knWeight (stepS 1000 [6, 7] knCost2 knWeight (stepS 1000 [6, 7] knCost2 knWeight (fun _ => 0, 1, false)))
theorem keSt_1 : keSt 1 = stepS 1000 [6, 7] knCost2 knWeight (keSt 0) := rfl
theorem keSt_2 : keSt 2 = stepS 1000 [6, 7] knCost2 knWeight (keSt 1) := rfl
theorem keSt_3 : keSt 3 = stepS 1000 [6] knCost2 knWeight (keSt 2) := rfl
theorem ke_some0 : (nextF 1000 (wants [6, 7]) knCost2 knWeight 2000 (keSt 0).1 (keSt 0).2.1 (keSt 0).2.2).isSome = true := by decide +kernel
theorem ke_some1 : (nextF 1000 (wants [6, 7]) knCost2 knWeight 2000 (keSt 1).1 (keSt 1).2.1 (keSt 1).2.2).isSome = true := by decide +kernel
theorem ke_some2 : (nextF 1000 (wants [6]) knCost2 knWeight 2000 (keSt 2).1 (keSt 2).2.1 (keSt 2).2.2).isSome = true := by decide +kernel
theorem ke_a : (keSt 2).1 7 = 1000 := by decide +kernel
theorem ke_b : (keSt 3).1 7 = 0 := by decide +kernel

/-- A table that holds c below k. -/
def low (c : Int) (k : Nat) : Nat → Int := fun j => if j < k then c else 0
theorem low_next (c : Int) (k : Nat) : upd (low c k) k c = low c (k + 1) := by
  funext j
  unfold upd low
  by_cases hj : j = k
  · subst hj; rw [if_pos rfl, if_pos (by omega)]
  · rw [if_neg hj]
    by_cases h2 : j < k
    · rw [if_pos h2, if_pos (by omega)]
    · rw [if_neg h2, if_neg (by omega)]
theorem iCells_ext {f g : Nat → Int} (h : ∀ j, j < 29 → f j = g j) : iCells f = iCells g := by
  unfold iCells
  congr 1
  exact List.map_congr_left (fun j hj => by rw [h j (by simpa using hj)])
def gCells (k : Nat) : Array Value := ((List.range 8).map fun i => Value.int .i64 (if i < k then knMode i else 0)).toArray
theorem gCells_size (k : Nat) : (gCells k).size = 8 := by simp [gCells]
theorem gCells_set (k : Nat) (h : k < 8) : (gCells k).setIfInBounds k (.int .i64 (knMode k)) = gCells (k + 1) := by
  simp only [gCells, List.setIfInBounds_toArray]
  congr 1
  apply List.ext_getElem?
  intro j
  simp only [List.getElem?_set, List.length_map, List.length_range, List.getElem?_map]
  by_cases hj : j < 8
  · by_cases he : k = j
    · subst he; simp [h]
    · by_cases h2 : j < k
      · simp [hj, he, h2, show j < k + 1 by omega]
      · simp [hj, he, h2, show ¬ j < k + 1 by omega]
  · by_cases he : k = j
    · omega
    · simp [hj, he]

end Go.Proofs.Ytfbfjlogcphlfaa
