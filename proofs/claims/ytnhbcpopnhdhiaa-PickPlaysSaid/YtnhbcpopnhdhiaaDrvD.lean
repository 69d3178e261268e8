import Derived.Test.YtnhbcpopnhdhiaaDrvC
set_option linter.unusedSimpArgs false
set_option linter.unusedVariables false
namespace Go.Proofs.Ytnhbcpopnhdhiaa
open Go.RowKit

def iCells (f : Nat → Int) : Array Value := ((List.range 29).map fun i => Value.int .i64 (f i)).toArray
theorem iCells_at (f : Nat → Int) (i : Nat) (h : i < 29) : (iCells f)[i]? = some (.int .i64 (f i)) := by simp [iCells, h]

theorem New_yes (a : Int) (w : World) (h : 1000 ≤ a ∧ a ≤ 1000000) :
    Calls Try.prog 7 #[.int .i64 a] w fun e w' => e = .returned (.pointer (some ⟨w.heap.size, 0, none⟩)) ∧ Below w.heap.size w w' ∧ Blk w' w.heap.size 51 (dCells a (fun _ => 0) 1 false) := by
  obtain ⟨h1, h2⟩ := h
  go_enter Try.func7, Try.ntmps7
  go_wp2
  go_ret
  exact ⟨rfl, (Below.refl _ _).alloc (Nat.le_refl _) _, Blk.new _ _ _⟩
theorem New_no (a : Int) (w : World) (h : a < 1000 ∨ 1000000 < a) :
    Calls Try.prog 7 #[.int .i64 a] w fun e w' => e = .returned (.pointer none) ∧ w = w' := by
  rcases h with h | h
  · go_enter Try.func7, Try.ntmps7
    go_wp2
    go_ret
    exact ⟨rfl, rfl⟩
  · have h' : ¬ a < 1000 := by omega
    go_enter Try.func7, Try.ntmps7
    go_wp2
    go_ret
    exact ⟨rfl, rfl⟩
theorem RNew_yes (a : Int) (w : World) (h : 1000 ≤ a ∧ a ≤ 1000000) :
    Calls Try.prog 8 #[.int .i64 a] w fun e w' => e = .returned (.pointer (some ⟨w.heap.size, 0, none⟩)) ∧ Below w.heap.size w w' ∧ Blk w' w.heap.size 41 (dCells a (fun _ => 0) 1 false) := by
  obtain ⟨h1, h2⟩ := h
  go_enter Try.func8, Try.ntmps8
  go_wp2
  go_ret
  exact ⟨rfl, (Below.refl _ _).alloc (Nat.le_refl _) _, Blk.new _ _ _⟩
theorem RNew_no (a : Int) (w : World) (h : a < 1000 ∨ 1000000 < a) :
    Calls Try.prog 8 #[.int .i64 a] w fun e w' => e = .returned (.pointer none) ∧ w = w' := by
  rcases h with h | h
  · go_enter Try.func8, Try.ntmps8
    go_wp2
    go_ret
    exact ⟨rfl, rfl⟩
  · have h' : ¬ a < 1000 := by omega
    go_enter Try.func8, Try.ntmps8
    go_wp2
    go_ret
    exact ⟨rfl, rfl⟩

/-- The deficit that Deficit tells. -/
def defOf (df : Nat → Int) (m : Int) : Int := if 1 ≤ m ∧ m ≤ 28 then df m.toNat else 0

theorem Deficit_any (b : Nat) (m : Int) (w : World) (q : Int) (df : Nat → Int) (pt : Nat) (fed : Bool) (hB : Blk w b 51 (dCells q df pt fed)) :
    Calls Try.prog 14 #[.pointer (some ⟨b, 0, none⟩), .int .i64 m] w fun e w' => e = .returned (.int .i64 (defOf df m)) ∧ w = w' := by
  by_cases h1 : m < 1
  · go_enter Try.func14, Try.ntmps14
    go_wp2
    go_ret
    exact ⟨ret_int (by unfold defOf; rw [if_neg (by omega)]), rfl⟩
  · by_cases h2 : 28 < m
    · go_enter Try.func14, Try.ntmps14
      go_wp2
      go_ret
      exact ⟨ret_int (by unfold defOf; rw [if_neg (by omega)]), rfl⟩
    · obtain ⟨k, rfl⟩ : ∃ k : Nat, m = k := ⟨m.toNat, by omega⟩
      have h3 := (hB.cell (1 + k)).trans (dCells_df _ _ _ _ _ (by omega))
      clear hB
      go_enter Try.func14, Try.ntmps14
      go_wp2
      go_ret
      exact ⟨ret_int (by unfold defOf; rw [if_pos (by omega)]; simp), rfl⟩


theorem wanted_any (A : Option Addr) (len cap : Nat) (zs : List Int) (hlen : zs.length = len) (B : Nat) (x : Int) (w : World) (hm : len ≤ 9223372036854775807) (hR : Rd w B A (zs.map (Value.int .i64))) :
    Calls Try.prog 38 #[.slice A len cap, .int .i64 x] w fun e w' => e = .returned (.bool (zs.any (· == x))) ∧ w = w' := by
  have HL := Lib.hid hlen
  go_enter Try.func38, Try.ntmps38
  clear hlen
  go_wp2
  go_loop [5] (fun i => ∃ k : Nat, k ≤ len ∧ i = .int .i64 k ∧ (zs.take k).any (· == x) = false) (fun i => len - (intOf i).toNat)
  case atStart => exact ⟨0, Nat.zero_le _, rfl, rfl⟩
  case round =>
    obtain ⟨k, hk, rfl, hn⟩ := hrel
    have HN := Lib.hid hn
    clear hn
    by_cases hlt : k < len
    · have hl := HL.out
      obtain ⟨b, o, rfl, hb, hc⟩ := hR.at_ (k := k) (by simp [hl, hlt])
      have hg : (zs.map (Value.int .i64)).getD k undef = .int .i64 (zs.getD k 0) := by simp [hl, hlt]
      rw [hg] at hc
      have HS := Lib.hid (take_snoc' zs k 0 (by omega))
      clear hg hl
      generalize zs.getD k 0 = y at *
      by_cases hy : y = x
      · subst hy
        go_wp2
        go_ret
        refine ⟨ret_bool ?_, rfl⟩
        have : zs = zs.take (k + 1) ++ zs.drop (k + 1) := (List.take_append_drop _ _).symm
        rw [this, HS.out]; simp
      · have hy' : (y == x) = false := by simpa using hy
        go_wp2
        go_round
        case rel => exact ⟨k + 1, by omega, by go_num, by rw [HS.out]; simp only [List.any_append, HN.out]; simpa using hy⟩
        case measure => simp [intOf]; omega
    · go_wp2
      go_ret
      refine ⟨ret_bool ?_, rfl⟩
      rw [← HN.out, List.take_of_length_le (by have := HL.out; omega)]

end Go.Proofs.Ytnhbcpopnhdhiaa
