import Derived.Test.YtnhbcpopnhdhiaaDrvA
import Derived.Test.YtnhbcpopnhdhiaaRange
set_option linter.unusedSimpArgs false
set_option linter.unusedVariables false
namespace Go.Proofs.Ytnhbcpopnhdhiaa
open Go.RowKit Go.Shelf
attribute [local go_sem] Oper.semAt_some

/-- A mode's number. -/
abbrev Md := { m : Nat // 1 ≤ m ∧ m ≤ 28 }
/-- The modes of a list of numbers. -/
def modesOf (l : List Int) : List Md := l.filterMap fun x => if h : 1 ≤ x ∧ x ≤ 28 then some ⟨x.toNat, by omega, by omega⟩ else none

theorem modesOf_snoc_yes (l : List Int) (x : Int) (h : 1 ≤ x ∧ x ≤ 28) : modesOf (l ++ [x]) = modesOf l ++ [⟨x.toNat, by omega, by omega⟩] := by
  simp [modesOf, List.filterMap_append, h]
theorem modesOf_snoc_no (l : List Int) (x : Int) (h : ¬ (1 ≤ x ∧ x ≤ 28)) : modesOf (l ++ [x]) = modesOf l := by
  simp [modesOf, List.filterMap_append, h]
theorem take_snoc' {α : Type} (l : List α) (k : Nat) (d : α) (h : k < l.length) : l.take (k + 1) = l.take k ++ [l.getD k d] := by
  rw [List.take_succ_eq_append_getElem h]; simp [h]

/-- modes$1: it tells the modes of the list, one behind the other, as long as the round says so. -/
theorem modes1_iter (Bn n0 : Nat) (A : Option Addr) (len cap : Nat) (zs : List Int) (hlen : zs.length = len) (w : World)
    (hm : len ≤ 9223372036854775807) (hBn0 : w.cell? ⟨Bn, 0, none⟩ = some (.slice A len cap)) (hBlt : Bn < w.heap.size) (hR0 : Rd w n0 A (zs.map (Value.int .i64))) (hn0 : n0 ≤ w.heap.size) :
    Iter Try.prog 39 #[.pointer (some ⟨Bn, 0, none⟩)] (fun (x : Md) => #[.int .i64 (x.1 : Int)]) n0 (· = Bn) (modesOf zs) w := by
  intro l J Jx W hk hJ hJx hY h0
  have hBn : W.cell? ⟨Bn, 0, none⟩ = some (.slice A len cap) := (World.cell?_of_block (w := w) (hk.same Bn hBlt (.inr rfl))).trans hBn0
  have hR : Rd W n0 A (zs.map (Value.int .i64)) := hR0.keep hk hn0
  clear hBn0 hR0
  refine callsIn_of_wp Try.func39 rfl trivial ?_ rfl
  simp only [Try.ntmps39, List.size_toArray, List.length_cons, List.length_nil, Nat.reduceAdd, Nat.reduceSub, Array.replicate_succ, Array.replicate_zero, List.push_toArray, List.append_toArray, List.nil_append, List.cons_append]
  gi_wp2
  gi_loopw [7] (fun p wr => ∃ k : Nat, k ≤ len ∧ p = .int .i64 k ∧ n0 ≤ wr.heap.size ∧ Rd wr n0 A (zs.map (Value.int .i64)) ∧ J (modesOf (zs.take k)) wr)
    (fun p wr => len - (intOf p).toNat)
  case atStart => exact ⟨0, Nat.zero_le _, rfl, Nat.le_trans hn0 hk.size, hR, h0⟩
  case round =>
    obtain ⟨k, hkl, rfl, hsz, hRk, hJk⟩ := hrel
    by_cases hlt : k < len
    · obtain ⟨b, o, rfl, hb, hc⟩ := hRk.at_ (k := k) (by simpa [hlen] using hlt)
      have hg : (zs.map (Value.int .i64)).getD k undef = .int .i64 (zs.getD k 0) := by simp [hlen, hlt]
      rw [hg] at hc
      have hsn := take_snoc' zs k 0 (by omega)
      generalize zs.getD k 0 = x at *
      have HS := Lib.hid hsn
      have HL := Lib.hid hlen
      clear hsn hg hlen hBn h0 hR
      by_cases hin : 1 ≤ x ∧ x ≤ 28
      · have hsy := modesOf_snoc_yes (zs.take k) x hin
        obtain ⟨fn, tmps, assign, body, hy, hRR⟩ := hY _ ⟨x.toNat, by omega, by omega⟩ _ (by
          have : modesOf zs = modesOf (zs.take (k + 1)) ++ modesOf (zs.drop (k + 1)) := by unfold modesOf; rw [← List.filterMap_append, List.take_append_drop]
          rw [this, HS.out, hsy]; exact List.prefix_append _ _) hJk
        have hxx : ((x.toNat : Nat) : Int) = x := by omega
        simp only [hxx] at hy
        have HY := Lib.hid hsy
        clear hsy hxx
        obtain ⟨hx1, hx2⟩ := hin
        gi_wp2
        refine ⟨rfl, hRR.mono ?_⟩
        rintro e W3 (⟨rfl, hJ3, hk3⟩ | ⟨rfl, hJx3⟩)
        · have hR3 := hRk.keep hk3 hsz
          have hsz3 := Nat.le_trans hsz hk3.size
          gi_wp2
          go_roundw
          case rel => exact ⟨k + 1, by omega, by go_num, hsz3, hR3, by rw [HS.out, HY.out]; exact hJ3⟩
          case measure => simp [intOf]; omega
        · gi_wp2
          refine bodyPost_ret (results_none rfl _ _ _) rfl ?_
          refine ⟨⟨_, rfl⟩, .inr ⟨_, ?_, hJx3⟩⟩
          have : modesOf zs = modesOf (zs.take (k + 1)) ++ modesOf (zs.drop (k + 1)) := by unfold modesOf; rw [← List.filterMap_append, List.take_append_drop]
          rw [this, HS.out, HY.out]
          exact List.prefix_append _ _
      · have hsy := modesOf_snoc_no (zs.take k) x hin
        have HY := Lib.hid hsy
        clear hsy
        gi_wp2
        all_goals
          refine ⟨fun _ h => (by cases h), ?_⟩
          gi_wp2
          go_roundw
          case rel => exact ⟨k + 1, by omega, by go_num, hsz, hRk, by rw [HS.out, HY.out]; exact hJk⟩
          case measure => simp [intOf]; omega
    · gi_wp2
      go_end0
      have : zs.take k = zs := List.take_of_length_le (by omega)
      rw [this] at hJk
      exact ⟨⟨_, rfl⟩, .inl hJk⟩

end Go.Proofs.Ytnhbcpopnhdhiaa
