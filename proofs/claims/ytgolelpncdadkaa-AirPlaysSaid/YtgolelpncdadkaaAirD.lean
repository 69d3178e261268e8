/- The bits of a turn, told one behind the other; bytes in a block. -/
import Derived.Test.YtgolelpncdadkaaAirC
import Derived.Test.YtgolelpncdadkaaRange
import Derived.Laws.IdiomStrings
set_option linter.unusedSimpArgs false
set_option linter.unusedVariables false
namespace Go.Proofs.Ytgolelpncdadkaa
open Go.RowKit Go.Shelf
attribute [local go_sem] Oper.semAt_some

/-- The bits that a turn names, of the first n. -/
def bitsUp (m at_ : Nat) : Nat → List Nat
  | 0 => []
  | n + 1 => bitsUp m at_ n ++ if m / 2 ^ n % 2 = 1 then [at_ + n] else []

theorem bitsUp_prefix (m a : Nat) : ∀ n d, bitsUp m a n <+: bitsUp m a (n + d)
  | n, 0 => List.prefix_refl _
  | n, d + 1 => (bitsUp_prefix m a n d).trans (List.prefix_append _ _)
theorem bitsUp_lt (m a : Nat) : ∀ n, ∀ k ∈ bitsUp m a n, k < a + n
  | 0, k, h => by simp [bitsUp] at h
  | n + 1, k, h => by
    rw [bitsUp, List.mem_append] at h
    rcases h with h | h
    · have := bitsUp_lt m a n k h; omega
    · split at h
      · simp at h; omega
      · simp at h

theorem bits_test : ∀ (i : Fin 8) (m : Fin 256), (Go.bits BinOp.and IntKind.i64 ((m.1 : Int) / 2 ^ i.1) 1 == 1) = decide (m.1 / 2 ^ i.1 % 2 = 1) := by decide +kernel

theorem bits1_iter (Bn n0 : Nat) (a m : Nat) (ha : a ≤ 72) (hm : m < 256) (w : World) (hB0 : Blk w Bn 56 #[.int .i64 a, .int .i64 m]) (hn0 : n0 ≤ w.heap.size) :
    Iter Try.prog 27 #[.pointer (some ⟨Bn, 0, none⟩)] (fun (x : Nat) => #[.int .i64 (x : Int)]) n0 (· = Bn) (bitsUp m a 8) w := by
  intro l J Jx W hk hJ hJx hY h0
  have hB : Blk W Bn 56 #[.int .i64 a, .int .i64 m] := (hk.same Bn hB0.lt (.inr rfl)).trans hB0
  have hbt : ∀ i, i < 8 → (Go.bits BinOp.and IntKind.i64 ((m : Int) / 2 ^ i) 1 == 1) = decide (m / 2 ^ i % 2 = 1) := fun i hi => bits_test ⟨i, hi⟩ ⟨m, hm⟩
  clear hB0
  refine callsIn_of_wp Try.func27 rfl trivial ?_ rfl
  simp only [Try.ntmps27, List.size_toArray, List.length_cons, List.length_nil, Nat.reduceAdd, Nat.reduceSub, Array.replicate_succ, Array.replicate_zero, List.push_toArray, List.append_toArray, List.nil_append, List.cons_append]
  gi_wp2
  gi_loopw [4] (fun p wr => ∃ k : Nat, k ≤ 8 ∧ p = .int .i64 k ∧ n0 ≤ wr.heap.size ∧ Blk wr Bn 56 #[.int .i64 a, .int .i64 m] ∧ J (bitsUp m a k) wr)
    (fun p wr => 8 - (intOf p).toNat)
  case atStart => exact ⟨0, by omega, rfl, Nat.le_trans hn0 hk.size, hB, h0⟩
  case round =>
    obtain ⟨k, hkl, rfl, hsz, hBk, hJk⟩ := hrel
    have c0 := hBk.cell 0
    have c1 := hBk.cell 1
    by_cases hlt : k < 8
    · have h2 := hbt k hlt
      have hpre := bitsUp_prefix m a (k + 1) (8 - (k + 1))
      rw [show k + 1 + (8 - (k + 1)) = 8 by omega] at hpre
      have HS := Lib.hid hpre
      have HB := Lib.hid hBk
      clear hpre hBk hbt hB h0
      by_cases hin : m / 2 ^ k % 2 = 1
      · have he : bitsUp m a (k + 1) = bitsUp m a k ++ [a + k] := by rw [bitsUp, if_pos hin]
        rw [decide_eq_true hin] at h2
        obtain ⟨fn, tmps, assign, body, hy, hRR⟩ := hY _ (a + k) _ (he ▸ HS.out) hJk
        have hxx : ((a + k : Nat) : Int) = (a : Int) + k := by omega
        simp only [hxx] at hy
        have HE := Lib.hid he
        clear he hxx hin
        gi_wp2
        refine ⟨rfl, hRR.mono ?_⟩
        rintro e W3 (⟨rfl, hJ3, hk3⟩ | ⟨rfl, hJx3⟩)
        · have hB3 : Blk W3 Bn 56 #[.int .i64 a, .int .i64 m] := (hk3.same Bn HB.out.lt (.inr rfl)).trans HB.out
          have hsz3 := Nat.le_trans hsz hk3.size
          have HB3 := Lib.hid hB3
          clear hB3
          gi_wp2
          go_roundw
          case rel => exact ⟨k + 1, by omega, by go_num, hsz3, HB3.out, by rw [HE.out]; exact hJ3⟩
          case measure => simp [intOf]; omega
        · gi_wp2
          refine bodyPost_ret (results_none rfl _ _ _) rfl ?_
          exact ⟨⟨_, rfl⟩, .inr ⟨_, HE.out ▸ HS.out, hJx3⟩⟩
      · have he : bitsUp m a (k + 1) = bitsUp m a k := by rw [bitsUp, if_neg hin, List.append_nil]
        rw [decide_eq_false hin] at h2
        have HE := Lib.hid he
        clear he hin
        gi_wp2
        refine ⟨fun _ h => (by cases h), ?_⟩
        gi_wp2
        go_roundw
        case rel => exact ⟨k + 1, by omega, by go_num, hsz, HB.out, by rw [HE.out]; exact hJk⟩
        case measure => simp [intOf]; omega
    · obtain rfl : k = 8 := by omega
      clear hbt
      gi_wp2
      go_end0
      exact ⟨⟨_, rfl⟩, .inl hJk⟩

end Go.Proofs.Ytgolelpncdadkaa
