/- The rows of all modes, walked. -/
import Derived.Test.YtmiobfnjegdhdaaProg
import Derived.Test.YtmiobfnjegdhdaaModP
import Derived.Test.YtmiobfnjegdhdaaReg
import Derived.Test.YtmiobfnjegdhdaaOpen
import Derived.Deep.MidRow
set_option linter.unusedSimpArgs false
set_option linter.unusedVariables false
namespace Go.Proofs.Ytmiobfnjegdhdaa
open Go.RowKit

def ints (l : List Int) : Array Value := (l.map (Value.int .i64)).toArray
theorem ints_at {l : List Int} {i : Nat} {x : Int} (h : l[i]? = some x) : (ints l)[i]? = some (.int .i64 x) := by simp [ints, h]

theorem rows_zero (w : World) : (zeroValue 43).run Try.prog w = .ok (.agg (mRows 1)) w := by kernel_rfl

/-- What rows lays ahead of its loops: h: the first block. -/
structure RowsLaid (h : Nat) (W : World) : Prop where
  long : Blk W (h + 1) 3 (ints mLong)
  short : Blk W (h + 2) 3 (ints mShort)
  rate : ∀ m, m < 4 → Blk W (h + 3 + m) 3 (ints (mOf m))
  of : ∀ m, m < 4 → W.cell? ⟨h + 7, m, none⟩ = some (.slice (some ⟨h + 3 + m, 0, none⟩) (mOf m).length (mOf m).length)
  need : ∀ m, m < 4 → Blk W (h + 8 + m) 3 (ints (mNeed m))
  needs : ∀ m, m < 4 → W.cell? ⟨h + 12, m, none⟩ = some (.slice (some ⟨h + 8 + m, 0, none⟩) (mOf m).length (mOf m).length)
  size : h + 12 < W.heap.size

theorem RowsLaid.keep {h : Nat} {W W' : World} (k : RowsLaid h W) (hb : But (fun b => b = h + 13) W.heap.size W W') : RowsLaid h W' where
  long := hb.blk k.long.lt (by omega) k.long
  short := hb.blk k.short.lt (by omega) k.short
  rate m hm := hb.blk (k.rate m hm).lt (by omega) (k.rate m hm)
  of m hm := (hb.cell (p := ⟨h + 7, m, none⟩) (by have := k.size; simp; omega) (by simp)).trans (k.of m hm)
  need m hm := hb.blk (k.need m hm).lt (by omega) (k.need m hm)
  needs m hm := (hb.cell (p := ⟨h + 12, m, none⟩) (by have := k.size; simp; omega) (by simp)).trans (k.needs m hm)
  size := Nat.lt_of_lt_of_le k.size hb.size

set_option maxRecDepth 100000 in
set_option maxHeartbeats 4000000 in
theorem rows_any (w : World) : Calls Try.prog 31 #[] w fun e w' => e = .returned (.agg (mRows 29)) ∧ Below w.heap.size w w' := by
  have hz := rows_zero
  generalize hr1 : mRows 1 = r1 at hz
  go_enter Try.func31, Try.ntmps31
  go_wp2_with fail
  generalize hW0 : World.alloc _ _ = W0
  have hb0 : Below w.heap.size w W0 := by
    rw [← hW0]
    repeat (first | exact Below.refl _ _ | (refine Below.alloc ?_ (by simp; try omega) _))
  have hl : RowsLaid w.heap.size W0 := by
    have h7 : Blk W0 (w.heap.size + 7) 34 #[.slice (some ⟨w.heap.size + 3, 0, none⟩) 11 11, .slice (some ⟨w.heap.size + 4, 0, none⟩) 6 6, .slice (some ⟨w.heap.size + 5, 0, none⟩) 6 6, .slice (some ⟨w.heap.size + 6, 0, none⟩) 5 5] := by
      rw [← hW0]; (repeat (first | with_reducible exact Blk.new _ _ _ | exact (Blk.new _ _ _).same_g (by simp; done) | refine Blk.alloc ?_ _))
    have h12 : Blk W0 (w.heap.size + 12) 34 #[.slice (some ⟨w.heap.size + 8, 0, none⟩) 11 11, .slice (some ⟨w.heap.size + 9, 0, none⟩) 6 6, .slice (some ⟨w.heap.size + 10, 0, none⟩) 6 6, .slice (some ⟨w.heap.size + 11, 0, none⟩) 5 5] := by
      rw [← hW0]; (repeat (first | with_reducible exact Blk.new _ _ _ | exact (Blk.new _ _ _).same_g (by simp; done) | refine Blk.alloc ?_ _))
    refine ⟨?_, ?_, ?_, ?_, ?_, ?_, ?_⟩
    · rw [← hW0]; (repeat (first | with_reducible exact Blk.new _ _ _ | exact (Blk.new _ _ _).same_g (by simp; done) | refine Blk.alloc ?_ _))
    · rw [← hW0]; (repeat (first | with_reducible exact Blk.new _ _ _ | exact (Blk.new _ _ _).same_g (by simp; done) | refine Blk.alloc ?_ _))
    · intro m hm
      rw [← hW0]
      match m, hm with
      | 0, _ => (repeat (first | with_reducible exact Blk.new _ _ _ | exact (Blk.new _ _ _).same_g (by simp; done) | refine Blk.alloc ?_ _))
      | 1, _ => (repeat (first | with_reducible exact Blk.new _ _ _ | exact (Blk.new _ _ _).same_g (by simp; done) | refine Blk.alloc ?_ _))
      | 2, _ => (repeat (first | with_reducible exact Blk.new _ _ _ | exact (Blk.new _ _ _).same_g (by simp; done) | refine Blk.alloc ?_ _))
      | 3, _ => (repeat (first | with_reducible exact Blk.new _ _ _ | exact (Blk.new _ _ _).same_g (by simp; done) | refine Blk.alloc ?_ _))
    · intro m hm
      rw [h7.cell]
      match m, hm with
      | 0, _ => rfl
      | 1, _ => rfl
      | 2, _ => rfl
      | 3, _ => rfl
    · intro m hm
      rw [← hW0]
      match m, hm with
      | 0, _ => (repeat (first | with_reducible exact Blk.new _ _ _ | exact (Blk.new _ _ _).same_g (by simp; done) | refine Blk.alloc ?_ _))
      | 1, _ => (repeat (first | with_reducible exact Blk.new _ _ _ | exact (Blk.new _ _ _).same_g (by simp; done) | refine Blk.alloc ?_ _))
      | 2, _ => (repeat (first | with_reducible exact Blk.new _ _ _ | exact (Blk.new _ _ _).same_g (by simp; done) | refine Blk.alloc ?_ _))
      | 3, _ => (repeat (first | with_reducible exact Blk.new _ _ _ | exact (Blk.new _ _ _).same_g (by simp; done) | refine Blk.alloc ?_ _))
    · intro m hm
      rw [h12.cell]
      match m, hm with
      | 0, _ => rfl
      | 1, _ => rfl
      | 2, _ => rfl
      | 3, _ => rfl
    · exact h12.lt
  have hx : Blk W0 (w.heap.size + 13) 43 (mRows 1) := by rw [← hW0, hr1]; (repeat (first | with_reducible exact Blk.new _ _ _ | exact (Blk.new _ _ _).same_g (by simp; done) | refine Blk.alloc ?_ _))
  have hy : Blk W0 w.heap.size 43 (mRows 1) := by
    have hb1 : Below (w.heap.size + 1) (w.alloc (.cells r1 43)) W0 := by
      rw [← hW0]
      repeat (first | with_reducible exact Below.refl _ _ | (refine Below.alloc ?_ (by simp; try omega) _))
    rw [hr1]
    exact (Blk.new w _ _).below hb1 (by omega)
  clear hW0
  have hsz := hx.lt
  generalize hh : w.heap.size = h at *
  clear hr1 hz
  have HB := Lib.hid (And.intro hb0 (And.intro hl (And.intro hx hy)))
  clear hb0 hl hx hy
  simp only [Nat.add_assoc, Nat.reduceAdd]
  go_loopw [6, 25] (fun num i wr => ∃ m : Nat, m ≤ 4 ∧ i = .int .i64 m ∧ num = .int .i64 (mStart m : Nat) ∧ But (fun b => b = h + 13) W0.heap.size W0 wr ∧ Blk wr (h + 13) 43 (mRows (mStart m)))
    (fun _ i _ => 4 - (intOf i).toNat)
  case atStart => exact ⟨0, by omega, rfl, rfl, But.refl _ _ _, HB.out.2.2.1⟩
  case round =>
    obtain ⟨m, hm, rfl, rfl, hbr, hx⟩ := hrel
    by_cases hlt : m < 4
    · have L := HB.out.2.1.keep hbr
      have c7 := L.of m hlt
      have hb7 : h + 7 < wr.heap.size := by have := L.size; omega
      have hms := mStart_next m hlt
      have hst : mStart m ≤ 29 ∧ (mOf m).length ≤ 11 := by
        have : ∀ m, m < 4 → mStart m ≤ 29 ∧ (mOf m).length ≤ 11 := by decide
        exact this m hlt
      have HX := Lib.hid (And.intro hbr (And.intro hx (And.intro L hms)))
      clear hbr hx L hms
      have hm4 : (m : Int) < 4 := by omega
      go_wp2_with fail
      obtain ⟨wo, rfl⟩ : ∃ wo, wo = wr := ⟨wr, rfl⟩
      go_loopw [6, 32] (fun num i wr => ∃ j n : Nat, j ≤ (mOf m).length ∧ n = mStart m + j ∧ i = .int .i64 j ∧ num = .int .i64 (n : Int) ∧ But (fun b => b = h + 13) W0.heap.size W0 wr ∧ Blk wr (h + 13) 43 (mRows n))
        (fun _ i _ => (mOf m).length - (intOf i).toNat)
      case atStart => exact ⟨0, mStart m, by omega, rfl, rfl, rfl, HX.out.1, HX.out.2.1⟩
      case round =>
        obtain ⟨j, n, hj, hn, rfl, rfl, hbr, hx⟩ := hrel
        by_cases hjl : j < (mOf m).length
        · obtain ⟨r, hr, e1, e2, e3, e4, e5, e6⟩ := m_round m hlt j hjl
          rw [← hn] at e2 e3 e4 e5 e6
          have L := HB.out.2.1.keep hbr
          have c1 := ((L.rate m hlt).cell j).trans (ints_at e1)
          have c2 := (L.long.cell r).trans (ints_at e2)
          have c3 := (L.short.cell r).trans (ints_at e3)
          have c4 := L.needs m hlt
          have c5 := ((L.need m hlt).cell j).trans (ints_at e4)
          have hsr := L.size
          have hsx := hx.lt
          have hs1 : h + 1 < wr.heap.size := by omega
          have hs2 : h + 2 < wr.heap.size := by omega
          have hs3 : h + 8 + m < wr.heap.size := by omega
          have hth : wr.drew.there (h + 13) (n * 4) 4 := fun k hk => ⟨by rw [hx.drew.cell, Array.getElem?_eq_getElem (by rw [mRows_size]; omega)]; rfl, hx.drew.frozen _⟩
          have hr11 : (r : Int) < 11 := by omega
          have hn29 : (n : Int) < 29 := by omega
          have hjl' : (j : Int) < (mOf m).length := by omega
          have hmi : decide ((m : Int) < 4) = true := by simp; omega
          have HY := Lib.hid (And.intro hbr (And.intro hx (And.intro e5 (And.intro hn hth))))
          have HX := HX
          clear hbr hx e1 e2 e3 e4 e5 hn L hth
          generalize (mOf m).length = len at *
          go_wp2_with fail
          refine wp_region_sub [19] (fun W => Below wr.heap.size wr W) (by kernel_rfl) (by kernel_rfl) ((Below.refl _ _).drew) (fun _ => ?_)
          iterate 19 (refine mix_read (by kernel_rfl) (by rfl) (by rfl) (by rfl) (of_decide_eq_true (by kernel_rfl)) ?_; apply Exists.intro; apply Exists.intro; refine ⟨fun w' hw' K hK => ?_, ?_, ?_⟩; (obtain ⟨X, rfl⟩ := hw'; go_wp2_with fail; first | exact ⟨rfl, rfl⟩ | exact rfl); rfl)
          refine mix_last (by rfl) (by rfl) (by kernel_rfl) (fun K hK => ?_)
          refine wp_store_mid 40 (.tmp 55) (.tmp 54) rfl (h + 13) (n * 4) #[.int .i64 m, .int .i64 (mAt n 1), .int .i64 (mAt n 2), .int .i64 (mAt n 3)] rfl rfl HY.out.2.2.2.2 (by kernel_rfl) (by simp [Value.oneCell']) ?_
          (simp [Act.put])
          refine hK _ _ ?_
          obtain ⟨hbr, hx, e5, hn, _⟩ := HY.out
          have hx2 : Blk (wr.drew.setCells (h + 13) (n * 4) [.int .i64 m, .int .i64 (mAt n 1), .int .i64 (mAt n 2), .int .i64 (mAt n 3)]) (h + 13) 43 (mRows (n + 1)) := by
            rw [← mRows_next n e6, ← e5, Nat.mul_comm 4 n]
            exact (((hx.drew.set_ _ _).set_ _ _).set_ _ _).set_ _ _
          have hb2 : But (fun b => b = h + 13) W0.heap.size W0 (wr.drew.setCells (h + 13) (n * 4) [.int .i64 m, .int .i64 (mAt n 1), .int .i64 (mAt n 2), .int .i64 (mAt n 3)]) :=
            (((hbr.drew.setCell (p := ⟨h + 13, n * 4, none⟩) (fun _ => rfl) _).setCell (p := ⟨h + 13, n * 4 + 1, none⟩) (fun _ => rfl) _).setCell (p := ⟨h + 13, n * 4 + 1 + 1, none⟩) (fun _ => rfl) _).setCell (p := ⟨h + 13, n * 4 + 1 + 1 + 1, none⟩) (fun _ => rfl) _
          generalize World.setCells _ _ _ _ = W2 at *
          have HZ := Lib.hid (And.intro hx2 (And.intro hb2 hn))
          clear hx2 hb2 hbr hx e5 hn HY
          go_wp2_with fail
          go_roundw
          case rel => exact ⟨j + 1, n + 1, by omega, by rw [HZ.out.2.2]; omega, by go_num, by go_num, HZ.out.2.1, HZ.out.1⟩
          case measure => simp [intOf]; omega
        · have hjn : ¬ j < (mOf m).length := hjl
          have hn1 : n = mStart (m + 1) := by have := HX.out.2.2.2; omega
          have HY := Lib.hid (And.intro hbr (And.intro hx hn1))
          have HL := Lib.hid HX.out.2.2.2
          clear hbr hx hn hn1
          have hjl' : ¬ (j : Int) < (mOf m).length := by omega
          generalize (mOf m).length = len at *
          go_wp2_with fail
          go_roundw
          case rel => exact ⟨m + 1, by omega, by go_num, by rw [HY.out.2.2], HY.out.1, by rw [← HY.out.2.2]; exact HY.out.2.1⟩
          case measure => simp [intOf]; omega
    · obtain rfl : m = 4 := by omega
      have hy := hbr.blk HB.out.2.2.2.lt (by simp) HB.out.2.2.2
      have HX := Lib.hid (And.intro hbr hx)
      have hbx : Below h w wr := HB.out.1.trans (hbr.below (fun k hk => by omega) (by omega))
      have HW := Lib.hid hbx
      clear hbr hbx
      have hx29 : Blk wr (h + 13) 43 (mRows 29) := hx
      clear hx
      go_wp2_with (first
        | (refine wpList_load_row rfl 43 (.tmp 5) rfl (h + 13) rfl 43 (mRows 29) (0, 0) _ hx29 Try.underlying43 rfl (by rw [mRows_size]; kernel_rfl) ?_)
        | (refine wpList_store_row rfl 43 (.tmp 0) (.tmp 60) rfl h (mRows 29) rfl rfl 43 (mRows 1) hy (by rw [mRows_size]; kernel_rfl) (by rw [mRows_size, mRows_size]) (mRows_one _) ?_))
      have hz : Blk (wr.setRow h (mRows 29)) h 43 (mRows 29) := hy.setRow _
      refine bodyPost_ret (results_cell_row rfl _ _ h 43 (mRows 29) (0, 0) _ rfl hz Try.underlying43 rfl (by rw [mRows_size]; kernel_rfl)) rfl ⟨rfl, ?_⟩
      rw [hh]
      exact Below_setRow HW.out (Nat.le_refl _) _

end Go.Proofs.Ytmiobfnjegdhdaa
