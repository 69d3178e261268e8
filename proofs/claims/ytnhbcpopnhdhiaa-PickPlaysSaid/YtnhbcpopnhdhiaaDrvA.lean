import Derived.Test.YtnhbcpopnhdhiaaProg
import Derived.Test.YtnhbcpopnhdhiaaMem
import Derived.Test.YtnhbcpopnhdhiaaReg
import Derived.Test.YtnhbcpopnhdhiaaDrrP
set_option linter.unusedSimpArgs false
set_option linter.unusedVariables false
namespace Go.Proofs.Ytnhbcpopnhdhiaa
open Go.RowKit

def dCells (q : Int) (df : Nat → Int) (pt : Nat) (fed : Bool) : Array Value :=
  (Value.int .i64 q :: ((List.range 29).map fun i => Value.int .i64 (df i)) ++ [Value.int .i64 pt, Value.bool fed]).toArray

theorem dCells_size (q : Int) (df : Nat → Int) (pt : Nat) (fed : Bool) : (dCells q df pt fed).size = 32 := by simp [dCells]
theorem dCells_one (q : Int) (df : Nat → Int) (pt : Nat) (fed : Bool) : (dCells q df pt fed).all (·.oneCell') = true := by
  refine Array.all_eq_true_iff_forall_mem.2 (fun v hv => ?_)
  simp only [dCells, List.mem_toArray, List.mem_append, List.mem_cons, List.mem_map] at hv
  rcases hv with (rfl | ⟨i, _, rfl⟩) | rfl | rfl | h <;> first | rfl | cases h
theorem dCells_q (q : Int) (df : Nat → Int) (pt : Nat) (fed : Bool) : (dCells q df pt fed)[0]? = some (.int .i64 q) := by simp [dCells]
theorem dCells_df (q : Int) (df : Nat → Int) (pt : Nat) (fed : Bool) (i : Nat) (h : i < 29) : (dCells q df pt fed)[1 + i]? = some (.int .i64 (df i)) := by
  simp [dCells, Nat.add_comm 1 i, List.getElem?_append, h]
theorem dCells_at (q : Int) (df : Nat → Int) (pt : Nat) (fed : Bool) : (dCells q df pt fed)[30]? = some (.int .i64 pt) := by simp [dCells, List.getElem?_append]
theorem dCells_fed (q : Int) (df : Nat → Int) (pt : Nat) (fed : Bool) : (dCells q df pt fed)[31]? = some (.bool fed) := by simp [dCells, List.getElem?_append]
theorem dCells_set_at (q : Int) (df : Nat → Int) (pt : Nat) (fed : Bool) (x : Nat) : (dCells q df pt fed).setIfInBounds 30 (.int .i64 x) = dCells q df x fed := by
  simp [dCells, List.set_append]
theorem dCells_set_fed (q : Int) (df : Nat → Int) (pt : Nat) (fed : Bool) (x : Bool) : (dCells q df pt fed).setIfInBounds 31 (.bool x) = dCells q df pt x := by
  simp [dCells, List.set_append]
theorem dCells_set_df (q : Int) (df : Nat → Int) (pt : Nat) (fed : Bool) (i : Nat) (h : i < 29) (x : Int) : (dCells q df pt fed).setIfInBounds (1 + i) (.int .i64 x) = dCells q (upd df i x) pt fed := by
  simp only [dCells, List.setIfInBounds_toArray]
  congr 1
  apply List.ext_getElem?
  intro j
  rcases j with _ | j
  · simp [Nat.add_comm 1 i]
  · simp only [Nat.add_comm 1 i, List.cons_append, List.set_cons_succ, List.getElem?_cons_succ, List.getElem?_set, List.getElem?_append, List.length_map, List.length_range]
    by_cases hj : j < 29
    · by_cases he : i = j
      · subst he; simp [h, upd]; omega
      · simp [hj, he, upd, Ne.symm he]
    · by_cases he : i = j
      · omega
      · simp [hj, he]

theorem on_any (b : Nat) (w : World) (q : Int) (df : Nat → Int) (pt : Nat) (fed : Bool) (hp : pt ≤ 28) (hB : Blk w b 51 (dCells q df pt fed)) :
    Calls Try.prog 37 #[.pointer (some ⟨b, 0, none⟩)] w fun e w' => e = .returned (.tuple #[]) ∧ But (· = b) w.heap.size w w' ∧ Blk w' b 51 (dCells q df (pt % 28 + 1) false) := by
  have h1 := (hB.cell 30).trans (dCells_at ..)
  have h2 := (hB.cell 31).trans (dCells_fed ..)
  have h3 := hB.frozen
  have H : Hid (Blk w b 51 (dCells q df pt fed)) := hB
  clear hB
  go_enter Try.func37, Try.ntmps37
  go_wp2
  go_end0
  refine ⟨rfl, ?_, ?_⟩
  · exact ((But.refl (· = b) _ _).setCell (p := ⟨b, 30, none⟩) (fun _ => rfl) _).setCell (p := ⟨b, 31, none⟩) (fun _ => rfl) _
  · refine ((H.out.set_ _ _).set_ _ _).same ?_
    rw [show ((pt : Int) % 28 + 1) = ((pt % 28 + 1 : Nat) : Int) by omega, dCells_set_at, dCells_set_fed]



theorem within_any (a b : Int) (w : World) :
    Calls Try.prog 36 #[.int .i64 a, .int .i64 b] w fun e w' => e = .returned (.int .i64 (within a b)) ∧ w = w' := by
  go_enter Try.func36, Try.ntmps36
  go_wp2
  all_goals
    go_ret
    refine ⟨ret_int ?_, rfl⟩
    unfold within
    first | (split at * <;> omega) | omega

/-- A function of modes: whatever it is asked, it tells c, and lays new blocks alone. -/
def FnInt (w : World) (c : Nat → Int) (v : Value) : Prop := ∃ K first cap, v = .func (.func K) first cap ∧ (∀ args w, (callFunc K args).run Try.prog w = .ok (.enter K args) w) ∧
  ∀ (m : Nat) (W : World), Below w.heap.size w W → 1 ≤ m → m ≤ 28 → Calls Try.prog K (first ++ #[.int .i64 m] ++ cap) W fun e W' => e = .returned (.int .i64 (c m)) ∧ Below W.heap.size W W'


theorem FnInt.below {w w' : World} {c : Nat → Int} {v : Value} (h : FnInt w c v) (hb : Below w.heap.size w w') : FnInt w' c v := by
  obtain ⟨K, fs, cap, rfl, h1, h2⟩ := h
  exact ⟨K, fs, cap, rfl, h1, fun m W hW => h2 m W (hb.trans (hW.mono hb.size))⟩

def wCells (wanted : Nat → Bool) : Array Value := ((List.range 29).map fun i => Value.bool (wanted i)).toArray
theorem wCells_set (wanted : Nat → Bool) (i : Nat) (h : i < 29) (v : Bool) : (wCells wanted).setIfInBounds i (.bool v) = wCells (fun m => if m = i then v else wanted m) := by
  simp only [wCells, List.setIfInBounds_toArray]
  congr 1
  apply List.ext_getElem?
  intro j
  simp only [List.getElem?_set, List.length_map, List.length_range, List.getElem?_map]
  by_cases hj : j < 29
  · by_cases he : i = j
    · subst he; simp [h]
    · simp [hj, he, Ne.symm he]
  · by_cases he : i = j
    · omega
    · simp [hj, he]
theorem wCells_at (wanted : Nat → Bool) (i : Nat) (h : i < 29) : (wCells wanted)[i]? = some (.bool (wanted i)) := by simp [wCells, h]

set_option maxHeartbeats 1000000 in
theorem turn_no (b bc bm bw : Nat) (w : World) (q : Int) (df : Nat → Int) (pt : Nat) (fed : Bool) (wanted : Nat → Bool) (cost weight : Nat → Int) (vc vw : Value)
    (hp1 : 1 ≤ pt) (hp : pt ≤ 28) (hq : 0 ≤ q ∧ q ≤ 1000000) (hdf : 0 ≤ df pt ∧ df pt ≤ 1000000000000)
    (hB : Blk w b 51 (dCells q df pt fed)) (hC : Blk w bc 29 #[vc]) (hM : Blk w bm 65 (wCells wanted)) (hW : Blk w bw 29 #[vw]) (hvc : FnInt w cost vc) (hvw : FnInt w weight vw) (hn : wanted pt = false) :
    Calls Try.prog 35 #[.pointer (some ⟨b, 0, none⟩), .pointer (some ⟨bc, 0, none⟩), .pointer (some ⟨bm, 0, none⟩), .pointer (some ⟨bw, 0, none⟩)] w
      fun e w' => e = .returned (.bool false) ∧ But (· = b) w.heap.size w w' ∧ Blk w' b 51 (dCells q (upd df pt 0) pt fed) := by
  obtain ⟨Kc, fc, cc, rfl, hce, hcc⟩ := hvc
  have hlb := hB.lt
  have hlm := hM.lt
  have h1 := (hB.cell 30).trans (dCells_at ..)
  have h2 := (hB.cell (1 + pt)).trans (dCells_df _ _ _ _ _ (by omega))
  have h3 := hB.frozen
  have h4 := hC.cell 0
  have h5 := (hM.cell pt).trans (wCells_at _ _ (by omega))
  rw [hn] at h5
  have HB := Lib.hid hB
  have HC := Lib.hid hcc
  clear hB hcc hC hM hW hvw hn
  go_enter Try.func35, Try.ntmps35
  go_wp2_with fail
  rw [show fc.push (Value.int IntKind.i64 ↑pt) ++ cc = fc ++ #[.int .i64 pt] ++ cc by simp]
  refine (HC.out pt _ (Below.refl _ _) hp1 hp).mono ?_
  rintro e w1 ⟨rfl, hb1⟩
  have hc1 : ∀ o, w1.cell? ⟨b, o, none⟩ = w.cell? ⟨b, o, none⟩ := fun o => hb1.cell (p := ⟨b, o, none⟩) hlb
  have hm1 : ∀ o, w1.cell? ⟨bm, o, none⟩ = w.cell? ⟨bm, o, none⟩ := fun o => hb1.cell (p := ⟨bm, o, none⟩) hlm
  have hf1 : ∀ o, w1.frozen? ⟨b, o, none⟩ = w.frozen? ⟨b, o, none⟩ := fun o => hb1.frozen (p := ⟨b, o, none⟩) hlb
  have HB1 := Lib.hid hb1
  clear hb1
  go_wp2_with fail
  refine (within_any _ _ _).mono ?_
  rintro e w' ⟨rfl, rfl⟩
  go_wp2_with fail
  go_ret
  refine ⟨rfl, ?_, ?_⟩
  · exact But.setCell (S := (· = b)) (p := ⟨b, 1 + pt, none⟩) (But.of_below HB1.out) (fun _ => rfl) _
  · refine ((HB.out.below HB1.out hlb).set_ _ _).same ?_
    rw [dCells_set_df _ _ _ _ _ (by omega)]


set_option maxHeartbeats 2000000 in
theorem turn_yes (b bc bm bw : Nat) (w : World) (q : Int) (df : Nat → Int) (pt : Nat) (fed : Bool) (wanted : Nat → Bool) (cost weight : Nat → Int) (vc vw : Value)
    (hp1 : 1 ≤ pt) (hp : pt ≤ 28) (hq : 0 ≤ q ∧ q ≤ 1000000) (hdf : 0 ≤ df pt ∧ df pt ≤ 1000000000000)
    (hB : Blk w b 51 (dCells q df pt fed)) (hC : Blk w bc 29 #[vc]) (hM : Blk w bm 65 (wCells wanted)) (hW : Blk w bw 29 #[vw]) (hvc : FnInt w cost vc) (hvw : FnInt w weight vw) (hn : wanted pt = true)
    (hbw : b ≠ bw) :
    Calls Try.prog 35 #[.pointer (some ⟨b, 0, none⟩), .pointer (some ⟨bc, 0, none⟩), .pointer (some ⟨bm, 0, none⟩), .pointer (some ⟨bw, 0, none⟩)] w
      fun e w' => e = .returned (.bool (turnD q df pt fed wanted cost weight).1) ∧ But (· = b) w.heap.size w w' ∧
        Blk w' b 51 (dCells q (turnD q df pt fed wanted cost weight).2.1 pt (turnD q df pt fed wanted cost weight).2.2) := by
  obtain ⟨Kc, fc, cc, rfl, hce, hcc⟩ := hvc
  obtain ⟨Kw, fw, cw, rfl, hwe, hwc⟩ := hvw
  have hlb := hB.lt
  have hlm := hM.lt
  have hlw := hW.lt
  have h1 := (hB.cell 30).trans (dCells_at ..)
  have h2 := (hB.cell (1 + pt)).trans (dCells_df _ _ _ _ _ (by omega))
  have h2f := (hB.cell 31).trans (dCells_fed ..)
  have h2q := (hB.cell 0).trans (dCells_q ..)
  have h3 := hB.frozen
  have h4 := hC.cell 0
  have h4w := hW.cell 0
  have h5 := (hM.cell pt).trans (wCells_at _ _ (by omega))
  rw [hn] at h5
  have HB := Lib.hid hB
  have HC := Lib.hid hcc
  have HW := Lib.hid hwc
  have HN := Lib.hid hn
  clear hB hcc hwc hC hM hW hn
  go_enter Try.func35, Try.ntmps35
  go_wp2_with fail
  rw [show fc.push (Value.int IntKind.i64 ↑pt) ++ cc = fc ++ #[.int .i64 pt] ++ cc by simp]
  refine (HC.out pt _ (Below.refl _ _) hp1 hp).mono ?_
  rintro e w1 ⟨rfl, hb1⟩
  have hc1 : ∀ o, w1.cell? ⟨b, o, none⟩ = w.cell? ⟨b, o, none⟩ := fun o => hb1.cell (p := ⟨b, o, none⟩) hlb
  have hm1 : ∀ o, w1.cell? ⟨bm, o, none⟩ = w.cell? ⟨bm, o, none⟩ := fun o => hb1.cell (p := ⟨bm, o, none⟩) hlm
  have hw1 : ∀ o, w1.cell? ⟨bw, o, none⟩ = w.cell? ⟨bw, o, none⟩ := fun o => hb1.cell (p := ⟨bw, o, none⟩) hlw
  have hf1 : ∀ o, w1.frozen? ⟨b, o, none⟩ = w.frozen? ⟨b, o, none⟩ := fun o => hb1.frozen (p := ⟨b, o, none⟩) hlb
  have hl1 : b < w1.heap.size := Nat.lt_of_lt_of_le hlb hb1.size
  have hl1w : bw < w1.heap.size := Nat.lt_of_lt_of_le hlw hb1.size
  have HB1 := Lib.hid hb1
  clear hb1
  go_wp2_with fail
  refine (within_any _ _ _).mono ?_
  rintro e w' ⟨rfl, rfl⟩
  have hpr : 1 ≤ within (cost pt) 40000 ∧ within (cost pt) 40000 ≤ 40000 := by unfold within; omega
  generalize hP : within (cost pt) 40000 = price at *
  have HP := Lib.hid hP
  clear hP
  cases fed
  · by_cases hlt : df pt < price
    · go_wp2_with fail
      refine wp_region_sub [8, 9, 13] (fun W => Below w1.heap.size w1 W) (by kernel_rfl) (by kernel_rfl) ((Below.refl _ _).drew) (fun _ => ?_)
      iterate 8 (refine mix_still (by rfl) (by rfl) (fun K hK => ?_); go_simp; refine hK _ ?_; clear hK K)
      (refine mix_act (by rfl) (by rfl) (fun K hK => ?_))
      go_wp2_with fail
      rw [show fw.push (Value.int IntKind.i64 ↑pt) ++ cw = fw ++ #[.int .i64 pt] ++ cw by simp]
      refine (HW.out pt _ HB1.out.drew hp1 hp).mono ?_
      rintro e w2 ⟨rfl, hb2⟩
      have hb2' : Below w1.heap.size w1 w2 := ⟨hb2.os, hb2.tape, hb2.output, hb2.size, hb2.block⟩
      have hc2 : ∀ o, w2.cell? ⟨b, o, none⟩ = w1.cell? ⟨b, o, none⟩ := fun o => hb2'.cell (p := ⟨b, o, none⟩) hl1
      have hf2 : ∀ o, w2.frozen? ⟨b, o, none⟩ = w1.frozen? ⟨b, o, none⟩ := fun o => hb2'.frozen (p := ⟨b, o, none⟩) hl1
      have HB2 := Lib.hid hb2'
      clear hb2 hb2'
      go_wp2_with fail
      refine ⟨InC.mk HB2.out, ?_⟩
      (refine mix_act (by rfl) (by rfl) (fun K hK => ?_))
      go_wp2_with fail
      refine (within_any _ _ _).mono ?_
      rintro e w' ⟨rfl, rfl⟩
      have hwv : 1 ≤ within (weight pt) 8 ∧ within (weight pt) 8 ≤ 8 := by unfold within; omega
      generalize hV : within (weight pt) 8 = wv at *
      have hmul : 0 ≤ q * wv ∧ q * wv ≤ 8000000 := by
        refine ⟨Int.mul_nonneg hq.1 (by omega), ?_⟩
        calc q * wv ≤ 1000000 * wv := Int.mul_le_mul_of_nonneg_right hq.2 (by omega)
          _ ≤ 8000000 := by omega
      have HV := Lib.hid hV
      clear hV
      go_wp2_with fail
      refine ⟨InC.mk HB2.out, ?_⟩
      iterate 3 (refine mix_still (by rfl) (by rfl) (fun K hK => ?_); go_simp; refine hK _ ?_; clear hK K)
      (refine mix_last (by rfl) (by rfl) (by kernel_rfl) (fun K hK => ?_))
      go_wp2_with fail
      have HH := (HB.out.below HB1.out hlb).below HB2.out hl1
      have BB : But (· = b) w.heap.size w w2 := .of_below (HB1.out.trans (HB2.out.mono HB1.out.size))
      · rename_i _ h2'
        have T := turnD_fed_no HN.out HP.out HV.out hlt h2'
        go_ret
        rw [T]
        refine ⟨rfl, ?_, ?_⟩
        · exact But.setCell (S := (· = b)) (p := ⟨b, 31, none⟩) (But.setCell (S := (· = b)) (p := ⟨b, 1 + pt, none⟩) BB (fun _ => rfl) _) (fun _ => rfl) _
        · refine ((HH.set_ _ _).set_ _ _).same ?_
          rw [dCells_set_df _ _ _ _ _ (by omega), dCells_set_fed]
      have HH := (HB.out.below HB1.out hlb).below HB2.out hl1
      have BB : But (· = b) w.heap.size w w2 := .of_below (HB1.out.trans (HB2.out.mono HB1.out.size))
      · rename_i _ h2'
        have T := turnD_fed_yes HN.out HP.out HV.out hlt h2'
        go_ret
        rw [T]
        refine ⟨rfl, ?_, ?_⟩
        · exact But.setCell (S := (· = b)) (p := ⟨b, 1 + pt, none⟩) (But.setCell (S := (· = b)) (p := ⟨b, 31, none⟩) (But.setCell (S := (· = b)) (p := ⟨b, 1 + pt, none⟩) BB (fun _ => rfl) _) (fun _ => rfl) _) (fun _ => rfl) _
        · refine (((HH.set_ _ _).set_ _ _).set_ _ _).same ?_
          rw [dCells_set_df _ _ _ _ _ (by omega), dCells_set_fed, dCells_set_df _ _ _ _ _ (by omega), upd_upd]
    · go_wp2_with fail
      go_ret
      rw [turnD_has HN.out HP.out (by omega)]
      refine ⟨rfl, ?_, ?_⟩
      · exact But.setCell (S := (· = b)) (p := ⟨b, 1 + pt, none⟩) (.of_below HB1.out) (fun _ => rfl) _
      · refine ((HB.out.below HB1.out hlb).set_ _ _).same ?_
        rw [dCells_set_df _ _ _ _ _ (by omega)]
  · by_cases hlt : df pt < price
    · go_wp2_with fail
      go_ret
      rw [turnD_was HN.out HP.out hlt, upd_self]
      exact ⟨rfl, .of_below HB1.out, HB.out.below HB1.out hlb⟩
    · go_wp2_with fail
      go_ret
      rw [turnD_has HN.out HP.out (by omega)]
      refine ⟨rfl, ?_, ?_⟩
      · exact But.setCell (S := (· = b)) (p := ⟨b, 1 + pt, none⟩) (.of_below HB1.out) (fun _ => rfl) _
      · refine ((HB.out.below HB1.out hlb).set_ _ _).same ?_
        rw [dCells_set_df _ _ _ _ _ (by omega)]

theorem turn_any (b bc bm bw : Nat) (w : World) (q : Int) (df : Nat → Int) (pt : Nat) (fed : Bool) (wanted : Nat → Bool) (cost weight : Nat → Int) (vc vw : Value)
    (hp1 : 1 ≤ pt) (hp : pt ≤ 28) (hq : 0 ≤ q ∧ q ≤ 1000000) (hdf : Dok df)
    (hB : Blk w b 51 (dCells q df pt fed)) (hC : Blk w bc 29 #[vc]) (hM : Blk w bm 65 (wCells wanted)) (hW : Blk w bw 29 #[vw]) (hvc : FnInt w cost vc) (hvw : FnInt w weight vw) (hbw : b ≠ bw) :
    Calls Try.prog 35 #[.pointer (some ⟨b, 0, none⟩), .pointer (some ⟨bc, 0, none⟩), .pointer (some ⟨bm, 0, none⟩), .pointer (some ⟨bw, 0, none⟩)] w
      fun e w' => e = .returned (.bool (turnD q df pt fed wanted cost weight).1) ∧ But (· = b) w.heap.size w w' ∧
        Blk w' b 51 (dCells q (turnD q df pt fed wanted cost weight).2.1 pt (turnD q df pt fed wanted cost weight).2.2) := by
  cases hn : wanted pt with
  | true => exact turn_yes b bc bm bw w q df pt fed wanted cost weight vc vw hp1 hp hq (hdf pt) hB hC hM hW hvc hvw hn hbw
  | false =>
    have ht : turnD q df pt fed wanted cost weight = (false, upd df pt 0, fed) := by simp [turnD, hn]
    rw [ht]
    exact turn_no b bc bm bw w q df pt fed wanted cost weight vc vw hp1 hp hq (hdf pt) hB hC hM hW hvc hvw hn

end Go.Proofs.Ytnhbcpopnhdhiaa
