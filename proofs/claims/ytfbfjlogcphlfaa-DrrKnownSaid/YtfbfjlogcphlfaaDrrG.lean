import Derived.Test.YtfbfjlogcphlfaaDrrF
import Derived.BigRegion
import Derived.Deep.DeepCutAuto
import Derived.Deep.MidRow
set_option linter.unusedSimpArgs false
set_option linter.unusedVariables false
namespace Go.Proofs.Ytfbfjlogcphlfaa
open Go.RowKit

set_option maxHeartbeats 1000000 in
theorem alike_same (b c : Nat) (w : World) (q q' : Int) (df : Nat → Int) (pt pt' : Nat) (fed fed' : Bool) (hB : Blk w b 52 (dCells q df pt fed)) (hC : Blk w c 54 (dCells q' df pt' fed')) :
    Calls Try.prog 14 #[.pointer (some ⟨b, 0, none⟩), .pointer (some ⟨c, 0, none⟩)] w fun e w' => e = .returned (.bool true) ∧ Below w.heap.size w w' := by
  go_enter Try.func14, Try.ntmps14
  go_wp2_with fail
  go_loopw [5] (fun i wr => ∃ k : Nat, 1 ≤ k ∧ k ≤ 29 ∧ i = .int .i64 k ∧ Below w.heap.size w wr) (fun i _ => 29 - (intOf i).toNat)
  case atStart => exact ⟨1, by omega, by omega, rfl, Below.refl _ _⟩
  case round =>
    obtain ⟨k, hk1, hk2, rfl, hbr⟩ := hrel
    have xB := hB.below hbr hB.lt
    have xC := hC.below hbr hC.lt
    by_cases hlt : k ≤ 28
    · have c1 := (xC.cell (1 + k)).trans (dCells_df _ _ _ _ _ (by omega))
      have hl : c < wr.heap.size := xC.lt
      have hdef : defOf df k = df k := by unfold defOf; rw [if_pos (by omega)]; simp
      have h29 : (k : Int) < 29 := by omega
      have h28 : decide ((k : Int) ≤ 28) = true := by simp; omega
      have HX := Lib.hid xB
      have HBr := Lib.hid hbr
      have HD := Lib.hid hdef
      clear xB xC hbr hdef hB hC
      go_wp2_with fail
      refine wp_region_sub [2] (fun W => Below wr.heap.size wr W) (by kernel_rfl) (by kernel_rfl) ((Below.refl _ _).drew) (fun _ => ?_)
      iterate 2 (refine mix_read (by kernel_rfl) (by rfl) (by rfl) (by rfl) (of_decide_eq_true (by kernel_rfl)) ?_; apply Exists.intro; apply Exists.intro; refine ⟨fun w' hw' K hK => ?_, ?_, ?_⟩; (obtain ⟨X, rfl⟩ := hw'; go_wp2_with fail; first | exact ⟨rfl, rfl⟩ | exact rfl); rfl)
      (refine mix_act (by rfl) (by rfl) (fun K hK => ?_))
      go_wp2_with fail
      refine (Deficit_any b _ _ _ _ _ _ HX.out.drew).mono ?_
      rintro e w' ⟨rfl, rfl⟩
      rw [HD.out]
      go_wp2_with fail
      refine ⟨.mk ((Below.refl _ _).drew), ?_⟩
      iterate 7 (refine mix_read (by kernel_rfl) (by rfl) (by rfl) (by rfl) (of_decide_eq_true (by kernel_rfl)) ?_; apply Exists.intro; apply Exists.intro; refine ⟨fun w' hw' K hK => ?_, ?_, ?_⟩; (obtain ⟨X, rfl⟩ := hw'; go_wp2_with fail; first | exact ⟨rfl, rfl⟩ | exact rfl); rfl)
      refine mix_nil ?_
      go_wp2_with fail
      go_roundw
      case rel => exact ⟨k + 1, by omega, by omega, by go_num, HBr.out.drew⟩
      case measure => simp [intOf]; omega
    · obtain rfl : k = 29 := by omega
      have HX := Lib.hid xB
      have HBr := Lib.hid hbr
      clear xB xC hbr hB hC
      go_wp2_with fail
      refine (Deficit_any b _ _ _ _ _ _ HX.out).mono ?_
      rintro e w' ⟨rfl, rfl⟩
      rw [show defOf df 0 = 0 from rfl]
      go_wp2_with fail
      refine (Deficit_any b _ _ _ _ _ _ HX.out).mono ?_
      rintro e w' ⟨rfl, rfl⟩
      rw [show defOf df 29 = 0 from rfl]
      go_wp2_with fail
      go_ret
      exact ⟨rfl, HBr.out⟩

/-- What an element of l is. -/
theorem ask_at {w : World} {vs : List Value} {k : Nat} (h : Tr Try.prog w 33 ((vs.drop (k * 2)).take 2)) :
    ∃ (A : Option Addr) (n c : Nat) (b : Bool) (zs : List Int), vs[k * 2]? = some (.slice A n c) ∧ vs[k * 2 + 1]? = some (.bool b) ∧ zs.length = n ∧ n ≤ c ∧ c ≤ maxLen ∧ Rd w w.heap.size A (zs.map (Value.int .i64)) := by
  obtain ⟨hlen, hf⟩ := h.struct Try.underlying33
  have h0 : Tr Try.prog w 31 ((((vs.drop (k * 2)).take 2).drop 0).take (Try.prog.cellsOf 31)) := hf 0 _ rfl
  have h1 : Tr Try.prog w 4 ((((vs.drop (k * 2)).take 2).drop 1).take (Try.prog.cellsOf 4)) := hf 1 _ rfl
  rw [show Try.prog.cellsOf 33 = 2 by kernel_rfl] at hlen
  rw [show Try.prog.cellsOf 31 = 1 by kernel_rfl] at h0
  rw [show Try.prog.cellsOf 4 = 1 by kernel_rfl] at h1
  have hc1 : Try.prog.cellsOf 3 = 1 := by kernel_rfl
  obtain ⟨A, n, c, us, hcs, hn, hc, _, hul, hR, hel⟩ := h0.slice Try.underlying31 (by rw [hc1]; omega)
  obtain ⟨b, hb⟩ := h1.bool Try.underlying4
  rw [hc1] at hul hel
  obtain ⟨zs, hz⟩ : ∃ zs : List Int, us = zs.map (Value.int .i64) := by
    have : ∀ u ∈ us, ∃ x : Int, u = .int .i64 x := by
      intro u hu
      obtain ⟨i, hi, hiu⟩ := List.mem_iff_getElem.1 hu
      obtain ⟨x, hx, _⟩ := (hel i (by omega)).int Try.underlying3
      refine ⟨x, ?_⟩
      have : us[i]? = some (.int .i64 x) := by
        have h3 := congrArg (fun l : List Value => l[0]?) hx
        simpa using h3
      rw [List.getElem?_eq_getElem hi] at this
      rw [← hiu]; exact Option.some.inj this
    clear hel hR hcs hul
    induction us with
    | nil => exact ⟨[], rfl⟩
    | cons u us ih =>
      obtain ⟨x, rfl⟩ := this u (by simp)
      obtain ⟨zs, rfl⟩ := ih (fun v hv => this v (by simp [hv]))
      exact ⟨x :: zs, rfl⟩
  subst hz
  refine ⟨A, n, c, b, zs, ?_, ?_, by simpa using hul, hn, hc, hR⟩
  · have h3 := congrArg (fun l : List Value => l[0]?) hcs
    simpa using h3
  · have h3 := congrArg (fun l : List Value => l[0]?) hb
    simpa using h3

end Go.Proofs.Ytfbfjlogcphlfaa
