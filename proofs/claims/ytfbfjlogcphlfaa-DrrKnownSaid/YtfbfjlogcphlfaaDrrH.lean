import Derived.Test.YtfbfjlogcphlfaaDrrG
import Derived.Test.YtfbfjlogcphlfaaReg2
set_option linter.unusedSimpArgs false
set_option linter.unusedVariables false
namespace Go.Proofs.Ytfbfjlogcphlfaa
open Go.RowKit

def tCells (tab : Nat → Int) : Array Value := ((List.range 58).map fun i => Value.int .i64 (tab i)).toArray
theorem tCells_at (tab : Nat → Int) (i : Nat) (h : i < 58) : (tCells tab)[i]? = some (.int .i64 (tab i)) := by simp [tCells, h]

theorem came_tables {w : World} {v : Value} (h : Came Try.prog w 23 v) : ∃ tab, v = .agg (tCells tab) := by
  obtain ⟨cs, rfl, ht⟩ := h.array Try.underlying23
  obtain ⟨hlen, hf⟩ := ht.array Try.underlying23
  rw [show Try.prog.cellsOf 23 = 58 by kernel_rfl] at hlen
  rw [show Try.prog.cellsOf 22 = 29 by kernel_rfl] at hf
  have hall : ∀ i, i < 58 → ∃ x : Int, cs.toList[i]? = some (.int .i64 x) := by
    intro i hi
    have h1 := hf (i / 29) (by omega)
    obtain ⟨_, hg⟩ := h1.array Try.underlying22
    rw [show Try.prog.cellsOf 3 = 1 by kernel_rfl] at hg
    obtain ⟨x, hx, _⟩ := (hg (i % 29) (by omega)).int Try.underlying3
    refine ⟨x, ?_⟩
    have h3 := congrArg (fun l : List Value => l[0]?) hx
    simp only [List.getElem?_take, List.getElem?_drop, List.getElem?_cons_zero] at h3
    rw [if_pos (by omega), if_pos (by omega)] at h3
    rw [← h3]
    congr 1
    omega
  refine ⟨fun i => match cs.toList[i]? with | some (.int _ x) => x | _ => 0, ?_⟩
  congr 1
  apply Array.ext'
  apply List.ext_getElem?
  intro i
  by_cases hi : i < 58
  · obtain ⟨x, hx⟩ := hall i hi
    simp only [tCells]
    rw [List.getElem?_map, List.getElem?_range hi]
    simp only [Option.map_some, hx]
  · rw [List.getElem?_eq_none (by omega)]
    simp only [tCells]
    rw [List.getElem?_eq_none (by simp; omega)]

theorem iC_len (f : Nat → Int) : (iCells f).toList.length = 29 := by simp [iCells]
theorem iC_arr (f : Nat → Int) : (iCells f).toList.toArray = iCells f := by simp

theorem Rd.take {w : World} {B : Nat} {A : Option Addr} {zs : List Int} (h : Rd w B A (zs.map (Value.int .i64))) (k : Nat) : Rd w B A ((zs.take k).map (Value.int .i64)) := by
  rcases h with h | ⟨b, o, hA, hlt, hc⟩
  · left; simp at h; simp [h]
  · refine .inr ⟨b, o, hA, hlt, fun j u hj => hc j u ?_⟩
    rw [List.map_take, List.getElem?_take] at hj
    split at hj
    · exact hj
    · cases hj

theorem Below.drewl {B : Nat} {a w : World} (h : Below B a.drew w) : Below B a w := ⟨h.os, h.tape, h.output, h.size, h.block⟩

/-- The two tables, in whatever order their blocks are laid. -/
def TwoTables (tab : Nat → Int) (w : World) (b9 b10 : Nat) (wx : World) : Prop :=
  w.heap.size ≤ b9 ∧ w.heap.size ≤ b10 ∧ Below w.heap.size w wx ∧ Blk wx b9 30 (iCells tab) ∧ Blk wx b10 30 (iCells fun i => tab (29 + i))

theorem range_of {w : World} {b : Nat} {t : TypeId} {cs : Array Value} {f : Nat → Int} (o : Nat) (hg : Blk w b t cs) (h : ∀ j, j < 29 → cs[o + j]? = some (.int .i64 (f j))) : w.rangeAt b o (iCells f).toList := by
  intro j v hv
  have hj : j < 29 := by have := (List.getElem?_eq_some_iff.1 hv).1; rw [iC_len] at this; exact this
  have h1 := hg.cell (o + j)
  rw [h j hj] at h1
  rw [Array.getElem?_toList, iCells_at _ _ hj] at hv
  exact h1.trans hv

set_option maxRecDepth 100000 in
set_option maxHeartbeats 4000000 in
theorem DrrPlays_yes (quantum : Int) (tab : Nat → Int) (A : Option Addr) (len cap : Nat) (vs : List Value) (w : World) (hq : 1000 ≤ quantum ∧ quantum ≤ 1000000) (hm : len ≤ 9223372036854775807)
    (hvl : vs.length = len * 2) (hR : Rd w w.heap.size A vs) (hT : ∀ i, i < len → Tr Try.prog w 33 ((vs.drop (i * 2)).take 2)) :
    Calls Try.prog 3 #[.int .i64 quantum, .agg (tCells tab), .slice A len cap] w fun e w' => e = .returned (.bool true) ∧ Below w.heap.size w w' := by
  have hta := tCells_at tab
  generalize hcs : tCells tab = cs at *
  clear hcs
  go_enter Try.func3, Try.ntmps3
  go_wp2_with fail
  refine (New_yes _ _ hq).mono ?_
  rintro e w1 ⟨rfl, hb1, hx1⟩
  go_wp2_with fail
  refine (RNew_yes _ _ hq).mono ?_
  rintro e w2 ⟨rfl, hb2, hx2⟩
  have hz1 : (w.alloc (.cells cs 23)).heap.size = w.heap.size + 1 := by simp
  have hg4 : Blk w2 w.heap.size 23 cs := (((Blk.new w _ _).below hb1 (by simp)).below hb2 (by have := hb1.size; simp at this; omega))
  have hc : ∀ i, i < 58 → w2.cell? ⟨w.heap.size, i, none⟩ = some (.int .i64 (tab i)) := fun i hi => (hg4.cell i).trans (hta i hi)
  have hl : w.heap.size < w2.heap.size := hg4.lt
  have hw2 : Below w.heap.size w w2 := (((Below.refl _ w).alloc (Nat.le_refl _) _).trans (hb1.mono (by simp))).trans (hb2.mono (by have := hb1.size; simp at this; omega))
  have hx1' : Blk w2 (w.heap.size + 1) 52 (dCells quantum (fun _ => 0) 1 false) := (hx1.same_g hz1).below hb2 (by have := hx1.lt; simp at this; omega)
  have HH := Lib.hid (And.intro hw2 (And.intro hg4 (And.intro hx1' hx2)))
  have HTA := Lib.hid hta
  clear hb1 hx1 hb2 hx2 hx1' hg4 hw2 hz1 hta
  go_upto_region 4 with fail
  go_cut [9, 10] (fun s9 s10 wx => ∃ b9 b10 : Nat, s9 = .pointer (some ⟨b9, 0, none⟩) ∧ s10 = .pointer (some ⟨b10, 0, none⟩) ∧ TwoTables tab w2 b9 b10 wx)
  case first =>
    have hr0 : ∀ X : Cls fun W => Below w2.heap.size w2 W, X.W.rangeAt w.heap.size 0 (iCells tab).toList := fun X j v hv => by
      have hj : j < 29 := by have := (List.getElem?_eq_some_iff.1 hv).1; rw [iC_len] at this; exact this
      rw [sub_cell X _ _ hl, hc _ (by omega), ← hv, Array.getElem?_toList, iCells_at _ _ hj, Nat.zero_add]
    have hr1 : ∀ X : Cls fun W => Below w2.heap.size w2 W, X.W.rangeAt w.heap.size 29 (iCells fun i => tab (29 + i)).toList := fun X j v hv => by
      have hj : j < 29 := by have := (List.getElem?_eq_some_iff.1 hv).1; rw [iC_len] at this; exact this
      rw [sub_cell X _ _ hl, hc _ (by omega), ← hv, Array.getElem?_toList, iCells_at _ _ hj]
    clear hc
    refine wp_region_lin (by kernel_rfl) (wpLin_split 4 5 (by decide) ?_ ?_)
    · refine wpLin_ord1 4 5 [0, 1, 2, 3, 4, 5, 6, 7] [4, 5, 6, 7] (fun W => Below w2.heap.size w2 W) (by kernel_rfl) ((Below.refl _ _).drew) (fun _ => ?_)
      (refine mixO_read (by rfl) (by rfl) (by rfl) (by rfl) (by rfl) (by simp) ?_; apply Exists.intro; apply Exists.intro; refine ⟨fun w' hw' K hK => ?_, ?_, ?_⟩; (obtain ⟨X, rfl⟩ := hw'; go_wp2_with fail; first | exact ⟨rfl, rfl⟩ | exact rfl); rfl)
      (refine mixO_read (by rfl) (by rfl) (by rfl) (by rfl) (by rfl) (by simp) ?_; apply Exists.intro; apply Exists.intro; refine ⟨fun w' hw' K hK => ?_, ?_, ?_⟩; (obtain ⟨X, rfl⟩ := hw'; refine wp_load_mid 22 (.tmp 36) rfl w.heap.size 0 rfl (iCells tab).toList _ (hr0 X) Try.underlying22 rfl (by rw [iC_len]; kernel_rfl) ?_; (simp [Act.put]); exact hK _ _ ⟨rfl, rfl⟩); rfl)
      (refine mixO_read (by rfl) (by rfl) (by rfl) (by rfl) (by rfl) (by simp) ?_; apply Exists.intro; apply Exists.intro; refine ⟨fun w' hw' K hK => ?_, ?_, ?_⟩; (obtain ⟨X, rfl⟩ := hw'; go_wp2_with fail; first | exact ⟨rfl, rfl⟩ | exact rfl); rfl)
      (refine mixO_read (by rfl) (by rfl) (by rfl) (by rfl) (by rfl) (by simp) ?_; apply Exists.intro; apply Exists.intro; refine ⟨fun w' hw' K hK => ?_, ?_, ?_⟩; (obtain ⟨X, rfl⟩ := hw'; refine wp_load_mid 22 (.tmp 38) rfl w.heap.size 29 rfl (iCells fun i => tab (29 + i)).toList _ (hr1 X) Try.underlying22 rfl (by rw [iC_len]; kernel_rfl) ?_; (simp [Act.put]); exact hK _ _ ⟨rfl, rfl⟩); rfl)
      (refine mixO_act (by rfl) (by rfl) (by rfl) (fun K hK => ?_))
      go_wp2_with fail
      refine ⟨.mk ((Below.refl _ _).alloc (Nat.le_refl _) _).drew, ?_⟩
      (refine mixO_act (by rfl) (by rfl) (by rfl) (fun K hK => ?_))
      go_wp2_with fail
      refine ⟨.mk (((Below.refl _ _).alloc (Nat.le_refl _) _).alloc (by simp) _).drew, ?_⟩
      generalize hW3 : World.drew _ = W3
      have b3 : Below w2.heap.size w2 W3 := by rw [← hW3]; exact (((Below.refl _ _).alloc (Nat.le_refl _) _).alloc (by simp) _).drew
      have z9 : Blk W3 w2.heap.size 30 (iCells fun _ => 0) := by rw [← hW3]; exact (Blk.new _ _ _).alloc _
      have z10 : Blk W3 (w2.heap.size + 1) 30 (iCells fun _ => 0) := by rw [← hW3]; exact (Blk.new (w2.alloc _) _ _).same_g (by simp)
      clear hW3
      (refine mixO_act (by rfl) (by rfl) (by rfl) (fun K hK => ?_))
      refine wp_store_row 30 (.tmp 9) (.tmp 37) rfl _ (iCells tab).toList.toArray rfl rfl 30 _ z9 (by rw [iC_arr, iCells_size]; kernel_rfl) (by rw [iC_arr, iCells_size, iCells_size]) (by rw [iC_arr]; exact iCells_one _) ?_
      (simp [Act.put])
      refine hK _ _ ⟨.mk (Below_setRow b3 ?_ _), ?_⟩
      · omega
      have y9 := z9.setRow (iCells tab).toList.toArray
      have y10 := z10.setRow_far (g' := w2.heap.size) (by omega) (iCells tab).toList.toArray
      have b4 := Below_setRow b3 (g := w2.heap.size) (by omega) (iCells tab).toList.toArray
      clear z9 z10 b3
      refine mixO_last (by rfl) (by rfl) (by rfl) (by kernel_rfl) (fun K hK => ?_)
      refine wp_store_row 30 (.tmp 10) (.tmp 39) rfl _ (iCells fun i => tab (29 + i)).toList.toArray rfl rfl 30 _ y10 (by rw [iC_arr, iCells_size]; kernel_rfl) (by rw [iC_arr, iCells_size, iCells_size]) (by rw [iC_arr]; exact iCells_one _) ?_
      (simp [Act.put])
      refine hK _ _ ?_
      have x10 := y10.setRow (iCells fun i => tab (29 + i)).toList.toArray
      have x9 := y9.setRow_far (g' := (w2.heap.size + 1)) (by omega) (iCells fun i => tab (29 + i)).toList.toArray
      have b5 := Below_setRow b4 (g := (w2.heap.size + 1)) (by omega) (iCells fun i => tab (29 + i)).toList.toArray
      go_wp2_with fail
      go_meet
      exact ⟨w2.heap.size, (w2.heap.size + 1), rfl, rfl, by omega, by omega, b5, x9, x10⟩
    · refine wpLin_ord1 5 4 [0, 1, 2, 3, 5, 4, 6, 7] [4, 5, 6, 7] (fun W => Below w2.heap.size w2 W) (by kernel_rfl) ((Below.refl _ _).drew) (fun _ => ?_)
      (refine mixO_read (by rfl) (by rfl) (by rfl) (by rfl) (by rfl) (by simp) ?_; apply Exists.intro; apply Exists.intro; refine ⟨fun w' hw' K hK => ?_, ?_, ?_⟩; (obtain ⟨X, rfl⟩ := hw'; go_wp2_with fail; first | exact ⟨rfl, rfl⟩ | exact rfl); rfl)
      (refine mixO_read (by rfl) (by rfl) (by rfl) (by rfl) (by rfl) (by simp) ?_; apply Exists.intro; apply Exists.intro; refine ⟨fun w' hw' K hK => ?_, ?_, ?_⟩; (obtain ⟨X, rfl⟩ := hw'; refine wp_load_mid 22 (.tmp 36) rfl w.heap.size 0 rfl (iCells tab).toList _ (hr0 X) Try.underlying22 rfl (by rw [iC_len]; kernel_rfl) ?_; (simp [Act.put]); exact hK _ _ ⟨rfl, rfl⟩); rfl)
      (refine mixO_read (by rfl) (by rfl) (by rfl) (by rfl) (by rfl) (by simp) ?_; apply Exists.intro; apply Exists.intro; refine ⟨fun w' hw' K hK => ?_, ?_, ?_⟩; (obtain ⟨X, rfl⟩ := hw'; go_wp2_with fail; first | exact ⟨rfl, rfl⟩ | exact rfl); rfl)
      (refine mixO_read (by rfl) (by rfl) (by rfl) (by rfl) (by rfl) (by simp) ?_; apply Exists.intro; apply Exists.intro; refine ⟨fun w' hw' K hK => ?_, ?_, ?_⟩; (obtain ⟨X, rfl⟩ := hw'; refine wp_load_mid 22 (.tmp 38) rfl w.heap.size 29 rfl (iCells fun i => tab (29 + i)).toList _ (hr1 X) Try.underlying22 rfl (by rw [iC_len]; kernel_rfl) ?_; (simp [Act.put]); exact hK _ _ ⟨rfl, rfl⟩); rfl)
      (refine mixO_act (by rfl) (by rfl) (by rfl) (fun K hK => ?_))
      go_wp2_with fail
      refine ⟨.mk ((Below.refl _ _).alloc (Nat.le_refl _) _).drew, ?_⟩
      (refine mixO_act (by rfl) (by rfl) (by rfl) (fun K hK => ?_))
      go_wp2_with fail
      refine ⟨.mk (((Below.refl _ _).alloc (Nat.le_refl _) _).alloc (by simp) _).drew, ?_⟩
      generalize hW3 : World.drew _ = W3
      have b3 : Below w2.heap.size w2 W3 := by rw [← hW3]; exact (((Below.refl _ _).alloc (Nat.le_refl _) _).alloc (by simp) _).drew
      have z10 : Blk W3 w2.heap.size 30 (iCells fun _ => 0) := by rw [← hW3]; exact (Blk.new _ _ _).alloc _
      have z9 : Blk W3 (w2.heap.size + 1) 30 (iCells fun _ => 0) := by rw [← hW3]; exact (Blk.new (w2.alloc _) _ _).same_g (by simp)
      clear hW3
      (refine mixO_act (by rfl) (by rfl) (by rfl) (fun K hK => ?_))
      refine wp_store_row 30 (.tmp 9) (.tmp 37) rfl _ (iCells tab).toList.toArray rfl rfl 30 _ z9 (by rw [iC_arr, iCells_size]; kernel_rfl) (by rw [iC_arr, iCells_size, iCells_size]) (by rw [iC_arr]; exact iCells_one _) ?_
      (simp [Act.put])
      refine hK _ _ ⟨.mk (Below_setRow b3 ?_ _), ?_⟩
      · omega
      have y9 := z9.setRow (iCells tab).toList.toArray
      have y10 := z10.setRow_far (g' := (w2.heap.size + 1)) (by omega) (iCells tab).toList.toArray
      have b4 := Below_setRow b3 (g := (w2.heap.size + 1)) (by omega) (iCells tab).toList.toArray
      clear z9 z10 b3
      refine mixO_last (by rfl) (by rfl) (by rfl) (by kernel_rfl) (fun K hK => ?_)
      refine wp_store_row 30 (.tmp 10) (.tmp 39) rfl _ (iCells fun i => tab (29 + i)).toList.toArray rfl rfl 30 _ y10 (by rw [iC_arr, iCells_size]; kernel_rfl) (by rw [iC_arr, iCells_size, iCells_size]) (by rw [iC_arr]; exact iCells_one _) ?_
      (simp [Act.put])
      refine hK _ _ ?_
      have x10 := y10.setRow (iCells fun i => tab (29 + i)).toList.toArray
      have x9 := y9.setRow_far (g' := w2.heap.size) (by omega) (iCells fun i => tab (29 + i)).toList.toArray
      have b5 := Below_setRow b4 (g := w2.heap.size) (by omega) (iCells fun i => tab (29 + i)).toList.toArray
      go_wp2_with fail
      go_meet
      exact ⟨(w2.heap.size + 1), w2.heap.size, rfl, rfl, by omega, by omega, b5, x9, x10⟩
  case rest =>
    obtain ⟨b9, b10, rfl, rfl, hn9, hn10, hb3, k9, k10⟩ := hcut
    obtain ⟨hw2, hg4, hx1, hx2⟩ := HH.out
    have hbw : Below w.heap.size w wc := hw2.trans (hb3.mono hw2.size)
    have xg4 := hg4.below hb3 hg4.lt
    have xx1 := hx1.below hb3 hx1.lt
    have xx2 := hx2.below hb3 hx2.lt
    have hRc := hR.below hbw
    have hwc : w.heap.size ≤ wc.heap.size := hbw.size
    have HB := Lib.hid hbw
    have HT := Lib.hid hT
    have HV := Lib.hid hvl
    have HK9 := Lib.hid k9
    have HK10 := Lib.hid k10
    have HG := Lib.hid xg4
    clear hw2 hg4 hx1 hx2 hbw hT hvl hR HH hb3 k9 k10 xg4 hc
    go_wp2_with fail
    go_loopw [7, 8, 11] (fun d r i wr => ∃ (k bd br : Nat) (df : Nat → Int) (pt : Nat) (fed : Bool), k ≤ len ∧ k ≤ 100 ∧ i = .int .i64 k ∧ d = .pointer (some ⟨bd, 0, none⟩) ∧ r = .pointer (some ⟨br, 0, none⟩) ∧ Below wc.heap.size wc wr ∧
        Blk wr bd 52 (dCells quantum df pt fed) ∧ Blk wr br 54 (dCells quantum df pt fed) ∧ Dok df ∧ (1 ≤ pt ∧ pt ≤ 28))
      (fun _ _ i _ => len - (intOf i).toNat)
    case atStart => exact ⟨0, _, _, _, _, _, Nat.zero_le _, by omega, rfl, rfl, rfl, Below.refl _ _, xx1, xx2, fun m => by simp, by omega⟩
    case round =>
      obtain ⟨k, bd, br, df, pt, fed, hk1, hk2, rfl, rfl, rfl, hbr, xd, xr, hdf, hpt⟩ := hrel
      by_cases hlt : k < len
      · by_cases hlt2 : k < 100
        · obtain ⟨A', n', c', keep, zs, hv0, hv1, hzl, hnc, hcm, hRz⟩ := ask_at (HT.out k hlt)
          have hR' := hRc.below (hbr.mono hwc)
          rcases hR' with hnil | ⟨bA, oA, rfl, hbA, hcell⟩
          · rw [hnil] at hv0; simp at hv0
          have c0 := hcell _ _ hv0
          have c1 := hcell _ _ hv1
          have h100 : decide ((k : Int) < 100) = true := by simp; omega
          have hlA : bA < wr.heap.size := Nat.lt_of_lt_of_le hbA (Nat.le_trans hwc hbr.size)
          have hki : (k : Int) < len := by omega
          have HR := Lib.hid (And.intro hbr (And.intro xd (And.intro xr (And.intro hdf (And.intro hRz (And.intro hv0 (And.intro hv1 hcell)))))))
          have HZ := Lib.hid hzl
          unfold maxLen at hcm
          clear hbr xd xr hdf hRz hcell hv0 hv1 hzl
          go_upto_region 8 with fail
          go_cut [12] (fun s12 wx => ∃ n40 : Nat, (n40 ≤ n' ∧ n40 ≤ 40) ∧ s12 = .slice A' n40 c' ∧ wr.drew = wx)
          case first =>
            by_cases h40 : n' ≤ 40
            · refine wp_region_sub [] (fun W => Below wr.heap.size wr W) (by kernel_rfl) (by kernel_rfl) ((Below.refl _ _).drew) (fun _ => ?_)
              iterate 14 (refine mix_read (by kernel_rfl) (by rfl) (by rfl) (by rfl) (of_decide_eq_true (by kernel_rfl)) ?_; apply Exists.intro; apply Exists.intro; refine ⟨fun w' hw' K hK => ?_, ?_, ?_⟩; (obtain ⟨X, rfl⟩ := hw'; go_wp2_with fail; first | exact ⟨rfl, rfl⟩ | exact rfl); rfl)
              refine mix_nil ?_
              go_wp2_with fail
              go_meet
              exact ⟨n', ⟨by omega, by omega⟩, rfl, rfl⟩
            · refine wp_region_sub [] (fun W => Below wr.heap.size wr W) (by kernel_rfl) (by kernel_rfl) ((Below.refl _ _).drew) (fun _ => ?_)
              iterate 14 (refine mix_read (by kernel_rfl) (by rfl) (by rfl) (by rfl) (of_decide_eq_true (by kernel_rfl)) ?_; apply Exists.intro; apply Exists.intro; refine ⟨fun w' hw' K hK => ?_, ?_, ?_⟩; (obtain ⟨X, rfl⟩ := hw'; go_wp2_with fail; first | exact ⟨rfl, rfl⟩ | exact rfl); rfl)
              refine mix_nil ?_
              go_wp2_with fail
              go_meet
              exact ⟨40, ⟨by omega, by omega⟩, rfl, rfl⟩
          case rest =>
            obtain ⟨n40, hn40, rfl, rfl⟩ := hcut
            obtain ⟨hbr, xd, xr, hdf, hRz, hv0, hv1, hcell⟩ := HR.out
            have y9 := (HK9.out.below hbr HK9.out.lt).drew
            have y10 := (HK10.out.below hbr HK10.out.lt).drew
            have hRn : Rd wr.drew wr.drew.heap.size A' ((zs.take n40).map (Value.int .i64)) := ((hRz.below (HB.out.trans (hbr.mono hwc))).take n40).more (Nat.le_trans hwc hbr.size)
            have hzn : (zs.take n40).length = n40 := by rw [List.length_take, HZ.out]; omega
            have hn4 : n40 ≤ 9223372036854775807 := Nat.le_trans hn40.2 (by decide)
            clear hbr xd xr hdf hRz hv0 hv1 hcell
            go_wp2_with (first
              | (refine wpList_load_row rfl 30 (.tmp 9) rfl _ rfl 30 (iCells tab) (0, 0) _ y9 Try.underlying30 rfl (by rw [iCells_size]; kernel_rfl) ?_)
              | (refine wpList_load_row rfl 30 (.tmp 10) rfl _ rfl 30 (iCells fun i => tab (29 + i)) (0, 0) _ y10 Try.underlying30 rfl (by rw [iCells_size]; kernel_rfl) ?_))
            obtain ⟨hbr, xd, xr, hdf, hRz, hv0, hv1, hcell⟩ := HR.out
            have hna := next_any bd wr.drew quantum df pt fed hpt hq hdf xd.drew A' n40 c' (zs.take n40) hzn hn4 hRn tab (fun i => tab (29 + i)) _ _ (of_fn _) (of_fn _)
            refine hna.mono ?_
            clear hna
            rintro e w3 ⟨hb3, hor⟩
            have hb3' : Below wr.heap.size wr w3 := Below.drewl hb3
            have hgg := (HG.out.below hbr HG.out.lt).below hb3' (HG.out.below hbr HG.out.lt).lt
            have hra : w3.rangeAt w.heap.size 0 (iCells tab).toList := range_of 0 hgg (fun j hj => by rw [Nat.zero_add]; exact HTA.out j (by omega))
            have hrb : w3.rangeAt w.heap.size 29 (iCells fun i => tab (29 + i)).toList := range_of 29 hgg (fun j hj => HTA.out (29 + j) (by omega))
            have xr3 := xr.below hb3' xr.lt
            have xd3 := xd.below hb3' xd.lt
            have hRn3 := hRn.below hb3
            have hsz3 := hb3.size
            have HB3 := Lib.hid hb3'
            have HDF := Lib.hid hdf
            clear hbr xd xr hdf hRz hv0 hv1 hcell hb3 hb3' y9 y10 hRn hgg
            rcases hor with ⟨hnil, rfl⟩ | ⟨hne, bx, df1, pt1, fed1, hN1, hD1, hP1, rfl, hle1, hx1⟩
            · go_wp2_with (first
                | (refine wpList_load_mid rfl 22 (.tmp 76) rfl w.heap.size 0 rfl (iCells tab).toList _ hra Try.underlying22 rfl (by rw [iC_len]; kernel_rfl) ?_)
                | (refine wpList_load_mid rfl 22 (.tmp 78) rfl w.heap.size 29 rfl (iCells fun i => tab (29 + i)).toList _ hrb Try.underlying22 rfl (by rw [iC_len]; kernel_rfl) ?_))
              have hnr := rnext_any br w3 quantum df pt fed hpt hq HDF.out xr3 A' n40 c' (zs.take n40) hzn hn4 (hRn3.more hsz3) tab (fun i => tab (29 + i))
              refine hnr.mono ?_
              clear hnr
              rintro e w4 ⟨hb4, hor⟩
              replace hor := hor.resolve_right (fun h => absurd hnil h.1)
              obtain ⟨_, rfl⟩ := hor
              have xd4 := xd3.below hb4 xd3.lt
              have xr4 := xr3.below hb4 xr3.lt
              have HB4 : Hid (Below wr.heap.size wr w4) := Lib.hid (HB3.out.trans (hb4.mono HB3.out.size))
              have HY := Lib.hid (And.intro xd4 xr4)
              clear xd4 xr4 hb4 xd3 xr3 hra hrb
              go_wp2_with fail
              obtain ⟨xd4, xr4⟩ := HY.out
              refine (alike_same bd br w4 _ _ _ _ _ _ _ xd4 xr4).mono ?_
              rintro e w5 ⟨rfl, hb5⟩
              have xd5 := xd4.below hb5 xd4.lt
              have xr5 := xr4.below hb5 xr4.lt
              have HB5 : Hid (Below wr.heap.size wr w5) := Lib.hid (HB4.out.trans (hb5.mono HB4.out.size))
              have HY5 := Lib.hid (And.intro xd5 xr5)
              clear xd4 xr4 xd5 xr5 hb5 HY
              go_wp2_with fail
              obtain ⟨xd5, xr5⟩ := HY5.out
              refine (alike_same bd br w5 _ _ _ _ _ _ _ xd5 xr5).mono ?_
              rintro e w6 ⟨rfl, hb6⟩
              have xd6 := xd5.below hb6 xd5.lt
              have xr6 := xr5.below hb6 xr5.lt
              have HB6 : Hid (Below wr.heap.size wr w6) := Lib.hid (HB5.out.trans (hb6.mono HB5.out.size))
              have HY6 := Lib.hid (And.intro xd6 xr6)
              have c0' := (HB6.out.cell (p := ⟨bA, oA + k * 2, none⟩) hlA).trans c0
              have c1' : w6.cell? ⟨bA, oA + k * 2 + 1, none⟩ = some (.bool keep) := (HB6.out.cell (p := ⟨bA, oA + (k * 2 + 1), none⟩) hlA).trans c1
              have hlA' : bA < w6.heap.size := Nat.lt_of_lt_of_le hlA HB6.out.size
              clear c0 c1 hlA
              clear xd5 xr5 xd6 xr6 hb6 HY5
              cases keep with
              | true =>
                go_wp2_with fail
                go_roundw
                case rel =>
                  obtain ⟨xd6, xr6⟩ := HY6.out
                  exact ⟨k + 1, bd, br, df, pt, fed, by omega, by omega, by go_num, rfl, rfl, HR.out.1.trans (HB6.out.mono HR.out.1.size), xd6, xr6, HDF.out, hpt⟩
                case measure => simp [intOf]; omega
              | false =>
                go_wp2_with fail
                go_roundw
                case rel =>
                  obtain ⟨xd6, xr6⟩ := HY6.out
                  exact ⟨k + 1, bd, br, df, pt, fed, by omega, by omega, by go_num, rfl, rfl, HR.out.1.trans (HB6.out.mono HR.out.1.size), xd6, xr6, HDF.out, hpt⟩
                case measure => simp [intOf]; omega
            · have HN1 := Lib.hid hN1
              have HX1 := Lib.hid hx1
              clear hN1 hx1
              go_wp2_with (first
                | (refine wpList_load_mid rfl 22 (.tmp 76) rfl w.heap.size 0 rfl (iCells tab).toList _ hra Try.underlying22 rfl (by rw [iC_len]; kernel_rfl) ?_)
                | (refine wpList_load_mid rfl 22 (.tmp 78) rfl w.heap.size 29 rfl (iCells fun i => tab (29 + i)).toList _ hrb Try.underlying22 rfl (by rw [iC_len]; kernel_rfl) ?_))
              have hnr := rnext_any br w3 quantum df pt fed hpt hq HDF.out xr3 A' n40 c' (zs.take n40) hzn hn4 (hRn3.more hsz3) tab (fun i => tab (29 + i))
              refine hnr.mono ?_
              clear hnr
              rintro e w4 ⟨hb4, hor⟩
              rcases hor with ⟨hnil2, rfl⟩ | ⟨hne2, by', df2, pt2, fed2, hN2, hD2, hP2, rfl, hle2, hy2⟩
              · exact absurd hnil2 hne
              have hdet := hN2.det HN1.out
              obtain ⟨rfl, rfl, rfl⟩ : df2 = df1 ∧ pt2 = pt1 ∧ fed2 = fed1 := by
                have h1 := congrArg (·.1) hdet
                have h2 := congrArg (·.2.1) hdet
                have h3 := congrArg (·.2.2) hdet
                exact ⟨h1, h2, h3⟩
              have hx4 := HX1.out.below hb4 HX1.out.lt
              have xd4 := xd3.below hb4 xd3.lt
              have xr4 := xr3.below hb4 xr3.lt
              have HB4 : Hid (Below wr.heap.size wr w4) := Lib.hid (HB3.out.trans (hb4.mono HB3.out.size))
              have HY := Lib.hid (And.intro hx4 (And.intro xd4 (And.intro xr4 hy2)))
              have HN2 := Lib.hid hN2
              clear hx4 xd4 xr4 hy2 hN2 hdet hb4 HX1 xd3 xr3 hra hrb
              go_wp2_with fail
              obtain ⟨hx4, xd4, xr4, hy4⟩ := HY.out
              refine (alike_same bx by' w4 _ _ _ _ _ _ _ hx4 hy4).mono ?_
              rintro e w5 ⟨rfl, hb5⟩
              have xd5 := xd4.below hb5 xd4.lt
              have xr5 := xr4.below hb5 xr4.lt
              have hx5 := hx4.below hb5 hx4.lt
              have hy5 := hy4.below hb5 hy4.lt
              have HB5 : Hid (Below wr.heap.size wr w5) := Lib.hid (HB4.out.trans (hb5.mono HB4.out.size))
              have HY5 := Lib.hid (And.intro hx5 (And.intro xd5 (And.intro xr5 hy5)))
              clear hx4 xd4 xr4 hy4 hx5 xd5 xr5 hy5 hb5 HY
              go_wp2_with fail
              obtain ⟨hx5, xd5, xr5, hy5⟩ := HY5.out
              refine (alike_same bd br w5 _ _ _ _ _ _ _ xd5 xr5).mono ?_
              rintro e w6 ⟨rfl, hb6⟩
              have xd6 := xd5.below hb6 xd5.lt
              have xr6 := xr5.below hb6 xr5.lt
              have hx6 := hx5.below hb6 hx5.lt
              have hy6 := hy5.below hb6 hy5.lt
              have HB6 : Hid (Below wr.heap.size wr w6) := Lib.hid (HB5.out.trans (hb6.mono HB5.out.size))
              have HY6 := Lib.hid (And.intro hx6 (And.intro xd6 (And.intro xr6 hy6)))
              have c0' := (HB6.out.cell (p := ⟨bA, oA + k * 2, none⟩) hlA).trans c0
              have c1' : w6.cell? ⟨bA, oA + k * 2 + 1, none⟩ = some (.bool keep) := (HB6.out.cell (p := ⟨bA, oA + (k * 2 + 1), none⟩) hlA).trans c1
              have hlA' : bA < w6.heap.size := Nat.lt_of_lt_of_le hlA HB6.out.size
              clear c0 c1 hlA
              clear hx5 xd5 xr5 hy5 hx6 xd6 xr6 hy6 hb6 HY5
              cases keep with
              | true =>
                go_wp2_with fail
                go_roundw
                case rel =>
                  obtain ⟨hx6, xd6, xr6, hy6⟩ := HY6.out
                  exact ⟨k + 1, bx, by', df2, pt2, fed2, by omega, by omega, by go_num, rfl, rfl, HR.out.1.trans (HB6.out.mono HR.out.1.size), hx6, hy6, hD2, hP2⟩
                case measure => simp [intOf]; omega
              | false =>
                go_wp2_with fail
                go_roundw
                case rel =>
                  obtain ⟨hx6, xd6, xr6, hy6⟩ := HY6.out
                  exact ⟨k + 1, bd, br, df, pt, fed, by omega, by omega, by go_num, rfl, rfl, HR.out.1.trans (HB6.out.mono HR.out.1.size), xd6, xr6, HDF.out, hpt⟩
                case measure => simp [intOf]; omega
        · obtain rfl : k = 100 := by omega
          have HBR := Lib.hid hbr
          clear hbr xd xr hdf
          go_wp2_with fail
          refine (works_any _).mono ?_
          rintro e w' ⟨rfl, hbe⟩
          have HBE := Lib.hid hbe
          clear hbe
          go_wp2_with fail
          go_ret
          exact ⟨rfl, HB.out.trans ((HBR.out.mono hwc).trans (HBE.out.mono (Nat.le_trans hwc HBR.out.size)))⟩
      · obtain rfl : k = len := by omega
        have HBR := Lib.hid hbr
        clear hbr xd xr hdf
        go_wp2_with fail
        refine (works_any _).mono ?_
        rintro e w' ⟨rfl, hbe⟩
        have HBE := Lib.hid hbe
        clear hbe
        go_wp2_with fail
        go_ret
        exact ⟨rfl, HB.out.trans ((HBR.out.mono hwc).trans (HBE.out.mono (Nat.le_trans hwc HBR.out.size)))⟩

end Go.Proofs.Ytfbfjlogcphlfaa
