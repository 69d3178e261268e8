/- DrrAlone. -/
import Derived.Test.YtfbfjlogcphlfaaDrrM
import Derived.Deep.CutBlock
set_option linter.unusedSimpArgs false
set_option linter.unusedVariables false
namespace Go.Proofs.Ytfbfjlogcphlfaa
open Go.RowKit

theorem rd_one (W : World) (t : TypeId) (x : Int) : Rd (W.alloc (.cells #[.int .i64 x] t)) (W.heap.size + 1) (some ⟨W.heap.size, 0, none⟩) ([x].map (Value.int .i64)) := by
  refine .inr ⟨_, _, rfl, by omega, fun j u hj => ?_⟩
  rw [(Blk.new W t _).cell]
  match j with
  | 0 => simpa using hj
  | j + 1 => simp at hj

set_option maxRecDepth 100000 in
set_option maxHeartbeats 4000000 in
theorem DrrAlone_walk' (tab : Nat → Int) (A : Option Addr) (len cap : Nat) (xs : List Int) (w : World) (hm : len ≤ 9223372036854775807)
    (hvl : xs.length = len) (hR : Rd w w.heap.size A (xs.map (Value.int .u32))) (hx32 : ∀ x ∈ xs, 0 ≤ x ∧ x < 4294967296) (who : Int) (hwho : 0 ≤ who ∧ who ≤ 255) :
    Calls Try.prog 6 #[.agg (tCells tab), .slice A len cap, .int .u8 who] w fun e w' => e = .returned (.bool true) ∧ Below w.heap.size w w' := by
  have hta := tCells_at tab
  generalize hcs : tCells tab = cs at *
  clear hcs
  go_enter Try.func6, Try.ntmps6
  go_wp2_with fail
  refine (works_any _).mono ?_
  rintro e w2 ⟨rfl, hb2⟩
  have hg4 : Blk w2 w.heap.size 23 cs := (Blk.new w _ _).below hb2 (by simp)
  have hc : ∀ i, i < 58 → w2.cell? ⟨w.heap.size, i, none⟩ = some (.int .i64 (tab i)) := fun i hi => (hg4.cell i).trans (hta i hi)
  have hl : w.heap.size < w2.heap.size := hg4.lt
  have hw2 : Below w.heap.size w w2 := ((Below.refl _ w).alloc (Nat.le_refl _) _).trans (hb2.mono (by simp))
  have HH := Lib.hid hw2
  clear hw2 hb2 hg4
  go_upto_region 3 with fail
  go_cut [7, 8] (fun s9 s10 wx => ∃ b9 b10 : Nat, s9 = .pointer (some ⟨b9, 0, none⟩) ∧ s10 = .pointer (some ⟨b10, 0, none⟩) ∧ TwoTables tab w2 b9 b10 wx)
  case first =>
    have hr0 : ∀ X : Cls fun W => Below w2.heap.size w2 W, X.W.rangeAt w.heap.size 0 (iCells tab).toList := fun X j v hv => by
      have hj : j < 29 := by have := (List.getElem?_eq_some_iff.1 hv).1; rw [iC_len] at this; exact this
      rw [sub_cell X _ _ hl, hc _ (by omega), ← hv, Array.getElem?_toList, iCells_at _ _ hj, Nat.zero_add]
    have hr1 : ∀ X : Cls fun W => Below w2.heap.size w2 W, X.W.rangeAt w.heap.size 29 (iCells fun i => tab (29 + i)).toList := fun X j v hv => by
      have hj : j < 29 := by have := (List.getElem?_eq_some_iff.1 hv).1; rw [iC_len] at this; exact this
      rw [sub_cell X _ _ hl, hc _ (by omega), ← hv, Array.getElem?_toList, iCells_at _ _ hj]
    clear hc
    refine wp_region_lin (by kernel_rfl) (wpLin_split 4 5 (by decide) ?_ ?_)
    · refine wpLin_ord1 4 5 [0, 1, 2, 3, 4, 5, 6, 7] [4, 5, 6, 7] (fun W => Below w2.heap.size w2 W) (by kernel_rfl) ((Below.refl _ _).drew) (fun _ => ?_)
      (refine mixO_read (by rfl) (by rfl) (by rfl) (by rfl) (by rfl) (by simp) ?_; apply Exists.intro; apply Exists.intro; refine ⟨fun w' hw' K hK => ?_, ?_, ?_⟩; (obtain ⟨X, rfl⟩ := hw'; go_wp2_with fail; first | exact ⟨rfl, rfl⟩ | exact rfl); rfl)
      (refine mixO_read (by rfl) (by rfl) (by rfl) (by rfl) (by rfl) (by simp) ?_; apply Exists.intro; apply Exists.intro; refine ⟨fun w' hw' K hK => ?_, ?_, ?_⟩; (obtain ⟨X, rfl⟩ := hw'; refine wp_load_mid 22 (.tmp 24) rfl w.heap.size 0 rfl (iCells tab).toList _ (hr0 X) Try.underlying22 rfl (by rw [iC_len]; kernel_rfl) ?_; (simp [Act.put]); exact hK _ _ ⟨rfl, rfl⟩); rfl)
      (refine mixO_read (by rfl) (by rfl) (by rfl) (by rfl) (by rfl) (by simp) ?_; apply Exists.intro; apply Exists.intro; refine ⟨fun w' hw' K hK => ?_, ?_, ?_⟩; (obtain ⟨X, rfl⟩ := hw'; go_wp2_with fail; first | exact ⟨rfl, rfl⟩ | exact rfl); rfl)
      (refine mixO_read (by rfl) (by rfl) (by rfl) (by rfl) (by rfl) (by simp) ?_; apply Exists.intro; apply Exists.intro; refine ⟨fun w' hw' K hK => ?_, ?_, ?_⟩; (obtain ⟨X, rfl⟩ := hw'; refine wp_load_mid 22 (.tmp 26) rfl w.heap.size 29 rfl (iCells fun i => tab (29 + i)).toList _ (hr1 X) Try.underlying22 rfl (by rw [iC_len]; kernel_rfl) ?_; (simp [Act.put]); exact hK _ _ ⟨rfl, rfl⟩); rfl)
      (refine mixO_act (by rfl) (by rfl) (by rfl) (fun K hK => ?_))
      go_wp2_with fail
      refine ⟨.mk ((Below.refl _ _).alloc (Nat.le_refl _) _).drew, ?_⟩
      (refine mixO_act (by rfl) (by rfl) (by rfl) (fun K hK => ?_))
      go_wp2_with fail
      refine ⟨.mk (((Below.refl _ _).alloc (Nat.le_refl _) _).alloc (by simp) _).drew, ?_⟩
      generalize hW3 : World.drew _ = W3
      have b3 : Below w2.heap.size w2 W3 := by rw [← hW3]; exact (((Below.refl _ _).alloc (Nat.le_refl _) _).alloc (by simp) _).drew
      have z9 : Blk W3 w2.heap.size 30 (iCells fun _ => 0) := by rw [← hW3]; exact (Blk.new _ _ _).alloc _
      have z10 : Blk W3 (w2.heap.size + 1) 30 (iCells fun _ => 0) := by rw [← hW3]; exact (Blk.new (w2.alloc _) _ _).same_g (by simp)
      clear hW3
      (refine mixO_act (by rfl) (by rfl) (by rfl) (fun K hK => ?_))
      refine wp_store_row 30 (.tmp 7) (.tmp 25) rfl _ (iCells tab).toList.toArray rfl rfl 30 _ z9 (by rw [iC_arr, iCells_size]; kernel_rfl) (by rw [iC_arr, iCells_size, iCells_size]) (by rw [iC_arr]; exact iCells_one _) ?_
      (simp [Act.put])
      refine hK _ _ ⟨.mk (Below_setRow b3 ?_ _), ?_⟩
      · omega
      have y9 := z9.setRow (iCells tab).toList.toArray
      have y10 := z10.setRow_far (g' := w2.heap.size) (by omega) (iCells tab).toList.toArray
      have b4 := Below_setRow b3 (g := w2.heap.size) (by omega) (iCells tab).toList.toArray
      clear z9 z10 b3
      refine mixO_last (by rfl) (by rfl) (by rfl) (by kernel_rfl) (fun K hK => ?_)
      refine wp_store_row 30 (.tmp 8) (.tmp 27) rfl _ (iCells fun i => tab (29 + i)).toList.toArray rfl rfl 30 _ y10 (by rw [iC_arr, iCells_size]; kernel_rfl) (by rw [iC_arr, iCells_size, iCells_size]) (by rw [iC_arr]; exact iCells_one _) ?_
      (simp [Act.put])
      refine hK _ _ ?_
      have x10 := y10.setRow (iCells fun i => tab (29 + i)).toList.toArray
      have x9 := y9.setRow_far (g' := (w2.heap.size + 1)) (by omega) (iCells fun i => tab (29 + i)).toList.toArray
      have b5 := Below_setRow b4 (g := (w2.heap.size + 1)) (by omega) (iCells fun i => tab (29 + i)).toList.toArray
      go_wp2_with fail
      go_meet
      exact ⟨w2.heap.size, (w2.heap.size + 1), rfl, rfl, by omega, by omega, b5, x9, x10⟩
    · refine wpLin_ord1 5 4 [0, 1, 2, 3, 5, 4, 6, 7] [4, 5, 6, 7] (fun W => Below w2.heap.size w2 W) (by kernel_rfl) ((Below.refl _ _).drew) (fun _ => ?_)
      (refine mixO_read (by rfl) (by rfl) (by rfl) (by rfl) (by rfl) (by simp) ?_; apply Exists.intro; apply Exists.intro; refine ⟨fun w' hw' K hK => ?_, ?_, ?_⟩; (obtain ⟨X, rfl⟩ := hw'; go_wp2_with fail; first | exact ⟨rfl, rfl⟩ | exact rfl); rfl)
      (refine mixO_read (by rfl) (by rfl) (by rfl) (by rfl) (by rfl) (by simp) ?_; apply Exists.intro; apply Exists.intro; refine ⟨fun w' hw' K hK => ?_, ?_, ?_⟩; (obtain ⟨X, rfl⟩ := hw'; refine wp_load_mid 22 (.tmp 24) rfl w.heap.size 0 rfl (iCells tab).toList _ (hr0 X) Try.underlying22 rfl (by rw [iC_len]; kernel_rfl) ?_; (simp [Act.put]); exact hK _ _ ⟨rfl, rfl⟩); rfl)
      (refine mixO_read (by rfl) (by rfl) (by rfl) (by rfl) (by rfl) (by simp) ?_; apply Exists.intro; apply Exists.intro; refine ⟨fun w' hw' K hK => ?_, ?_, ?_⟩; (obtain ⟨X, rfl⟩ := hw'; go_wp2_with fail; first | exact ⟨rfl, rfl⟩ | exact rfl); rfl)
      (refine mixO_read (by rfl) (by rfl) (by rfl) (by rfl) (by rfl) (by simp) ?_; apply Exists.intro; apply Exists.intro; refine ⟨fun w' hw' K hK => ?_, ?_, ?_⟩; (obtain ⟨X, rfl⟩ := hw'; refine wp_load_mid 22 (.tmp 26) rfl w.heap.size 29 rfl (iCells fun i => tab (29 + i)).toList _ (hr1 X) Try.underlying22 rfl (by rw [iC_len]; kernel_rfl) ?_; (simp [Act.put]); exact hK _ _ ⟨rfl, rfl⟩); rfl)
      (refine mixO_act (by rfl) (by rfl) (by rfl) (fun K hK => ?_))
      go_wp2_with fail
      refine ⟨.mk ((Below.refl _ _).alloc (Nat.le_refl _) _).drew, ?_⟩
      (refine mixO_act (by rfl) (by rfl) (by rfl) (fun K hK => ?_))
      go_wp2_with fail
      refine ⟨.mk (((Below.refl _ _).alloc (Nat.le_refl _) _).alloc (by simp) _).drew, ?_⟩
      generalize hW3 : World.drew _ = W3
      have b3 : Below w2.heap.size w2 W3 := by rw [← hW3]; exact (((Below.refl _ _).alloc (Nat.le_refl _) _).alloc (by simp) _).drew
      have z10 : Blk W3 w2.heap.size 30 (iCells fun _ => 0) := by rw [← hW3]; exact (Blk.new _ _ _).alloc _
      have z9 : Blk W3 (w2.heap.size + 1) 30 (iCells fun _ => 0) := by rw [← hW3]; exact (Blk.new (w2.alloc _) _ _).same_g (by simp)
      clear hW3
      (refine mixO_act (by rfl) (by rfl) (by rfl) (fun K hK => ?_))
      refine wp_store_row 30 (.tmp 7) (.tmp 25) rfl _ (iCells tab).toList.toArray rfl rfl 30 _ z9 (by rw [iC_arr, iCells_size]; kernel_rfl) (by rw [iC_arr, iCells_size, iCells_size]) (by rw [iC_arr]; exact iCells_one _) ?_
      (simp [Act.put])
      refine hK _ _ ⟨.mk (Below_setRow b3 ?_ _), ?_⟩
      · omega
      have y9 := z9.setRow (iCells tab).toList.toArray
      have y10 := z10.setRow_far (g' := (w2.heap.size + 1)) (by omega) (iCells tab).toList.toArray
      have b4 := Below_setRow b3 (g := (w2.heap.size + 1)) (by omega) (iCells tab).toList.toArray
      clear z9 z10 b3
      refine mixO_last (by rfl) (by rfl) (by rfl) (by kernel_rfl) (fun K hK => ?_)
      refine wp_store_row 30 (.tmp 8) (.tmp 27) rfl _ (iCells fun i => tab (29 + i)).toList.toArray rfl rfl 30 _ y10 (by rw [iC_arr, iCells_size]; kernel_rfl) (by rw [iC_arr, iCells_size, iCells_size]) (by rw [iC_arr]; exact iCells_one _) ?_
      (simp [Act.put])
      refine hK _ _ ?_
      have x10 := y10.setRow (iCells fun i => tab (29 + i)).toList.toArray
      have x9 := y9.setRow_far (g' := w2.heap.size) (by omega) (iCells fun i => tab (29 + i)).toList.toArray
      have b5 := Below_setRow b4 (g := w2.heap.size) (by omega) (iCells fun i => tab (29 + i)).toList.toArray
      go_wp2_with fail
      go_meet
      exact ⟨(w2.heap.size + 1), w2.heap.size, rfl, rfl, by omega, by omega, b5, x9, x10⟩
  case rest =>
    obtain ⟨b9, b10, rfl, rfl, hn9, hn10, hb3, k9, k10⟩ := hcut
    have hbw : Below w.heap.size w wc := HH.out.trans (hb3.mono HH.out.size)
    have HK := Lib.hid (And.intro hbw (And.intro k9 k10))
    clear hb3 k9 k10 hc
    go_wp2_with fail
    refine (New_yes _ _ (by omega)).mono ?_
    rintro e w3 ⟨rfl, hb4, hx1⟩
    have hbw3 : Below w.heap.size w w3 := hbw.trans (hb4.mono hbw.size)
    have k9 := HK.out.2.1.below hb4 HK.out.2.1.lt
    have k10 := HK.out.2.2.below hb4 HK.out.2.2.lt
    have hRc := hR.below hbw3
    have hwc : w.heap.size ≤ w3.heap.size := hbw3.size
    have HB := Lib.hid hbw3
    have HK9 := Lib.hid k9
    have HK10 := Lib.hid k10
    have HX := Lib.hid hx32
    have HV := Lib.hid hvl
    clear hbw hb4 k9 k10 hbw3 HK hR HH hx32 hvl
    go_upto_block 0 with fail
    go_cut [9] (fun d wx => ∃ (bd : Nat) (df : Nat → Int) (pt : Nat) (fed : Bool), d = .pointer (some ⟨bd, 0, none⟩) ∧ Below w3.heap.size w3 wx ∧ Blk wx bd 52 (dCells 2000 df pt fed) ∧ Bd 2000 df ∧ (1 ≤ pt ∧ pt ≤ 28))
    case first =>
      go_wp2_with fail
      go_loopw [9, 10] (fun d i wr => ∃ (k bd : Nat) (df : Nat → Int) (pt : Nat) (fed : Bool), k ≤ len ∧ k ≤ 40 ∧ i = .int .i64 k ∧ d = .pointer (some ⟨bd, 0, none⟩) ∧ Below w3.heap.size w3 wr ∧
          Blk wr bd 52 (dCells 2000 df pt fed) ∧ Bd 2000 df ∧ (1 ≤ pt ∧ pt ≤ 28))
        (fun _ i _ => len - (intOf i).toNat)
      case atStart => exact ⟨0, _, _, _, _, Nat.zero_le _, by omega, rfl, rfl, Below.refl _ _, hx1, fun m => by simp, by omega⟩
      case round =>
        obtain ⟨k, bd, df, pt, fed, hk1, hk2, rfl, rfl, hbr, xd, hdf, hpt⟩ := hrel
        by_cases hlt : k < len
        · by_cases hlt2 : k < 40
          · obtain ⟨x, hx⟩ : ∃ x, xs[k]? = some x := ⟨_, List.getElem?_eq_getElem (by rw [HV.out]; exact hlt)⟩
            have hR' := hRc.below (hbr.mono hwc)
            rcases hR' with hnil | ⟨bA, oA, rfl, hbA, hcell⟩
            · have h0 := congrArg List.length hnil; simp [HV.out] at h0; omega
            have c0 := hcell k _ (by rw [List.getElem?_map, hx]; rfl)
            have h100 : decide ((k : Int) < 40) = true := by simp; omega
            have hlA : bA < wr.heap.size := Nat.lt_of_lt_of_le hbA (Nat.le_trans hwc hbr.size)
            have hki : (k : Int) < len := by omega
            have hxr := HX.out x (List.mem_of_getElem? hx)
            have HR := Lib.hid (And.intro hbr (And.intro xd hdf))
            have HXX := Lib.hid (And.intro hxr hx)
            clear hbr xd hdf hcell hx hxr hx1
            go_wp2_with fail
            obtain ⟨wo, rfl⟩ : ∃ wo, wo = wr := ⟨wr, rfl⟩
            go_loopw [11, 12] (fun v i wr => ∃ m : Nat, 1 ≤ m ∧ m ≤ 29 ∧ i = .int .i64 m ∧ wr.ownsRow wo.heap.size 3 1 v (mbits x m).length ((mbits x m).map (Value.int .i64)) ∧ Below wo.heap.size wo wr) (fun _ i _ => 29 - (intOf i).toNat)
            case atStart => exact ⟨1, by omega, by omega, rfl, World.ownsRow_nil _ _ _ _, Below.refl _ _⟩
            case round =>
              obtain ⟨m, hm1, hm2, rfl, hown, hbi⟩ := hrel
              by_cases hm28 : m ≤ 28
              · have c0' := (hbi.cell (p := ⟨bA, oA + k, none⟩) hlA).trans c0
                have hlA' : bA < wr.heap.size := Nat.lt_of_lt_of_le hlA hbi.size
                have h29 : (m : Int) < 29 := by omega
                cases hb : bit x m with
                | true =>
                  have hbt : (Go.bits BinOp.and IntKind.u32 (x / 2 ^ m) 1 == 1) = true := hb
                  have HO := Lib.hid (And.intro hown hbi)
                  have hml := mbits_len x m
                  have hsz := hbi.size
                  obtain ⟨i0, hi, hz0, hz1, hz2⟩ := info_parts int_info
                  clear hbi
                  go_wp2_with (first
                    | (at_builtin; refine wpList_append_own _ rfl (.tmp 53) (.tmp 55) 31 rfl wo.heap.size 3 i0 (.int .i64 0) 1 8 Try.underlying31 hi hz0 hz1 hz2 rfl (by decide) _ _ _ rfl (hown.alloc _) ⟨wr.heap.size, 0, none⟩ 1 1 [.int .i64 m] rfl rfl (fun j u hj => by match j, hj with | 0, hj => (simp at hj; subst hj; simp [Addr.add])) (fun u hu => by simp at hu; subst hu; rfl) (by unfold maxLen; omega) (by omega) (by simp; omega) ?_; intro v' w1 hown1 hgrow _))
                  go_roundw
                  case rel =>
                    refine ⟨m + 1, by omega, by omega, by go_num, ?_, ?_⟩
                    · rw [mbits_hit x m hm1 hb, List.length_append, List.map_append]; exact hown1
                    · exact (HO.out.2.alloc hsz _).grown hgrow (by simp; omega) (fun k hk => (HO.out.1.lt k hk).1)
                  case measure => simp [intOf]; omega
                | false =>
                  have hbt : (Go.bits BinOp.and IntKind.u32 (x / 2 ^ m) 1 == 1) = false := hb
                  have HO := Lib.hid (And.intro hown hbi)
                  clear hbi hown
                  go_wp2_with fail
                  go_roundw
                  case rel => exact ⟨m + 1, by omega, by omega, by go_num, by rw [mbits_miss x m hb]; exact HO.out.1, HO.out.2⟩
                  case measure => simp [intOf]; omega
              · obtain rfl : m = 29 := by omega
                have hml := mbits_len x 29
                obtain ⟨A', c', rfl, hnc', hRw⟩ := rd_own hown
                obtain ⟨hbr, xd, hdf⟩ := HR.out
                have xd1 := xd.below hbi xd.lt
                have hb3o := hbr.trans (hbi.mono hbr.size)
                have y9 := HK9.out.below hb3o HK9.out.lt
                have y10 := HK10.out.below hb3o HK10.out.lt
                have HO := Lib.hid (And.intro hb3o (And.intro hRw xd1))
                clear hbi hRw hown hbr xd hdf xd1 hb3o
                go_wp2_with (first
                  | (refine wpList_load_row rfl 30 (.tmp 7) rfl _ rfl 30 (iCells tab) (0, 0) _ y9 Try.underlying30 rfl (by rw [iCells_size]; kernel_rfl) ?_)
                  | (refine wpList_load_row rfl 30 (.tmp 8) rfl _ rfl 30 (iCells fun i => tab (29 + i)) (0, 0) _ y10 Try.underlying30 rfl (by rw [iCells_size]; kernel_rfl) ?_))
                have hdo : Dok df := fun m => by have := HR.out.2.2 m; omega
                have hna := next_any bd wr 2000 df pt fed hpt (by omega) hdo HO.out.2.2 A' (mbits x 29).length c' (mbits x 29) rfl (by omega) HO.out.2.1 tab (fun i => tab (29 + i)) _ _ (of_fn _) (of_fn _)
                refine hna.mono ?_
                clear hna
                rintro e w6 ⟨hb6, hor⟩
                have hb36 := HO.out.1.trans (hb6.mono HO.out.1.size)
                have hd6 := HO.out.2.2.below hb6 HO.out.2.2.lt
                have HE := Lib.hid (And.intro hb36 hd6)
                clear hb6 hb36 hd6 y9 y10
                rcases hor with ⟨hnil, rfl⟩ | ⟨hne, bx, df1, pt1, fed1, hN1, hD1, hP1, rfl, hle1, hx1⟩
                · go_wp2_with fail
                  go_roundw
                  case rel => exact ⟨k + 1, bd, df, pt, fed, by omega, by omega, by go_num, rfl, HE.out.1, HE.out.2, HR.out.2.2, hpt⟩
                  case measure => simp [intOf]; omega
                · have hbd1 := (hN1.bd (by omega) HR.out.2.2).1
                  have HBD := Lib.hid (And.intro hbd1 hx1)
                  clear hbd1 hx1 hN1
                  go_wp2_with fail
                  go_roundw
                  case rel => exact ⟨k + 1, bx, df1, pt1, fed1, by omega, by omega, by go_num, rfl, HE.out.1, HBD.out.2, HBD.out.1, hP1⟩
                  case measure => simp [intOf]; omega
          · obtain rfl : k = 40 := by omega
            have HBR := Lib.hid (And.intro hbr (And.intro xd hdf))
            clear hbr xd hdf
            go_wp2_with fail
            go_meet
            exact ⟨bd, df, pt, fed, rfl, HBR.out.1, HBR.out.2.1, HBR.out.2.2, hpt⟩
        · obtain rfl : k = len := by omega
          have HBR := Lib.hid (And.intro hbr (And.intro xd hdf))
          clear hbr xd hdf
          go_wp2_with fail
          go_meet
          exact ⟨bd, df, pt, fed, rfl, HBR.out.1, HBR.out.2.1, HBR.out.2.2, hpt⟩
    case rest =>
      obtain ⟨bd, df, pt, fed, rfl, hbr, xd, hdf, hpt⟩ := hcut
      have HR := Lib.hid (And.intro hbr (And.intro xd hdf))
      clear hbr xd hdf
      obtain ⟨m, hmN, hm⟩ : ∃ m : Nat, 1 + who % 28 = (m : Int) ∧ 1 ≤ m ∧ m ≤ 28 := ⟨(1 + who % 28).toNat, by omega, by omega⟩
      obtain ⟨hm1, hm2⟩ := hm
      go_wp2_with fail
      clear hmN
      obtain ⟨wq, rfl⟩ : ∃ wq, wq = wc := ⟨wc, rfl⟩
      go_loopw [9, 14] (fun d i wr => ∃ (k bd : Nat) (df : Nat → Int) (pt : Nat) (fed : Bool), k ≤ 100 ∧ i = .int .i64 k ∧ d = .pointer (some ⟨bd, 0, none⟩) ∧ Below w3.heap.size w3 wr ∧
          Blk wr bd 52 (dCells 2000 df pt fed) ∧ Bd 2000 df ∧ (1 ≤ pt ∧ pt ≤ 28))
        (fun _ i _ => 100 - (intOf i).toNat)
      case atStart => exact ⟨0, bd, df, pt, fed, by omega, rfl, rfl, HR.out.1, HR.out.2.1, HR.out.2.2, hpt⟩
      case round =>
        clear HR hpt
        obtain ⟨k, bd, df, pt, fed, hk, rfl, rfl, hbr, xd, hdf, hpt⟩ := hrel
        by_cases hlt : k < 100
        · have y9 := HK9.out.below hbr HK9.out.lt
          have y10 := HK10.out.below hbr HK10.out.lt
          have HR := Lib.hid (And.intro hbr (And.intro xd hdf))
          have hk100 : (k : Int) < 100 := by omega
          clear hbr xd hdf
          go_wp2_with (first
            | (refine wpList_load_row rfl 30 (.tmp 7) rfl _ rfl 30 (iCells tab) (0, 0) _ (y9.alloc _) Try.underlying30 rfl (by rw [iCells_size]; kernel_rfl) ?_)
            | (refine wpList_load_row rfl 30 (.tmp 8) rfl _ rfl 30 (iCells fun i => tab (29 + i)) (0, 0) _ (y10.alloc _) Try.underlying30 rfl (by rw [iCells_size]; kernel_rfl) ?_))
          obtain ⟨hbr, xd, hdf⟩ := HR.out
          have hdo : Dok df := fun m => by have := hdf m; omega
          have hna := next_any bd _ 2000 df pt fed hpt (by omega) hdo (xd.alloc _) (some ⟨wr.heap.size, 0, none⟩) 2 2 [(m : Int), (m : Int)] rfl (by omega) ((rd_two wr 3 m m).more (by simp)) tab (fun i => tab (29 + i)) _ _ (of_fn _) (of_fn _)
          refine hna.mono ?_
          clear hna
          rintro e w6 ⟨hb6, hor⟩
          rcases hor with ⟨hnil, rfl⟩ | ⟨hne, bx, df1, pt1, fed1, hN1, hD1, hP1, rfl, hle1, hx1⟩
          · exact absurd hnil (some_two m ⟨hm1, hm2⟩)
          have hbd1 := hN1.bd (by omega) hdf
          obtain rfl : pt1 = m := (only_two m pt1 hP1.1 hP1.2).1 hbd1.2
          have hb36 : Below w3.heap.size w3 w6 := hbr.trans (((Below.refl _ wr).alloc (Nat.le_refl _) _ |>.trans (hb6.mono (by simp))).mono hbr.size)
          have HBD := Lib.hid (And.intro hb36 (And.intro hx1 hbd1.1))
          clear hbr xd hdf hb6 hb36 hx1 hbd1 hN1 y9 y10
          go_wp2_with fail
          go_roundw
          case rel => exact ⟨k + 1, bx, df1, pt1, fed1, by omega, by go_num, rfl, HBD.out.1, HBD.out.2.1, HBD.out.2.2, hP1⟩
          case measure => simp [intOf]; omega
        · have hk100 : ¬ (k : Int) < 100 := by omega
          have hsz3 := hbr.size
          have HR := Lib.hid (And.intro hbr (And.intro xd hdf))
          have hm29 : (m : Int) < 29 := by omega
          have hmm29 : m < 29 := by omega
          clear hbr xd hdf
          go_wp2_with fail
          generalize hW0 : World.alloc _ _ = W0
          have hb0 : Below wr.heap.size wr W0 := by rw [← hW0]; exact (Below.refl _ _).alloc (Nat.le_refl _) _
          have ht0 : Blk W0 wr.heap.size 30 (iCells (upd (fun _ => 0) m 40000)) := by
            rw [← hW0]
            exact (Blk.new _ _ _).same ((List.setIfInBounds_toArray _ _ _).symm.trans (iCells_set (fun _ => 0) m 40000 hmm29))
          clear hW0
          generalize htwo : upd (fun _ => (0 : Int)) m 40000 = two at *
          have htw : within (two m) 40000 = 40000 := by rw [← htwo]; simp only [upd, within, if_true]; decide
          clear htwo
          have hb30 : Below w3.heap.size w3 W0 := HR.out.1.trans (hb0.mono HR.out.1.size)
          have xd0 := HR.out.2.1.below hb0 HR.out.2.1.lt
          have hbd0 := HR.out.2.2
          obtain ⟨gt, hgt⟩ : ∃ gt, gt = wr.heap.size := ⟨_, rfl⟩
          rw [← hgt] at ht0 ⊢
          have HT := Lib.hid (And.intro ht0 (And.intro hb30 htw))
          clear HR hgt hb0 ht0 hb30 hsz3 htw
          obtain ⟨wz, rfl⟩ : ∃ wz, wz = wr := ⟨wr, rfl⟩
          go_loopw [9, 18] (fun d i wr => ∃ (k bd : Nat) (df : Nat → Int) (pt : Nat) (fed : Bool), k ≤ 3 ∧ i = .int .i64 k ∧ d = .pointer (some ⟨bd, 0, none⟩) ∧ Below W0.heap.size W0 wr ∧
              Blk wr bd 52 (dCells 2000 df pt fed) ∧ Bd 2000 df ∧ (1 ≤ pt ∧ pt ≤ 28) ∧ (1 ≤ k → pt = m) ∧ (k = 1 → df m ≤ 16000) ∧ (2 ≤ k → Past m df m))
            (fun _ i _ => 3 - (intOf i).toNat)
          case atStart => exact ⟨0, bd, df, pt, fed, by omega, rfl, rfl, Below.refl _ _, xd0, hbd0, hpt, fun h => by omega, fun h => by omega, fun h => by omega⟩
          case round =>
            clear xd0 hbd0 hpt
            obtain ⟨k, bd, df, pt, fed, hk, rfl, rfl, hbr, xd, hdf, hpt, hi1, hi2, hi3⟩ := hrel
            by_cases hlt : k < 3
            · have yt := HT.out.1.below hbr HT.out.1.lt
              have hb3r : Below w3.heap.size w3 wr := HT.out.2.1.trans (hbr.mono HT.out.2.1.size)
              have y10 := HK10.out.below hb3r HK10.out.lt
              have HR := Lib.hid (And.intro hbr (And.intro xd (And.intro hdf (And.intro hi1 (And.intro hi2 hi3)))))
              have hk3 : (k : Int) < 3 := by omega
              clear hbr xd hdf hb3r hi1 hi2 hi3
              go_wp2_with (first
                | (refine wpList_load_row rfl 30 (.tmp 17) rfl _ rfl 30 (iCells two) (0, 0) _ (yt.alloc _) Try.underlying30 rfl (by rw [iCells_size]; kernel_rfl) ?_)
                | (refine wpList_load_row rfl 30 (.tmp 8) rfl _ rfl 30 (iCells fun i => tab (29 + i)) (0, 0) _ (y10.alloc _) Try.underlying30 rfl (by rw [iCells_size]; kernel_rfl) ?_))
              obtain ⟨hbr, xd, hdf, hi1, hi2, hi3⟩ := HR.out
              have hdo : Dok df := fun m => by have := hdf m; omega
              have hna := next_any bd _ 2000 df pt fed hpt (by omega) hdo (xd.alloc _) (some ⟨wr.heap.size, 0, none⟩) 1 1 [(m : Int)] rfl (by omega) ((rd_one wr 3 m).more (by simp)) two (fun i => tab (29 + i)) _ _ (of_fn _) (of_fn _)
              refine hna.mono ?_
              clear hna
              rintro e w6 ⟨hb6, hor⟩
              rcases hor with ⟨hnil, rfl⟩ | ⟨hne, bx, df1, pt1, fed1, hN1, hD1, hP1, rfl, hle1, hx1⟩
              · exact absurd hnil (some_one m ⟨hm1, hm2⟩)
              have hbd1 := hN1.bd (by omega) hdf
              obtain rfl : pt1 = m := (only_one m pt1 hP1.1 hP1.2).1 hbd1.2
              have hb36 : Below W0.heap.size W0 w6 := hbr.trans (((Below.refl _ wr).alloc (Nat.le_refl _) _ |>.trans (hb6.mono (by simp))).mono hbr.size)
              have hleft : df1 pt1 ≤ 40000 + 8 * 2000 - within (two pt1) 40000 := hN1.left (by omega) hdf
              rw [HT.out.2.2] at hleft
              have hpast : 1 ≤ k → Past pt1 df1 pt1 := by
                intro h1
                obtain rfl := hi1 h1
                by_cases h2 : k = 1
                · have hw8 := within_bd (tab (29 + pt)) 8 (by omega)
                  have := hi2 h2
                  exact hN1.round (only_one pt) ⟨hm1, hm2⟩ (by omega) (by rw [HT.out.2.2]; omega)
                · exact hN1.past (only_one pt) ⟨hm1, hm2⟩ ⟨hm1, hm2⟩ (hi3 (by omega))
              have HBD := Lib.hid (And.intro hb36 (And.intro hx1 (And.intro hbd1.1 (And.intro hleft hpast))))
              clear hbr xd hdf hb6 hb36 hx1 hbd1 hN1 yt y10 hi1 hi2 hi3 hleft hpast
              go_wp2_with fail
              go_roundw
              case rel => exact ⟨k + 1, bx, df1, pt1, fed1, by omega, by go_num, rfl, HBD.out.1, HBD.out.2.1, HBD.out.2.2.1, hP1, fun _ => rfl, fun _ => by have := HBD.out.2.2.2.1; omega, fun h => HBD.out.2.2.2.2 (by omega)⟩
              case measure => simp [intOf]; omega
            · have hk3 : ¬ (k : Int) < 3 := by omega
              obtain rfl := hi1 (by omega)
              have hall := fun j h1 h2 h3 => (hi3 (by omega)).all ⟨hm1, hm2⟩ j h1 h2 h3
              have HR := Lib.hid (And.intro hbr (And.intro xd hall))
              clear hbr xd hdf hall hi1 hi2 hi3
              go_wp2_with fail
              go_loop [21] (fun i => ∃ j : Nat, 1 ≤ j ∧ j ≤ 29 ∧ i = .int .i64 j) (fun i => 29 - (intOf i).toNat)
              case atStart => exact ⟨1, by omega, by omega, rfl⟩
              case round =>
                obtain ⟨j, hj1, hj2, rfl⟩ := hrel
                by_cases hj : j ≤ 28
                · have hj9 : (j : Int) < 29 := by omega
                  by_cases hjm : j = pt
                  · subst hjm
                    go_wp2_with fail
                    go_round
                    case rel => exact ⟨j + 1, by omega, by omega, by go_num⟩
                    case measure => simp [intOf]; omega
                  · have hne : ((j : Int) != (pt : Int)) = true := by simp; omega
                    have hdef : defOf df j = 0 := by
                      unfold defOf; rw [if_pos (by omega)]
                      exact HR.out.2.2 _ (by omega) (by omega) (by omega)
                    go_wp2_with fail
                    refine (Deficit_any bd _ _ _ _ _ _ HR.out.2.1).mono ?_
                    rintro e w' ⟨rfl, rfl⟩
                    rw [hdef]
                    go_wp2_with fail
                    go_round
                    case rel => exact ⟨j + 1, by omega, by omega, by go_num⟩
                    case measure => simp [intOf]; omega
                · obtain rfl : j = 29 := by omega
                  go_wp2_with fail
                  go_ret
                  exact ⟨rfl, HB.out.trans ((HT.out.2.1.trans (HR.out.1.mono HT.out.2.1.size)).mono hwc)⟩

theorem came_u8 {w : World} {v : Value} (h : Came Try.prog w 5 v) : ∃ n : Int, v = .int .u8 n ∧ 0 ≤ n ∧ n ≤ 255 := by
  obtain ⟨n, rfl, hwf⟩ := h.int Try.underlying5
  refine ⟨n, rfl, ?_⟩
  simp [Lit.wf, IntKind.min, IntKind.max, IntKind.signed, IntKind.bits] at hwf
  omega

theorem DrrAlone_walk (v0 v1 v2 : Value) (W : World) (c0 : Came Try.prog W 23 v0) (c1 : Came Try.prog W 41 v1) (c2 : Came Try.prog W 5 v2) :
    Calls Try.prog 6 #[v0, v1, v2] W fun e w' => e = .returned (.bool true) ∧ Below W.heap.size W w' := by
  obtain ⟨tab, rfl⟩ := came_tables c0
  obtain ⟨A, len, cap, xs, rfl, hm, hl, hR, hx⟩ := came_u32s c1
  obtain ⟨n, rfl, hn1, hn2⟩ := came_u8 c2
  exact DrrAlone_walk' tab A len cap xs W hm hl hR hx n ⟨hn1, hn2⟩

end Go.Proofs.Ytfbfjlogcphlfaa
