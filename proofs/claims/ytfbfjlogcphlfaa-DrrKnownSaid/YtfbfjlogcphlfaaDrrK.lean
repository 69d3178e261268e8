/- DrrBounds. -/
import Derived.Test.YtfbfjlogcphlfaaDrrJ
import Derived.Deep.Onto
set_option linter.unusedSimpArgs false
set_option linter.unusedVariables false
namespace Go.Proofs.Ytfbfjlogcphlfaa
open Go.RowKit

def bit (x : Int) (j : Nat) : Bool := Go.bits BinOp.and IntKind.u32 (x / 2 ^ j) 1 == 1
/-- The modes whose bits are set, below m. -/
def mbits (x : Int) (m : Nat) : List Int := (List.range m).filterMap fun j => if 1 ≤ j ∧ bit x j = true then some (j : Int) else none
theorem mbits_hit (x : Int) (m : Nat) (h1 : 1 ≤ m) (h : bit x m = true) : mbits x (m + 1) = mbits x m ++ [(m : Int)] := by simp [mbits, List.range_succ, List.filterMap_append, h1, h]
theorem mbits_miss (x : Int) (m : Nat) (h : bit x m = false) : mbits x (m + 1) = mbits x m := by simp [mbits, List.range_succ, List.filterMap_append, h]
theorem mbits_len (x : Int) (m : Nat) : (mbits x m).length ≤ m := by
  have := List.length_filterMap_le (fun j : Nat => if 1 ≤ j ∧ bit x j = true then some (j : Int) else none) (List.range m)
  simpa [mbits] using this
theorem mbits_any (x : Int) (j : Nat) (h : 1 ≤ j ∧ j ≤ 28) : (mbits x 29).any (· == (j : Int)) = bit x j := by
  cases hb : bit x j with
  | true =>
    rw [List.any_eq_true]
    refine ⟨(j : Int), ?_, by simp⟩
    rw [mbits, List.mem_filterMap]
    exact ⟨j, by simp; omega, by rw [if_pos ⟨h.1, hb⟩]⟩
  | false =>
    rw [List.any_eq_false]
    intro y hy
    rw [mbits, List.mem_filterMap] at hy
    obtain ⟨i, hi, he⟩ := hy
    split at he
    · rename_i hc
      cases he
      intro hij
      have : i = j := by have : (i : Int) = j := by simpa using hij
                         omega
      subst this
      rw [hb] at hc; simp at hc
    · cases he
theorem mbits_nil (x : Int) : mbits x 29 = [] ↔ modesOf (mbits x 29) = [] := by
  rw [modesOf_nil]
  constructor
  · intro h m _ _; rw [h]; rfl
  · intro h
    cases hl : mbits x 29 with
    | nil => rfl
    | cons y l =>
      have hy : y ∈ mbits x 29 := by rw [hl]; simp
      have hy' := hy
      rw [mbits, List.mem_filterMap] at hy
      obtain ⟨i, hi, he⟩ := hy
      split at he
      · rename_i hc
        cases he
        have := h i hc.1 (by simp at hi; omega)
        rw [List.any_eq_false] at this
        exact absurd (by simp) (this _ hy')
      · cases he
theorem bit_no (x : Int) (j : Nat) (h : bit x j = true) : (Go.bits BinOp.and IntKind.u32 (x / 2 ^ j) 1 == 0) = false := by
  unfold bit at h
  have : Go.bits BinOp.and IntKind.u32 (x / 2 ^ j) 1 = 1 := by simpa using h
  rw [this]; rfl

theorem rd_own {w : World} {base n : Nat} {e : TypeId} {v : Value} {xs : List Value} (h : w.ownsRow base e 1 v n xs) : ∃ A cap, v = .slice A n cap ∧ n ≤ cap ∧ Rd w w.heap.size A xs := by
  obtain ⟨hl, ⟨rfl, rfl⟩ | ⟨g, cap, cur, rfl, hb, hg, hn, hc, hs, ht⟩⟩ := h
  · exact ⟨none, 0, rfl, Nat.le_refl _, .inl (List.eq_nil_of_length_eq_zero (by simpa using hl))⟩
  · have hlt : g < w.heap.size := by
      rcases Nat.lt_or_ge g w.heap.size with hlt | hge
      · exact hlt
      · rw [Array.getElem?_eq_none hge] at hg; cases hg
    refine ⟨_, cap, rfl, hn, .inr ⟨g, 0, rfl, hlt, fun j u hj => ?_⟩⟩
    have h1 : Blk w g e cur := hg
    rw [Nat.zero_add, h1.cell, ← hj, ← ht, List.getElem?_take, Array.getElem?_toList]
    have : j < xs.length := (List.getElem?_eq_some_iff.1 hj).1
    rw [if_pos (by omega)]

theorem same_ddef (df : Nat → Int) (W : World) : (Op.equalIn 10000 22 (.agg (iCells (ddef df))) (.agg (iCells (ddef df)))).run Try.prog W = .ok true W := by
  have h := run_equalIn_ints (P := Try.prog) W 9998 22 3 29 .i64 Try.underlying22 Try.underlying3 (fun w => by kernel_rfl) ((List.range 29).map (ddef df)) ((List.range 29).map (ddef df)) (by simp) (by simp)
  rw [beq_self_eq_true] at h
  rw [show iCells (ddef df) = (((List.range 29).map (ddef df)).map (Value.int .i64)).toArray by simp [iCells]]
  exact h

theorem int_info : (Try.prog.info? 3).map (fun i => (i.zero, i.size, i.bytes)) = some (some (.int .i64 0), 1, 8) := by kernel_rfl

attribute [local irreducible] wpMix

set_option maxRecDepth 100000 in
set_option maxHeartbeats 4000000 in
theorem DrrBounds_walk' (tab : Nat → Int) (A : Option Addr) (len cap : Nat) (xs : List Int) (w : World) (hm : len ≤ 9223372036854775807)
    (hvl : xs.length = len) (hR : Rd w w.heap.size A (xs.map (Value.int .u32))) (hx32 : ∀ x ∈ xs, 0 ≤ x ∧ x < 4294967296) :
    Calls Try.prog 4 #[.agg (tCells tab), .slice A len cap] w fun e w' => e = .returned (.bool true) ∧ Below w.heap.size w w' := by
  have hta := tCells_at tab
  generalize hcs : tCells tab = cs at *
  clear hcs
  go_enter Try.func4, Try.ntmps4
  go_wp2_with fail
  refine (works_any _).mono ?_
  rintro e w2 ⟨rfl, hb2⟩
  have hg4 : Blk w2 w.heap.size 23 cs := (Blk.new w _ _).below hb2 (by simp)
  have hc : ∀ i, i < 58 → w2.cell? ⟨w.heap.size, i, none⟩ = some (.int .i64 (tab i)) := fun i hi => (hg4.cell i).trans (hta i hi)
  have hl : w.heap.size < w2.heap.size := hg4.lt
  have hw2 : Below w.heap.size w w2 := ((Below.refl _ w).alloc (Nat.le_refl _) _).trans (hb2.mono (by simp))
  have HH := Lib.hid hw2
  clear hw2 hb2 hg4
  go_upto_region 3 with fail
  go_cut [5, 6] (fun s9 s10 wx => ∃ b9 b10 : Nat, s9 = .pointer (some ⟨b9, 0, none⟩) ∧ s10 = .pointer (some ⟨b10, 0, none⟩) ∧ TwoTables tab w2 b9 b10 wx)
  case first =>
    have hr0 : ∀ X : Cls fun W => Below w2.heap.size w2 W, X.W.rangeAt w.heap.size 0 (iCells tab).toList := fun X j v hv => by
      have hj : j < 29 := by have := (List.getElem?_eq_some_iff.1 hv).1; rw [iC_len] at this; exact this
      rw [sub_cell X _ _ hl, hc _ (by omega), ← hv, Array.getElem?_toList, iCells_at _ _ hj, Nat.zero_add]
    have hr1 : ∀ X : Cls fun W => Below w2.heap.size w2 W, X.W.rangeAt w.heap.size 29 (iCells fun i => tab (29 + i)).toList := fun X j v hv => by
      have hj : j < 29 := by have := (List.getElem?_eq_some_iff.1 hv).1; rw [iC_len] at this; exact this
      rw [sub_cell X _ _ hl, hc _ (by omega), ← hv, Array.getElem?_toList, iCells_at _ _ hj]
    clear hc
    refine wp_region_lin (by kernel_rfl) (wpLin_split 4 5 (by decide) ?_ ?_)
    · refine wpLin_ord1 4 5 [0, 1, 2, 3, 4, 5, 6, 7] [4, 5, 6, 7] (fun W => Below w2.heap.size w2 W) (by kernel_rfl) ((Below.refl _ _).drew) (fun _ => ?_)
      (refine mixO_read (by rfl) (by rfl) (by rfl) (by rfl) (by rfl) (by simp) ?_; apply Exists.intro; apply Exists.intro; refine ⟨fun w' hw' K hK => ?_, ?_, ?_⟩; (obtain ⟨X, rfl⟩ := hw'; go_wp2_with fail; first | exact ⟨rfl, rfl⟩ | exact rfl); rfl)
      (refine mixO_read (by rfl) (by rfl) (by rfl) (by rfl) (by rfl) (by simp) ?_; apply Exists.intro; apply Exists.intro; refine ⟨fun w' hw' K hK => ?_, ?_, ?_⟩; (obtain ⟨X, rfl⟩ := hw'; refine wp_load_mid 22 (.tmp 17) rfl w.heap.size 0 rfl (iCells tab).toList _ (hr0 X) Try.underlying22 rfl (by rw [iC_len]; kernel_rfl) ?_; (simp [Act.put]); exact hK _ _ ⟨rfl, rfl⟩); rfl)
      (refine mixO_read (by rfl) (by rfl) (by rfl) (by rfl) (by rfl) (by simp) ?_; apply Exists.intro; apply Exists.intro; refine ⟨fun w' hw' K hK => ?_, ?_, ?_⟩; (obtain ⟨X, rfl⟩ := hw'; go_wp2_with fail; first | exact ⟨rfl, rfl⟩ | exact rfl); rfl)
      (refine mixO_read (by rfl) (by rfl) (by rfl) (by rfl) (by rfl) (by simp) ?_; apply Exists.intro; apply Exists.intro; refine ⟨fun w' hw' K hK => ?_, ?_, ?_⟩; (obtain ⟨X, rfl⟩ := hw'; refine wp_load_mid 22 (.tmp 19) rfl w.heap.size 29 rfl (iCells fun i => tab (29 + i)).toList _ (hr1 X) Try.underlying22 rfl (by rw [iC_len]; kernel_rfl) ?_; (simp [Act.put]); exact hK _ _ ⟨rfl, rfl⟩); rfl)
      (refine mixO_act (by rfl) (by rfl) (by rfl) (fun K hK => ?_))
      go_wp2_with fail
      refine ⟨.mk ((Below.refl _ _).alloc (Nat.le_refl _) _).drew, ?_⟩
      (refine mixO_act (by rfl) (by rfl) (by rfl) (fun K hK => ?_))
      go_wp2_with fail
      refine ⟨.mk (((Below.refl _ _).alloc (Nat.le_refl _) _).alloc (by simp) _).drew, ?_⟩
      generalize hW3 : World.drew _ = W3
      have b3 : Below w2.heap.size w2 W3 := by rw [← hW3]; exact (((Below.refl _ _).alloc (Nat.le_refl _) _).alloc (by simp) _).drew
      have z9 : Blk W3 w2.heap.size 30 (iCells fun _ => 0) := by rw [← hW3]; exact (Blk.new _ _ _).alloc _
      have z10 : Blk W3 (w2.heap.size + 1) 30 (iCells fun _ => 0) := by rw [← hW3]; exact (Blk.new (w2.alloc _) _ _).same_g (by simp)
      clear hW3
      (refine mixO_act (by rfl) (by rfl) (by rfl) (fun K hK => ?_))
      refine wp_store_row 30 (.tmp 5) (.tmp 18) rfl _ (iCells tab).toList.toArray rfl rfl 30 _ z9 (by rw [iC_arr, iCells_size]; kernel_rfl) (by rw [iC_arr, iCells_size, iCells_size]) (by rw [iC_arr]; exact iCells_one _) ?_
      (simp [Act.put])
      refine hK _ _ ⟨.mk (Below_setRow b3 ?_ _), ?_⟩
      · omega
      have y9 := z9.setRow (iCells tab).toList.toArray
      have y10 := z10.setRow_far (g' := w2.heap.size) (by omega) (iCells tab).toList.toArray
      have b4 := Below_setRow b3 (g := w2.heap.size) (by omega) (iCells tab).toList.toArray
      clear z9 z10 b3
      refine mixO_last (by rfl) (by rfl) (by rfl) (by kernel_rfl) (fun K hK => ?_)
      refine wp_store_row 30 (.tmp 6) (.tmp 20) rfl _ (iCells fun i => tab (29 + i)).toList.toArray rfl rfl 30 _ y10 (by rw [iC_arr, iCells_size]; kernel_rfl) (by rw [iC_arr, iCells_size, iCells_size]) (by rw [iC_arr]; exact iCells_one _) ?_
      (simp [Act.put])
      refine hK _ _ ?_
      have x10 := y10.setRow (iCells fun i => tab (29 + i)).toList.toArray
      have x9 := y9.setRow_far (g' := (w2.heap.size + 1)) (by omega) (iCells fun i => tab (29 + i)).toList.toArray
      have b5 := Below_setRow b4 (g := (w2.heap.size + 1)) (by omega) (iCells fun i => tab (29 + i)).toList.toArray
      go_wp2_with fail
      go_meet
      exact ⟨w2.heap.size, (w2.heap.size + 1), rfl, rfl, by omega, by omega, b5, x9, x10⟩
    · refine wpLin_ord1 5 4 [0, 1, 2, 3, 5, 4, 6, 7] [4, 5, 6, 7] (fun W => Below w2.heap.size w2 W) (by kernel_rfl) ((Below.refl _ _).drew) (fun _ => ?_)
      (refine mixO_read (by rfl) (by rfl) (by rfl) (by rfl) (by rfl) (by simp) ?_; apply Exists.intro; apply Exists.intro; refine ⟨fun w' hw' K hK => ?_, ?_, ?_⟩; (obtain ⟨X, rfl⟩ := hw'; go_wp2_with fail; first | exact ⟨rfl, rfl⟩ | exact rfl); rfl)
      (refine mixO_read (by rfl) (by rfl) (by rfl) (by rfl) (by rfl) (by simp) ?_; apply Exists.intro; apply Exists.intro; refine ⟨fun w' hw' K hK => ?_, ?_, ?_⟩; (obtain ⟨X, rfl⟩ := hw'; refine wp_load_mid 22 (.tmp 17) rfl w.heap.size 0 rfl (iCells tab).toList _ (hr0 X) Try.underlying22 rfl (by rw [iC_len]; kernel_rfl) ?_; (simp [Act.put]); exact hK _ _ ⟨rfl, rfl⟩); rfl)
      (refine mixO_read (by rfl) (by rfl) (by rfl) (by rfl) (by rfl) (by simp) ?_; apply Exists.intro; apply Exists.intro; refine ⟨fun w' hw' K hK => ?_, ?_, ?_⟩; (obtain ⟨X, rfl⟩ := hw'; go_wp2_with fail; first | exact ⟨rfl, rfl⟩ | exact rfl); rfl)
      (refine mixO_read (by rfl) (by rfl) (by rfl) (by rfl) (by rfl) (by simp) ?_; apply Exists.intro; apply Exists.intro; refine ⟨fun w' hw' K hK => ?_, ?_, ?_⟩; (obtain ⟨X, rfl⟩ := hw'; refine wp_load_mid 22 (.tmp 19) rfl w.heap.size 29 rfl (iCells fun i => tab (29 + i)).toList _ (hr1 X) Try.underlying22 rfl (by rw [iC_len]; kernel_rfl) ?_; (simp [Act.put]); exact hK _ _ ⟨rfl, rfl⟩); rfl)
      (refine mixO_act (by rfl) (by rfl) (by rfl) (fun K hK => ?_))
      go_wp2_with fail
      refine ⟨.mk ((Below.refl _ _).alloc (Nat.le_refl _) _).drew, ?_⟩
      (refine mixO_act (by rfl) (by rfl) (by rfl) (fun K hK => ?_))
      go_wp2_with fail
      refine ⟨.mk (((Below.refl _ _).alloc (Nat.le_refl _) _).alloc (by simp) _).drew, ?_⟩
      generalize hW3 : World.drew _ = W3
      have b3 : Below w2.heap.size w2 W3 := by rw [← hW3]; exact (((Below.refl _ _).alloc (Nat.le_refl _) _).alloc (by simp) _).drew
      have z10 : Blk W3 w2.heap.size 30 (iCells fun _ => 0) := by rw [← hW3]; exact (Blk.new _ _ _).alloc _
      have z9 : Blk W3 (w2.heap.size + 1) 30 (iCells fun _ => 0) := by rw [← hW3]; exact (Blk.new (w2.alloc _) _ _).same_g (by simp)
      clear hW3
      (refine mixO_act (by rfl) (by rfl) (by rfl) (fun K hK => ?_))
      refine wp_store_row 30 (.tmp 5) (.tmp 18) rfl _ (iCells tab).toList.toArray rfl rfl 30 _ z9 (by rw [iC_arr, iCells_size]; kernel_rfl) (by rw [iC_arr, iCells_size, iCells_size]) (by rw [iC_arr]; exact iCells_one _) ?_
      (simp [Act.put])
      refine hK _ _ ⟨.mk (Below_setRow b3 ?_ _), ?_⟩
      · omega
      have y9 := z9.setRow (iCells tab).toList.toArray
      have y10 := z10.setRow_far (g' := (w2.heap.size + 1)) (by omega) (iCells tab).toList.toArray
      have b4 := Below_setRow b3 (g := (w2.heap.size + 1)) (by omega) (iCells tab).toList.toArray
      clear z9 z10 b3
      refine mixO_last (by rfl) (by rfl) (by rfl) (by kernel_rfl) (fun K hK => ?_)
      refine wp_store_row 30 (.tmp 6) (.tmp 20) rfl _ (iCells fun i => tab (29 + i)).toList.toArray rfl rfl 30 _ y10 (by rw [iC_arr, iCells_size]; kernel_rfl) (by rw [iC_arr, iCells_size, iCells_size]) (by rw [iC_arr]; exact iCells_one _) ?_
      (simp [Act.put])
      refine hK _ _ ?_
      have x10 := y10.setRow (iCells fun i => tab (29 + i)).toList.toArray
      have x9 := y9.setRow_far (g' := w2.heap.size) (by omega) (iCells fun i => tab (29 + i)).toList.toArray
      have b5 := Below_setRow b4 (g := w2.heap.size) (by omega) (iCells fun i => tab (29 + i)).toList.toArray
      go_wp2_with fail
      go_meet
      exact ⟨(w2.heap.size + 1), w2.heap.size, rfl, rfl, by omega, by omega, b5, x9, x10⟩
  case rest =>
    obtain ⟨b9, b10, rfl, rfl, hn9, hn10, hb3, k9, k10⟩ := hcut
    have hbw : Below w.heap.size w wc := HH.out.trans (hb3.mono HH.out.size)
    have HK := Lib.hid (And.intro hbw (And.intro k9 k10))
    clear hb3 k9 k10 hc
    go_wp2_with fail
    refine (New_yes _ _ (by omega)).mono ?_
    rintro e w3 ⟨rfl, hb4, hx1⟩
    have hbw3 : Below w.heap.size w w3 := hbw.trans (hb4.mono hbw.size)
    have k9 := HK.out.2.1.below hb4 HK.out.2.1.lt
    have k10 := HK.out.2.2.below hb4 HK.out.2.2.lt
    have hRc := hR.below hbw3
    have hwc : w.heap.size ≤ w3.heap.size := hbw3.size
    have HB := Lib.hid hbw3
    have HK9 := Lib.hid k9
    have HK10 := Lib.hid k10
    have HX := Lib.hid hx32
    have HV := Lib.hid hvl
    clear hbw hb4 k9 k10 hbw3 HK hR HH hx32 hvl
    go_wp2_with fail
    go_loopw [7, 8] (fun d i wr => ∃ (k bd : Nat) (df : Nat → Int) (pt : Nat) (fed : Bool), k ≤ len ∧ k ≤ 100 ∧ i = .int .i64 k ∧ d = .pointer (some ⟨bd, 0, none⟩) ∧ Below w3.heap.size w3 wr ∧
        Blk wr bd 52 (dCells 1500 df pt fed) ∧ Bd 1500 df ∧ (1 ≤ pt ∧ pt ≤ 28))
      (fun _ i _ => len - (intOf i).toNat)
    case atStart => exact ⟨0, _, _, _, _, Nat.zero_le _, by omega, rfl, rfl, Below.refl _ _, hx1, fun m => by simp, by omega⟩
    case round =>
      obtain ⟨k, bd, df, pt, fed, hk1, hk2, rfl, rfl, hbr, xd, hdf, hpt⟩ := hrel
      by_cases hlt : k < len
      · by_cases hlt2 : k < 100
        · obtain ⟨x, hx⟩ : ∃ x, xs[k]? = some x := ⟨_, List.getElem?_eq_getElem (by rw [HV.out]; exact hlt)⟩
          have hR' := hRc.below (hbr.mono hwc)
          rcases hR' with hnil | ⟨bA, oA, rfl, hbA, hcell⟩
          · have h0 := congrArg List.length hnil; simp [HV.out] at h0; omega
          have c0 := hcell k _ (by rw [List.getElem?_map, hx]; rfl)
          have h100 : decide ((k : Int) < 100) = true := by simp; omega
          have hlA : bA < wr.heap.size := Nat.lt_of_lt_of_le hbA (Nat.le_trans hwc hbr.size)
          have hki : (k : Int) < len := by omega
          have hxr := HX.out x (List.mem_of_getElem? hx)
          have HR := Lib.hid (And.intro hbr (And.intro xd hdf))
          have HXX := Lib.hid (And.intro hxr hx)
          clear hbr xd hdf hcell hx hxr hx1
          go_wp2_with fail
          obtain ⟨wo, rfl⟩ : ∃ wo, wo = wr := ⟨wr, rfl⟩
          go_loopw [9, 10] (fun v i wr => ∃ m : Nat, 1 ≤ m ∧ m ≤ 29 ∧ i = .int .i64 m ∧ wr.ownsRow wo.heap.size 3 1 v (mbits x m).length ((mbits x m).map (Value.int .i64)) ∧ Below wo.heap.size wo wr) (fun _ i _ => 29 - (intOf i).toNat)
          case atStart => exact ⟨1, by omega, by omega, rfl, World.ownsRow_nil _ _ _ _, Below.refl _ _⟩
          case round =>
            obtain ⟨m, hm1, hm2, rfl, hown, hbi⟩ := hrel
            by_cases hm28 : m ≤ 28
            · have c0' := (hbi.cell (p := ⟨bA, oA + k, none⟩) hlA).trans c0
              have hlA' : bA < wr.heap.size := Nat.lt_of_lt_of_le hlA hbi.size
              have h29 : (m : Int) < 29 := by omega
              cases hb : bit x m with
              | true =>
                have hbt : (Go.bits BinOp.and IntKind.u32 (x / 2 ^ m) 1 == 1) = true := hb
                have HO := Lib.hid (And.intro hown hbi)
                have hml := mbits_len x m
                have hsz := hbi.size
                obtain ⟨i0, hi, hz0, hz1, hz2⟩ := info_parts int_info
                clear hbi
                go_wp2_with (first
                  | (at_builtin; refine wpList_append_own _ rfl (.tmp 46) (.tmp 48) 31 rfl wo.heap.size 3 i0 (.int .i64 0) 1 8 Try.underlying31 hi hz0 hz1 hz2 rfl (by decide) _ _ _ rfl (hown.alloc _) ⟨wr.heap.size, 0, none⟩ 1 1 [.int .i64 m] rfl rfl (fun j u hj => by match j, hj with | 0, hj => (simp at hj; subst hj; simp [Addr.add])) (fun u hu => by simp at hu; subst hu; rfl) (by unfold maxLen; omega) (by omega) (by simp; omega) ?_; intro v' w1 hown1 hgrow _))
                go_roundw
                case rel =>
                  refine ⟨m + 1, by omega, by omega, by go_num, ?_, ?_⟩
                  · rw [mbits_hit x m hm1 hb, List.length_append, List.map_append]; exact hown1
                  · exact (HO.out.2.alloc hsz _).grown hgrow (by simp; omega) (fun k hk => (HO.out.1.lt k hk).1)
                case measure => simp [intOf]; omega
              | false =>
                have hbt : (Go.bits BinOp.and IntKind.u32 (x / 2 ^ m) 1 == 1) = false := hb
                have HO := Lib.hid (And.intro hown hbi)
                clear hbi hown
                go_wp2_with fail
                go_roundw
                case rel => exact ⟨m + 1, by omega, by omega, by go_num, by rw [mbits_miss x m hb]; exact HO.out.1, HO.out.2⟩
                case measure => simp [intOf]; omega
            · obtain rfl : m = 29 := by omega
              have hml := mbits_len x 29
              obtain ⟨A', c', rfl, hnc', hRw⟩ := rd_own hown
              have HO := Lib.hid (And.intro hbi hRw)
              obtain ⟨hbr, xd, hdf⟩ := HR.out
              have xd1 := xd.below hbi xd.lt
              clear hbi hRw hown hbr xd hdf
              go_wp2_with fail
              refine (deficits_any bd _ 1500 df pt fed xd1).mono ?_
              rintro e w4 ⟨rfl, hb4⟩
              have hb34 : Below w3.heap.size w3 w4 := HR.out.1.trans ((HO.out.1.trans (hb4.mono HO.out.1.size)).mono HR.out.1.size)
              have y9 := HK9.out.below hb34 HK9.out.lt
              have y10 := HK10.out.below hb34 HK10.out.lt
              have hn9' : b9 ≠ w4.heap.size := by have := y9.lt; omega
              have hn10' : b10 ≠ w4.heap.size := by have := y10.lt; omega
              have HD4 := Lib.hid (And.intro xd1 (And.intro hb4 hb34))
              clear xd1 hb4 hb34
              go_wp2_with (first
                | (refine wpList_store_row rfl 22 (.tmp 11) (.tmp 51) rfl _ (iCells (ddef df)) rfl rfl 22 _ (Blk.new _ _ _) (by rw [iCells_size]; kernel_rfl) (by rw [iCells_size]; rfl) (iCells_one _) ?_)
                | (refine wpList_load_row rfl 30 (.tmp 5) rfl _ rfl 30 (iCells tab) (0, 0) _ ((y9.alloc _).setRow_far hn9' _) Try.underlying30 rfl (by rw [iCells_size]; kernel_rfl) ?_)
                | (refine wpList_load_row rfl 30 (.tmp 6) rfl _ rfl 30 (iCells fun i => tab (29 + i)) (0, 0) _ ((y10.alloc _).setRow_far hn10' _) Try.underlying30 rfl (by rw [iCells_size]; kernel_rfl) ?_))
              generalize hW5 : World.setRow _ _ _ = W5
              have hB5 : Below w4.heap.size w4 W5 := by rw [← hW5]; exact Below_setRow ((Below.refl _ _).alloc (Nat.le_refl _) _) (Nat.le_refl _) _
              have hk5 : Blk W5 w4.heap.size 22 (iCells (ddef df)) := by rw [← hW5]; exact (Blk.new _ _ _).setRow _
              clear hW5 y9 y10 hn9' hn10'
              obtain ⟨xd1, hb4, hb34⟩ := HD4.out
              have xd5 := (xd1.below hb4 xd1.lt).below hB5 (xd1.below hb4 xd1.lt).lt
              have hR5 : Rd W5 W5.heap.size A' ((mbits x 29).map (Value.int .i64)) := ((HO.out.2.below hb4).below (hB5.mono hb4.size)).more (Nat.le_trans hb4.size hB5.size)
              have hdo : Dok df := fun m => by have := HR.out.2.2 m; omega
              have hna := next_any bd W5 1500 df pt fed hpt (by omega) hdo xd5 A' (mbits x 29).length c' (mbits x 29) rfl (by omega) hR5 tab (fun i => tab (29 + i)) _ _ (of_fn _) (of_fn _)
              refine hna.mono ?_
              clear hna
              rintro e w6 ⟨hb6, hor⟩
              have xd6 := xd5.below hb6 xd5.lt
              have hk6 := hk5.below hb6 hk5.lt
              have hb36 : Below w3.heap.size w3 w6 := hb34.trans ((hB5.trans (hb6.mono hB5.size)).mono hb34.size)
              have hbo6 : Below wo.heap.size wo w6 := HO.out.1.trans ((hb4.trans ((hB5.trans (hb6.mono hB5.size)).mono hb4.size)).mono HO.out.1.size)
              have c6 := (hbo6.cell (p := ⟨bA, oA + k, none⟩) hlA).trans c0
              have hlA6 : bA < w6.heap.size := Nat.lt_of_lt_of_le hlA hbo6.size
              have hq : ∀ X : Cls fun W => Below w6.heap.size w6 W, Blk X.W w4.heap.size 22 (iCells (ddef df)) := fun X => (sub_heap X _ hk6.lt).trans hk6
              have heq := same_ddef df
              generalize hnl : (mbits x 29).length = nl
              have HE := Lib.hid (And.intro xd6 (And.intro hb36 hbo6))
              have HNL := Lib.hid hnl
              clear xd1 hb4 hb34 xd5 hR5 hdo hb6 xd6 hk6 hk5 hb36 hbo6 hB5 c0 hlA HD4 hnl
              rcases hor with ⟨hnil, rfl⟩ | ⟨hne, bx, df1, pt1, fed1, hN1, hD1, hP1, rfl, hle1, hx1⟩
              · have hnl0 : nl = 0 := by rw [← HNL.out, (mbits_nil x).2 hnil]; rfl
                subst hnl0
                have HNIL := Lib.hid hnil
                clear hnil
                go_wp2_with fail
                refine wp_region_sub [4] (fun W => Below w6.heap.size w6 W) (by kernel_rfl) (by kernel_rfl) ((Below.refl _ _).drew) (fun _ => ?_)
                iterate 4 (refine mix_read (by kernel_rfl) (by rfl) (by rfl) (by rfl) (of_decide_eq_true (by kernel_rfl)) ?_; apply Exists.intro; apply Exists.intro; refine ⟨fun w' hw' K hK => ?_, ?_, ?_⟩; (obtain ⟨X, rfl⟩ := hw'; go_wp2_with fail; first | exact ⟨rfl, rfl⟩ | exact rfl); rfl)
                (refine mix_act (by rfl) (by rfl) (fun K hK => ?_))
                go_wp2_with fail
                refine (deficits_any bd _ 1500 df pt fed HE.out.1.drew).mono ?_
                rintro e w7 ⟨rfl, hb7⟩
                have hb67 : Below w6.heap.size w6 w7 := Below.drewl hb7
                have HB7 := Lib.hid hb67
                clear hb7 hb67
                go_wp2_with fail
                refine ⟨.mk HB7.out, ?_⟩
                (refine mix_read (by kernel_rfl) (by rfl) (by rfl) (by rfl) (of_decide_eq_true (by kernel_rfl)) ?_; apply Exists.intro; apply Exists.intro; refine ⟨fun w' hw' K hK => ?_, ?_, ?_⟩; (obtain ⟨X, rfl⟩ := hw'; refine wp_load_row 22 (.tmp 11) rfl w4.heap.size rfl 22 (iCells (ddef df)) (0, 0) _ (hq X) Try.underlying22 rfl (by rw [iCells_size]; kernel_rfl) ?_; (simp [Act.put]); exact hK _ _ ⟨rfl, rfl⟩); rfl)
                iterate 22 (refine mix_read (by kernel_rfl) (by rfl) (by rfl) (by rfl) (of_decide_eq_true (by kernel_rfl)) ?_; apply Exists.intro; apply Exists.intro; refine ⟨fun w' hw' K hK => ?_, ?_, ?_⟩; (obtain ⟨X, rfl⟩ := hw'; go_wp2_with fail; first | exact ⟨rfl, rfl⟩ | exact rfl); rfl)
                iterate 8 (refine mix_skip (by kernel_rfl) ?_; simp only [Act.put, List.setIfInBounds_toArray, List.set_cons_succ, List.set_cons_zero])
                iterate 2 (refine mix_read (by kernel_rfl) (by rfl) (by rfl) (by rfl) (of_decide_eq_true (by kernel_rfl)) ?_; apply Exists.intro; apply Exists.intro; refine ⟨fun w' hw' K hK => ?_, ?_, ?_⟩; (obtain ⟨X, rfl⟩ := hw'; go_wp2_with fail; first | exact ⟨rfl, rfl⟩ | exact rfl); rfl)
                refine mix_nil ?_
                go_wp2_with fail
                have HBX := Lib.hid (HE.out.1.below HB7.out HE.out.1.lt)
                go_loop [14] (fun i => ∃ j : Nat, 1 ≤ j ∧ j ≤ 29 ∧ i = .int .i64 j) (fun i => 29 - (intOf i).toNat)
                case atStart => exact ⟨1, by omega, by omega, rfl⟩
                case round =>
                  obtain ⟨j, hj1, hj2, rfl⟩ := hrel
                  by_cases hj : j ≤ 28
                  · have hdef : defOf df j = df j := by unfold defOf; rw [if_pos (by omega)]; simp
                    have hbdj := (HR.out.2.2) j
                    have hng : decide (df j < 0) = false := by simp; omega
                    have hng2 : ¬ df j < 0 := by omega
                    have hng3 : ¬ 52000 < df j := by omega
                    have hj9 : (j : Int) < 29 := by omega
                    go_wp2_with fail
                    refine (Deficit_any bd _ _ _ _ _ _ HBX.out).mono ?_
                    rintro e w' ⟨rfl, rfl⟩
                    rw [hdef]
                    go_wp2_with fail
                    refine (Deficit_any bd _ _ _ _ _ _ HBX.out).mono ?_
                    rintro e w' ⟨rfl, rfl⟩
                    rw [hdef]
                    go_wp2_with fail
                    go_round
                    case rel => exact ⟨j + 1, by omega, by omega, by go_num⟩
                    case measure => simp [intOf]; omega
                  · obtain rfl : j = 29 := by omega
                    go_wp2_with fail
                    go_roundw
                    case rel => exact ⟨k + 1, bd, df, pt, fed, by omega, by omega, by go_num, rfl, HE.out.2.1.trans (HB7.out.mono HE.out.2.1.size), HBX.out, HR.out.2.2, hpt⟩
                    case measure => simp [intOf]; omega
              · have hne0 : nl ≠ 0 := fun h => hne ((mbits_nil x).1 (List.eq_nil_of_length_eq_zero (HNL.out.trans h)))
                have hbd1 := hN1.bd (by omega) HR.out.2.2
                have hwt : wants (mbits x 29) pt1 = true := hbd1.2
                have hbit : bit x pt1 = true := by
                  rw [← mbits_any x pt1 hP1]
                  exact (modesOf_any (mbits x 29) pt1 hP1).symm.trans hwt
                have hno := bit_no x pt1 hbit
                obtain ⟨hp1, hp2⟩ := hP1
                have hn0 : ((pt1 : Int) == 0) = false := by simp; omega
                have hl0 : ((nl : Int) == 0) = false := by simp; omega
                have hlt0 : decide ((pt1 : Int) < 0) = false := by simp
                have hgt0 : decide ((28 : Int) < pt1) = false := by simp; omega
                have hpos : decide (0 < pt1) = true := by simp; omega
                have HBD := Lib.hid (And.intro hbd1.1 hx1)
                clear hN1 hbd1 hwt hbit hne hx1
                go_wp2_with fail
                refine wp_region_sub [4] (fun W => Below w6.heap.size w6 W) (by kernel_rfl) (by kernel_rfl) ((Below.refl _ _).drew) (fun _ => ?_)
                iterate 4 (refine mix_read (by kernel_rfl) (by rfl) (by rfl) (by rfl) (of_decide_eq_true (by kernel_rfl)) ?_; apply Exists.intro; apply Exists.intro; refine ⟨fun w' hw' K hK => ?_, ?_, ?_⟩; (obtain ⟨X, rfl⟩ := hw'; go_wp2_with fail; first | exact ⟨rfl, rfl⟩ | exact rfl); rfl)
                (refine mix_act (by rfl) (by rfl) (fun K hK => ?_))
                go_wp2_with fail
                refine (deficits_any bd _ 1500 df pt fed HE.out.1.drew).mono ?_
                rintro e w7 ⟨rfl, hb7⟩
                have hb67 : Below w6.heap.size w6 w7 := Below.drewl hb7
                have HB7 := Lib.hid hb67
                clear hb7 hb67
                go_wp2_with fail
                refine ⟨.mk HB7.out, ?_⟩
                (refine mix_read (by kernel_rfl) (by rfl) (by rfl) (by rfl) (of_decide_eq_true (by kernel_rfl)) ?_; apply Exists.intro; apply Exists.intro; refine ⟨fun w' hw' K hK => ?_, ?_, ?_⟩; (obtain ⟨X, rfl⟩ := hw'; refine wp_load_row 22 (.tmp 11) rfl w4.heap.size rfl 22 (iCells (ddef df)) (0, 0) _ (hq X) Try.underlying22 rfl (by rw [iCells_size]; kernel_rfl) ?_; (simp [Act.put]); exact hK _ _ ⟨rfl, rfl⟩); rfl)
                iterate 32 (refine mix_read (by kernel_rfl) (by rfl) (by rfl) (by rfl) (of_decide_eq_true (by kernel_rfl)) ?_; apply Exists.intro; apply Exists.intro; refine ⟨fun w' hw' K hK => ?_, ?_, ?_⟩; (obtain ⟨X, rfl⟩ := hw'; go_wp2_with fail; first | exact ⟨rfl, rfl⟩ | exact rfl); rfl)
                refine mix_nil ?_
                go_wp2_with fail
                have HBX := Lib.hid (HBD.out.2.below HB7.out HBD.out.2.lt)
                go_loop [14] (fun i => ∃ j : Nat, 1 ≤ j ∧ j ≤ 29 ∧ i = .int .i64 j) (fun i => 29 - (intOf i).toNat)
                case atStart => exact ⟨1, by omega, by omega, rfl⟩
                case round =>
                  obtain ⟨j, hj1, hj2, rfl⟩ := hrel
                  by_cases hj : j ≤ 28
                  · have hdef : defOf df1 j = df1 j := by unfold defOf; rw [if_pos (by omega)]; simp
                    have hbdj := (HBD.out.1) j
                    have hng : decide (df1 j < 0) = false := by simp; omega
                    have hng2 : ¬ df1 j < 0 := by omega
                    have hng3 : ¬ 52000 < df1 j := by omega
                    have hj9 : (j : Int) < 29 := by omega
                    go_wp2_with fail
                    refine (Deficit_any bx _ _ _ _ _ _ HBX.out).mono ?_
                    rintro e w' ⟨rfl, rfl⟩
                    rw [hdef]
                    go_wp2_with fail
                    refine (Deficit_any bx _ _ _ _ _ _ HBX.out).mono ?_
                    rintro e w' ⟨rfl, rfl⟩
                    rw [hdef]
                    go_wp2_with fail
                    go_round
                    case rel => exact ⟨j + 1, by omega, by omega, by go_num⟩
                    case measure => simp [intOf]; omega
                  · obtain rfl : j = 29 := by omega
                    go_wp2_with fail
                    go_roundw
                    case rel => exact ⟨k + 1, bx, df1, pt1, fed1, by omega, by omega, by go_num, rfl, HE.out.2.1.trans (HB7.out.mono HE.out.2.1.size), HBX.out, HBD.out.1, ⟨hp1, hp2⟩⟩
                    case measure => simp [intOf]; omega
        · obtain rfl : k = 100 := by omega
          have HBR := Lib.hid hbr
          clear hbr xd hdf
          go_wp2_with fail
          go_ret
          exact ⟨rfl, HB.out.trans (HBR.out.mono hwc)⟩
      · obtain rfl : k = len := by omega
        have HBR := Lib.hid hbr
        clear hbr xd hdf
        go_wp2_with fail
        go_ret
        exact ⟨rfl, HB.out.trans (HBR.out.mono hwc)⟩

end Go.Proofs.Ytfbfjlogcphlfaa
