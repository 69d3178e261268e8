/- All modes, the sturdiest first: walked; the sort by its contract. -/
import Derived.Test.YtmiobfnjegdhdaaModC
import Derived.Test.YtmiobfnjegdhdaaSortL
import Derived.Lib.OwnBridge
import Derived.Shelf.SlSortCmp.NoneTotal
import Derived.Deep.QuietTactic
import Derived.BigQuiet
set_option linter.unusedSimpArgs false
set_option linter.unusedVariables false
namespace Go.Proofs.Ytmiobfnjegdhdaa
open Go.RowKit Go.Shelf Go.Lib Go.Sort

abbrev Md := Fin 29
def encMd (m : Md) : Value := .int .i64 ((m.val : Nat) : Int)
def needMd (m : Md) : Int := mAt m.val 3
def cfMd (x y : Md) : Int := Lib.compareInt (needMd x) (needMd y)
theorem ltMd (x y : Md) : ltOf cfMd x y = decide (needMd x < needMd y) := by
  unfold ltOf cfMd Lib.compareInt
  by_cases h1 : needMd x < needMd y
  · simp [h1]
  · by_cases h2 : needMd y < needMd x <;> simp [h1, h2]
theorem swoMd : SWO (ltOf cfMd) where
  irrefl x := by rw [ltMd]; simp
  trans x y z h1 h2 := by rw [ltMd] at *; simp at *; omega
  ntrans x y z h1 h2 := by rw [ltMd] at *; simp at *; omega
theorem need_inj : ∀ x y : Md, needMd x = needMd y → x = y := by decide +kernel
theorem totMd (x y : Md) (h1 : ltOf cfMd x y = false) (h2 : ltOf cfMd y x = false) : x = y := by
  rw [ltMd] at *
  simp at *
  exact need_inj x y (by omega)

theorem isNaN_any (x : Int) (w : World) : Calls Try.prog 38 #[.int .i64 x] w fun e w' => e = .returned (.bool false) ∧ w = w' := by
  go_enter Try.func38, Try.ntmps38
  go_wp2
  go_ret
  exact ⟨rfl, rfl⟩
theorem Compare_any (x y : Int) (w : World) : Calls Try.prog 35 #[.int .i64 x, .int .i64 y] w fun e w' => e = .returned (.int .i64 (Lib.compareInt x y)) ∧ w' = w := by
  go_enter Try.func35, Try.ntmps35
  go_wp2_with fail
  refine (isNaN_any _ _).mono ?_
  rintro e w' ⟨rfl, rfl⟩
  go_wp2_with fail
  refine (isNaN_any _ _).mono ?_
  rintro e w' ⟨rfl, rfl⟩
  go_wp2_with fail
  all_goals
    go_ret
    refine ⟨ret_int ?_, rfl⟩
    unfold Lib.compareInt
    repeat' split
    all_goals omega

/-- The closure: whatever the world, as long as the rows lie there. -/
theorem All1_any (g : Nat) (x y : Md) (W : World) (hB : Blk W g 43 (mRows 29)) :
    Calls Try.prog 34 #[encMd x, encMd y, .pointer (some ⟨g, 0, none⟩)] W fun e W' => e = .returned (.int .i64 (cfMd x y)) ∧ ∃ q, W' = W.drewN q := by
  have cx := (hB.cell (4 * x.val + 3)).trans (mRows_at 29 x.val 3 x.isLt (by omega) (by omega))
  have cy := (hB.cell (4 * y.val + 3)).trans (mRows_at 29 y.val 3 y.isLt (by omega) (by omega))
  unfold cfMd needMd encMd
  have hx := x.isLt
  have hy := y.isLt
  generalize mAt x.val 3 = a at *
  generalize mAt y.val 3 = b at *
  generalize x.val = i at *
  generalize y.val = j at *
  clear hB
  clear x y
  have hx' : (i : Int) < 29 := by omega
  have hy' : (j : Int) < 29 := by omega
  rw [Nat.mul_comm 4 i] at cx
  rw [Nat.mul_comm 4 j] at cy
  go_enter Try.func34, Try.ntmps34
  go_wp2_with fail
  go_quiet ((go_at_call 35; exact Calls.quiet_of_same (Compare_any _ _ _)))
  go_wp2_with fail
  go_ret
  exact ⟨rfl, _, rfl⟩

/-- The modes below k that there are. -/
def mList (short : Bool) (k : Nat) : List Md := (List.finRange 29).filter fun m => decide (m.val < k) && mIs (m.val : Int) short
def mSorted (short : Bool) : List Md := if short then [1, 2, 3, 4, 5, 6, 7, 8, 9, 12, 10, 13, 14, 18, 15, 19, 16, 20, 21, 24, 22, 25, 26, 27] else [1, 2, 3, 4, 5, 6, 7, 8, 9, 12, 10, 11, 13, 14, 18, 15, 19, 16, 17, 20, 21, 24, 22, 23, 25, 26, 27, 28]
theorem mList_hit : ∀ short : Bool, ∀ k : Md, mIs (k.val : Int) short = true → mList short (k.val + 1) = mList short k.val ++ [k] := by decide +kernel
theorem mList_miss : ∀ short : Bool, ∀ k : Md, mIs (k.val : Int) short = false → mList short (k.val + 1) = mList short k.val := by decide +kernel
theorem mList_len : ∀ short : Bool, ∀ k : Fin 30, (mList short k.val).length ≤ k.val := by decide +kernel
theorem mList_perm : ∀ short : Bool, (mSorted short).Perm (mList short 29) := by decide +kernel
theorem mSorted_pairwise : ∀ short : Bool, (mSorted short).Pairwise (fun x y => needMd x ≤ needMd y) := by decide +kernel
theorem mSorted_sort (short : Bool) : ((mList short 29).mergeSort fun x y => !(ltOf cfMd) y x) = mSorted short := by
  have hle : ∀ x y : Md, (!(ltOf cfMd) y x) = decide (needMd x ≤ needMd y) := fun x y => by
    rw [ltMd]
    by_cases h : needMd x ≤ needMd y
    · have : ¬ needMd y < needMd x := by omega
      simp [h, this]
    · have : needMd y < needMd x := by omega
      simp [h, this]
  have hp := List.pairwise_mergeSort (le := fun x y => !(ltOf cfMd) y x) (fun a b c h1 h2 => by rw [hle] at *; simp at *; omega) (fun a b => by rw [hle, hle]; simp; omega) (mList short 29)
  refine List.Perm.eq_of_pairwise (le := fun x y => needMd x ≤ needMd y) (fun a b _ _ h1 h2 => need_inj a b (by omega)) ?_ (mSorted_pairwise short) ?_
  · exact hp.imp (fun h => by rw [hle] at h; simpa using h)
  · exact (List.mergeSort_perm _ _).trans (mList_perm short).symm

theorem own_below {w w' : World} {base : Nat} {e : TypeId} {size : Nat} {v : Value} {n : Nat} {xs : List Value} (h : w.ownsRow base e size v n xs) (hb : Below w.heap.size w w') : w'.ownsRow base e size v n xs :=
  h.kept (row := none) ⟨hb.os, hb.tape, hb.output, hb.size, fun k hk _ => hb.block k hk⟩ (by cases hv : v.ownBlock <;> simp)
theorem own_more {w : World} {base base' : Nat} {e : TypeId} {size : Nat} {v : Value} {n : Nat} {xs : List Value} (h : w.ownsRow base e size v n xs) (hb : base' ≤ base) : w.ownsRow base' e size v n xs :=
  ⟨h.1, h.2.imp id fun ⟨g, cap, cur, h1, h2, h3⟩ => ⟨g, cap, cur, h1, Nat.le_trans hb h2, h3⟩⟩

theorem md_info : (Try.prog.info? 3).map (fun i => (i.zero, i.size, i.bytes)) = some (some (.int .i64 0), 1, 8) := by kernel_rfl

theorem blk_sortWorld {enc : Md → Value} {w : World} {blk off m br : Nat} {dk : Array Md} {os : Array Obj} {t : TypeId} {cs : Array Value} (h : Blk w br t cs) (hne : br ≠ blk) : Blk (sortWorld enc w blk off m dk os) br t cs := by
  unfold Blk at h ⊢
  unfold sortWorld
  have hlt : br < w.heap.size := Blk.lt h
  rw [heap_grow_old _ _ (by simpa [putRow, mapBlock, Sort.ahead] using hlt)]
  simp [putRow, mapBlock, Sort.ahead, Array.getElem?_modify, h, Ne.symm hne]
theorem grown_grow (w : World) (os : Array Obj) : w.grownBy (grow w os) none := ⟨rfl, rfl, rfl, by simp, fun k hk _ => heap_grow_old _ _ hk⟩

/-- What All leaves: an own slice of all modes, the sturdiest first. -/
def AllPost (short : Bool) (w : World) (e : Ending) (w' : World) : Prop :=
  ∃ g cap, e = .returned (.slice (some ⟨g, 0, none⟩) (mSorted short).length cap) ∧ Below w.heap.size w w' ∧ w'.ownsRow w.heap.size 3 1 (.slice (some ⟨g, 0, none⟩) (mSorted short).length cap) (mSorted short).length ((mSorted short).map encMd)

attribute [local irreducible] mSorted mList

set_option maxRecDepth 100000 in
set_option maxHeartbeats 4000000 in
theorem All_any (short : Bool) (w : World) : Calls Try.prog 22 #[.bool short] w (AllPost short w) := by
  obtain ⟨w0, rfl⟩ : ∃ w0, w0 = w := ⟨w, rfl⟩
  go_enter Try.func22, Try.ntmps22
  go_wp2_with fail
  go_loopw [3, 6] (fun v i wr => ∃ k : Nat, k ≤ 29 ∧ i = .int .i64 k ∧ wr.ownsRow w0.heap.size 3 1 v (mList short k).length ((mList short k).map encMd) ∧ Below w0.heap.size w0 wr) (fun _ i _ => 29 - (intOf i).toNat)
  case atStart => exact ⟨0, by omega, rfl, by rw [show mList short 0 = [] by unfold mList; simp]; exact World.ownsRow_nil _ _ _ _, Below.refl _ _⟩
  case round =>
    obtain ⟨k, hk, rfl, hown, hbr⟩ := hrel
    have hsz := hbr.size
    by_cases hlt : k < 29
    · have hml := mList_len short ⟨k, by omega⟩
      have hk29 : (k : Int) < 29 := by omega
      have HR := Lib.hid (And.intro hown hbr)
      clear hown hbr
      go_wp2_with fail
      refine (Is_any (k : Int) short false _).mono ?_
      rintro e w1 ⟨rfl, hb1⟩
      have o1 := own_below HR.out.1 hb1
      have b1 := HR.out.2.trans (hb1.mono HR.out.2.size)
      have hz1 := b1.size
      have HB := Lib.hid (And.intro b1 (And.intro hb1 hz1))
      clear hb1 b1
      cases hi : mIs (k : Int) short with
      | true =>
        have HI := Lib.hid (mList_hit short ⟨k, hlt⟩ hi)
        have hltk := o1.lt
        have HL := Lib.hid hltk
        clear hi hltk
        obtain ⟨i0, hi, hz0, hz1', hz2⟩ := info_parts md_info
        go_wp2_with (first
          | (at_builtin; refine wpList_append_own _ rfl (.tmp 13) (.tmp 15) 34 rfl w0.heap.size 3 i0 (.int .i64 0) 1 8 Try.underlying34 hi hz0 hz1' hz2 rfl (by decide) _ _ _ rfl (o1.alloc _) ⟨w1.heap.size, 0, none⟩ 1 1 [.int .i64 k] rfl rfl (fun j u hj => by match j, hj with | 0, hj => (simp at hj; subst hj; exact (Blk.new _ _ _).cell 0)) (fun u hu => by simp at hu; subst hu; rfl) (by unfold maxLen; omega) (by omega) (by simp; omega) ?_; intro v' w2 hown1 hgrow _))
        go_roundw
        case rel =>
          refine ⟨k + 1, by omega, by go_num, ?_, ?_⟩
          · rw [HI.out, List.length_append, List.map_append]; exact hown1
          · exact (HB.out.1.alloc hz1 _).grown hgrow (by simp; omega) (fun k hk => (HL.out k hk).1)
        case measure => simp [intOf]; omega
      | false =>
        have HI := Lib.hid (And.intro (mList_miss short ⟨k, hlt⟩ hi) o1)
        clear hi o1
        go_wp2_with fail
        go_roundw
        case rel => exact ⟨k + 1, by omega, by go_num, by rw [HI.out.1]; exact HI.out.2, HB.out.1⟩
        case measure => simp [intOf]; omega
    · obtain rfl : k = 29 := by omega
      have hnl : 0 < (mList short 29).length := by rw [← (mList_perm short).length_eq]; cases short <;> (unfold mSorted; decide)
      obtain ⟨g, cap, rfl, hg1, hg2, hnc, hcm, _, _⟩ := Lib.holds_of_ownsRow hown (fun h => by
        rcases hown.2 with ⟨_, h0⟩ | ⟨g, c, cur, e, _⟩
        · simp at h0; rw [h0] at hnl; simp at hnl
        · rw [h] at e; cases e)
      have HR := Lib.hid (And.intro hown hbr)
      clear hown hbr
      go_wp2_with fail
      refine (rows_any _).mono ?_
      rintro e w1 ⟨rfl, hb1⟩
      have o1 := own_below HR.out.1 hb1
      have b1 := HR.out.2.trans (hb1.mono HR.out.2.size)
      have hg3 : g < w1.heap.size := Nat.lt_of_lt_of_le hg2 hb1.size
      have HB := Lib.hid (And.intro b1 o1)
      have hz1 := b1.size
      clear hb1 b1 o1
      have hzr := rows_zero
      generalize hr1 : mRows 1 = r1 at hzr
      have hr1s : r1.size = 116 := by rw [← hr1]; exact mRows_size 1
      clear hr1
      go_wp2_with (refine wpList_store_row rfl 43 (.tmp 5) (.tmp 18) rfl _ (mRows 29) rfl rfl 43 r1 (Blk.new _ _ _) (by rw [mRows_size]; kernel_rfl) (by rw [mRows_size, hr1s]) (mRows_one _) ?_)
      generalize hW2 : World.setRow _ _ _ = w2
      have hb2 : RowKit.Below w1.heap.size w1 w2 := by rw [← hW2]; exact Below_setRow ((RowKit.Below.refl _ _).alloc (Nat.le_refl _) _) (Nat.le_refl _) _
      have hB : Blk w2 w1.heap.size 43 (mRows 29) := by rw [← hW2]; exact (Blk.new _ _ _).setRow _
      clear hW2
      have o2 := own_below HB.out.2 hb2
      have b2 := HB.out.1.trans (hb2.mono HB.out.1.size)
      obtain ⟨g', cap', he, _, hg4, _, _, _, hH⟩ := Lib.holds_of_ownsRow o2 (by simp)
      cases he
      have hlen : (mList short 29).toArray.size = (mList short 29).length := by simp
      have hcmp : CmpLays1 Try.prog 34 #[.pointer (some ⟨w1.heap.size, 0, none⟩)] encMd cfMd g 0 (mList short 29).toArray.size w2 := fun m os dk _ x y =>
        (All1_any w1.heap.size x y (sortWorld encMd w2 g 0 m dk os) (blk_sortWorld hB (by omega))).mono fun _ _ ⟨he, q, hq⟩ => ⟨he, q, #[], by rw [hq, grow_empty]⟩
      have hS := Any.slices_SortFunc_total Try.SortL encMd (fun _ => rfl) cfMd swoMd 34 #[.pointer (some ⟨w1.heap.size, 0, none⟩)] g 0 cap (mList short 29).toArray w2 (enters_of Try.func34 (by kernel_rfl) rfl) hcmp hH hg4 (by have := mList_len short ⟨29, by omega⟩; simp only [hlen]; simp at this; omega) totMd
      rw [hlen] at hS
      simp only [List.toList_toArray] at hS
      rw [mSorted_sort] at hS
      have hlen2 : (mSorted short).length = (mList short 29).length := (mList_perm short).length_eq
      change Calls Try.prog 33 _ _ _ at hS
      refine hS.mono ?_
      rintro e w3 ⟨rfl, q, os, rfl⟩
      have o3 := Lib.ownsRow_putRow (q := q) o2 hlen2 (Nat.le_refl _)
      rw [← hlen2, List.take_length] at o3
      have o4 : (sortWorld encMd w2 g 0 q (mSorted short).toArray os).ownsRow _ _ _ _ _ _ := o3.kept (grown_grow _ os) (by simp [Value.ownBlock])
      have b3 : RowKit.Below w0.heap.size w0 (sortWorld encMd w2 g 0 q (mSorted short).toArray os) := (Lib.below_putRow b2 hg1).grown (grown_grow _ os) (by simp [putRow, mapBlock, Sort.ahead]; exact b2.size) (fun k h => by cases h)
      generalize sortWorld encMd w2 g 0 q (mSorted short).toArray os = w3 at *
      have HF := Lib.hid (And.intro (And.intro o4 b3) hlen2)
      clear o4 b3 o3 o2 b2 hS hcmp hH hB hb2
      clear hlen2
      go_wp2_with fail
      go_ret
      exact ⟨g, cap, by rw [HF.out.2]; rfl, HF.out.1.2, HF.out.1.1⟩

end Go.Proofs.Ytmiobfnjegdhdaa
