/- ModcodKnown. -/
import Derived.Test.YtmiobfnjegdhdaaModF
import Derived.Test.YtmiobfnjegdhdaaModS
set_option linter.unusedSimpArgs false
set_option linter.unusedVariables false
namespace Go.Proofs.Ytmiobfnjegdhdaa
open Go.RowKit

theorem sorted_len_t : (mSorted true).length = 24 := by decide
theorem sorted_len_f : (mSorted false).length = 28 := by decide
theorem sorted_first : ∀ k, k < 12 → ((mSorted true).map encMd)[k]? = some (.int .i64 (([1, 2, 3, 4, 5, 6, 7, 8, 9, 12, 10, 13] : List Int).getD k 0)) := by
  intro k hk
  match k, hk with
  | 0, _ => rfl
  | 1, _ => rfl
  | 2, _ => rfl
  | 3, _ => rfl
  | 4, _ => rfl
  | 5, _ => rfl
  | 6, _ => rfl
  | 7, _ => rfl
  | 8, _ => rfl
  | 9, _ => rfl
  | 10, _ => rfl
  | 11, _ => rfl

set_option maxRecDepth 100000 in
set_option maxHeartbeats 4000000 in
theorem ModcodKnown_walk (w : World) :
    Calls Try.prog 7 #[] w fun e w' => e = .returned (.bool true) ∧ Below w.heap.size w w' := by
  have H0 := Lib.hid (Below.refl w.heap.size w)
  go_enter Try.func7, Try.ntmps7
  go_wp2_with fail
  refine (Field_yes 1 false false _ (by decide +kernel)).mono ?_
  rintro e w1 ⟨rfl, hb⟩
  have hbw : Below w.heap.size w w1 := Below.trans (by repeat (first | exact H0.out | (refine Below.alloc ?_ (by have := H0.out.size; simp; try omega) _))) (hb.mono (by have := H0.out.size; simp; try omega))
  have H1 := Lib.hid hbw
  clear hb hbw
  rw [show mField 1 false = 1991 by decide +kernel]
  go_wp2_with fail
  refine (Symbols_yes 1 false false _ (by decide +kernel)).mono ?_
  rintro e w2 ⟨rfl, hb⟩
  have hbw : Below w.heap.size w w2 := Below.trans (by repeat (first | exact H1.out | (refine Below.alloc ?_ (by have := H1.out.size; simp; try omega) _))) (hb.mono (by have := H1.out.size; simp; try omega))
  have H2 := Lib.hid hbw
  clear hb hbw
  rw [show mSymbols 1 false false = 32490 by decide +kernel]
  go_wp2_with fail
  refine (Kbch_yes 1 true true _ (by decide +kernel)).mono ?_
  rintro e w3 ⟨rfl, hb⟩
  have hbw : Below w.heap.size w w3 := Below.trans (by repeat (first | exact H2.out | (refine Below.alloc ?_ (by have := H2.out.size; simp; try omega) _))) (hb.mono (by have := H2.out.size; simp; try omega))
  have H3 := Lib.hid hbw
  clear hb hbw
  rw [show mBits 1 true = 3072 by decide +kernel]
  go_wp2_with fail
  refine (Field_yes 1 true false _ (by decide +kernel)).mono ?_
  rintro e w4 ⟨rfl, hb⟩
  have hbw : Below w.heap.size w w4 := Below.trans (by repeat (first | exact H3.out | (refine Below.alloc ?_ (by have := H3.out.size; simp; try omega) _))) (hb.mono (by have := H3.out.size; simp; try omega))
  have H4 := Lib.hid hbw
  clear hb hbw
  rw [show mField 1 true = 374 by decide +kernel]
  go_wp2_with fail
  refine (Symbols_yes 1 true true _ (by decide +kernel)).mono ?_
  rintro e w5 ⟨rfl, hb⟩
  have hbw : Below w.heap.size w w5 := Below.trans (by repeat (first | exact H4.out | (refine Below.alloc ?_ (by have := H4.out.size; simp; try omega) _))) (hb.mono (by have := H4.out.size; simp; try omega))
  have H5 := Lib.hid hbw
  clear hb hbw
  rw [show mSymbols 1 true true = 8370 by decide +kernel]
  go_wp2_with fail
  refine (Is_any 11 true false _).mono ?_
  rintro e w6 ⟨rfl, hb⟩
  have hbw : Below w.heap.size w w6 := Below.trans (by repeat (first | exact H5.out | (refine Below.alloc ?_ (by have := H5.out.size; simp; try omega) _))) (hb.mono (by have := H5.out.size; simp; try omega))
  have H6 := Lib.hid hbw
  clear hb hbw
  rw [show mIs 11 true = false by decide +kernel]
  go_wp2_with fail
  refine (Is_any 11 false false _).mono ?_
  rintro e w7 ⟨rfl, hb⟩
  have hbw : Below w.heap.size w w7 := Below.trans (by repeat (first | exact H6.out | (refine Below.alloc ?_ (by have := H6.out.size; simp; try omega) _))) (hb.mono (by have := H6.out.size; simp; try omega))
  have H7 := Lib.hid hbw
  clear hb hbw
  rw [show mIs 11 false = true by decide +kernel]
  go_wp2_with fail
  refine (Is_any 0 false false _).mono ?_
  rintro e w8 ⟨rfl, hb⟩
  have hbw : Below w.heap.size w w8 := Below.trans (by repeat (first | exact H7.out | (refine Below.alloc ?_ (by have := H7.out.size; simp; try omega) _))) (hb.mono (by have := H7.out.size; simp; try omega))
  have H8 := Lib.hid hbw
  clear hb hbw
  rw [show mIs 0 false = false by decide +kernel]
  go_wp2_with fail
  refine (Is_any 29 false false _).mono ?_
  rintro e w9 ⟨rfl, hb⟩
  have hbw : Below w.heap.size w w9 := Below.trans (by repeat (first | exact H8.out | (refine Below.alloc ?_ (by have := H8.out.size; simp; try omega) _))) (hb.mono (by have := H8.out.size; simp; try omega))
  have H9 := Lib.hid hbw
  clear hb hbw
  rw [show mIs 29 false = false by decide +kernel]
  go_wp2_with fail
  refine (Is_any (-1) false false _).mono ?_
  rintro e w10 ⟨rfl, hb⟩
  have hbw : Below w.heap.size w w10 := Below.trans (by repeat (first | exact H9.out | (refine Below.alloc ?_ (by have := H9.out.size; simp; try omega) _))) (hb.mono (by have := H9.out.size; simp; try omega))
  have H10 := Lib.hid hbw
  clear hb hbw
  rw [show mIs (-1) false = false by decide +kernel]
  go_wp2_with fail
  refine (Is_any 28 true false _).mono ?_
  rintro e w11 ⟨rfl, hb⟩
  have hbw : Below w.heap.size w w11 := Below.trans (by repeat (first | exact H10.out | (refine Below.alloc ?_ (by have := H10.out.size; simp; try omega) _))) (hb.mono (by have := H10.out.size; simp; try omega))
  have H11 := Lib.hid hbw
  clear hb hbw
  rw [show mIs 28 true = false by decide +kernel]
  go_wp2_with fail
  refine (Is_any 27 true false _).mono ?_
  rintro e w12 ⟨rfl, hb⟩
  have hbw : Below w.heap.size w w12 := Below.trans (by repeat (first | exact H11.out | (refine Below.alloc ?_ (by have := H11.out.size; simp; try omega) _))) (hb.mono (by have := H11.out.size; simp; try omega))
  have H12 := Lib.hid hbw
  clear hb hbw
  rw [show mIs 27 true = true by decide +kernel]
  go_wp2_with fail
  refine (Sturdier_any 12 10 _).mono ?_
  rintro e w13 ⟨rfl, hb⟩
  have hbw : Below w.heap.size w w13 := Below.trans (by repeat (first | exact H12.out | (refine Below.alloc ?_ (by have := H12.out.size; simp; try omega) _))) (hb.mono (by have := H12.out.size; simp; try omega))
  have H13 := Lib.hid hbw
  clear hb hbw
  rw [show sturd 12 10 = true by decide +kernel]
  go_wp2_with fail
  refine (Sturdier_any 18 15 _).mono ?_
  rintro e w14 ⟨rfl, hb⟩
  have hbw : Below w.heap.size w w14 := Below.trans (by repeat (first | exact H13.out | (refine Below.alloc ?_ (by have := H13.out.size; simp; try omega) _))) (hb.mono (by have := H13.out.size; simp; try omega))
  have H14 := Lib.hid hbw
  clear hb hbw
  rw [show sturd 18 15 = true by decide +kernel]
  go_wp2_with fail
  refine (Sturdier_any 10 12 _).mono ?_
  rintro e w15 ⟨rfl, hb⟩
  have hbw : Below w.heap.size w w15 := Below.trans (by repeat (first | exact H14.out | (refine Below.alloc ?_ (by have := H14.out.size; simp; try omega) _))) (hb.mono (by have := H14.out.size; simp; try omega))
  have H15 := Lib.hid hbw
  clear hb hbw
  rw [show sturd 10 12 = false by decide +kernel]
  go_wp2_with fail
  refine (Sturdier_any 0 1 _).mono ?_
  rintro e w16 ⟨rfl, hb⟩
  have hbw : Below w.heap.size w w16 := Below.trans (by repeat (first | exact H15.out | (refine Below.alloc ?_ (by have := H15.out.size; simp; try omega) _))) (hb.mono (by have := H15.out.size; simp; try omega))
  have H16 := Lib.hid hbw
  clear hb hbw
  rw [show sturd 0 1 = false by decide +kernel]
  go_wp2_with fail
  refine (Sturdier_any 1 29 _).mono ?_
  rintro e w17 ⟨rfl, hb⟩
  have hbw : Below w.heap.size w w17 := Below.trans (by repeat (first | exact H16.out | (refine Below.alloc ?_ (by have := H16.out.size; simp; try omega) _))) (hb.mono (by have := H16.out.size; simp; try omega))
  have H17 := Lib.hid hbw
  clear hb hbw
  rw [show sturd 1 29 = false by decide +kernel]
  go_wp2_with fail
  refine (Need_yes 28 _ (by decide)).mono ?_
  rintro e w18 ⟨rfl, hb⟩
  have hbw : Below w.heap.size w w18 := Below.trans (by repeat (first | exact H17.out | (refine Below.alloc ?_ (by have := H17.out.size; simp; try omega) _))) (hb.mono (by have := H17.out.size; simp; try omega))
  have H18 := Lib.hid hbw
  clear hb hbw
  rw [show mAt 28 3 = 1605 by decide +kernel]
  go_wp2_with fail
  refine (Modulation_yes 17 _ (by decide)).mono ?_
  rintro e w19 ⟨rfl, hb⟩
  have hbw : Below w.heap.size w w19 := Below.trans (by repeat (first | exact H18.out | (refine Below.alloc ?_ (by have := H18.out.size; simp; try omega) _))) (hb.mono (by have := H18.out.size; simp; try omega))
  have H19 := Lib.hid hbw
  clear hb hbw
  rw [show mAt 17 0 = 1 by decide +kernel]
  go_wp2_with fail
  refine (Symbols_yes 28 false false _ (by decide +kernel)).mono ?_
  rintro e w20 ⟨rfl, hb⟩
  have hbw : Below w.heap.size w w20 := Below.trans (by repeat (first | exact H19.out | (refine Below.alloc ?_ (by have := H19.out.size; simp; try omega) _))) (hb.mono (by have := H19.out.size; simp; try omega))
  have H20 := Lib.hid hbw
  clear hb hbw
  rw [show mSymbols 28 false false = 13050 by decide +kernel]
  go_wp2_with fail
  refine (Field_yes 28 false false _ (by decide +kernel)).mono ?_
  rintro e w21 ⟨rfl, hb⟩
  have hbw : Below w.heap.size w w21 := Below.trans (by repeat (first | exact H20.out | (refine Below.alloc ?_ (by have := H20.out.size; simp; try omega) _))) (hb.mono (by have := H20.out.size; simp; try omega))
  have H21 := Lib.hid hbw
  clear hb hbw
  rw [show mField 28 false = 7264 by decide +kernel]
  go_wp2_with fail
  refine (All_any true _).mono ?_
  rintro e w22 ⟨g, cap, rfl, hb, ho⟩
  rw [sorted_len_t] at ho ⊢
  have hbw := H21.out.trans (hb.mono H21.out.size)
  have H22 := Lib.hid (And.intro hbw ho)
  clear hbw hb ho
  go_wp2_with fail
  refine (All_any false _).mono ?_
  rintro e w23 ⟨g2, cap2, rfl, hb, _⟩
  rw [sorted_len_f]
  have hbw := H22.out.1.trans ((((Below.refl _ w22).alloc (Nat.le_refl _) _).trans (hb.mono (by simp))).mono H22.out.1.size)
  have hwant := (Blk.new w22 3 (ints [1, 2, 3, 4, 5, 6, 7, 8, 9, 12, 10, 13])).below hb (by simp)
  have ho := own_below (H22.out.2.alloc (.cells (ints [1, 2, 3, 4, 5, 6, 7, 8, 9, 12, 10, 13]) 3)) hb
  obtain ⟨g', c', he, _, hg, _, _, _, _⟩ := Lib.holds_of_ownsRow (by rw [← sorted_len_t] at ho; exact ho) (by simp)
  cases he
  have hbl := hwant.lt
  have hcell : ∀ k, k < 12 → w23.cell? ⟨g, k, none⟩ = some (.int .i64 (([1, 2, 3, 4, 5, 6, 7, 8, 9, 12, 10, 13] : List Int).getD k 0)) := fun k hk => (ho.cellAt k (by omega)).trans (sorted_first k hk)
  have H23 := Lib.hid (And.intro hbw (And.intro hwant hcell))
  clear hbw hwant hcell ho hb
  go_wp2_with fail
  go_loopw [21] (fun i wr => ∃ k : Nat, k ≤ 12 ∧ i = .int .i64 k ∧ Below w23.heap.size w23 wr) (fun i _ => 12 - (intOf i).toNat)
  case atStart => exact ⟨0, by omega, rfl, Below.refl _ _⟩
  case round =>
    obtain ⟨k, hk, rfl, hbr⟩ := hrel
    by_cases hlt : k < 12
    · have c1 := (hbr.cell (p := ⟨g, k, none⟩) hg).trans (H23.out.2.2 k hlt)
      have c2 := ((H23.out.2.1.below hbr hbl).cell k).trans (ints_at (List.getElem?_eq_getElem (show k < ([1, 2, 3, 4, 5, 6, 7, 8, 9, 12, 10, 13] : List Int).length from hlt)))
      have hgd : (([1, 2, 3, 4, 5, 6, 7, 8, 9, 12, 10, 13] : List Int).getD k 0) = ([1, 2, 3, 4, 5, 6, 7, 8, 9, 12, 10, 13] : List Int)[k]'hlt := by simp [List.getD, List.getElem?_eq_getElem (show k < ([1, 2, 3, 4, 5, 6, 7, 8, 9, 12, 10, 13] : List Int).length from hlt)]
      rw [hgd] at c1
      clear hgd
      generalize ([1, 2, 3, 4, 5, 6, 7, 8, 9, 12, 10, 13] : List Int)[k] = x at *
      have l1 : g < wr.heap.size := Nat.lt_of_lt_of_le hg hbr.size
      have l2 : w22.heap.size < wr.heap.size := Nat.lt_of_lt_of_le hbl hbr.size
      have hk12 : (k : Int) < 12 := by omega
      have hk24 : (k : Int) < 24 := by omega
      have HR := Lib.hid hbr
      clear hbr
      go_wp2_with fail
      refine wp_region_sub [] (fun W => Below wr.heap.size wr W) (by kernel_rfl) (by kernel_rfl) ((Below.refl _ _).drew) (fun _ => ?_)
      iterate 9 (refine mix_read (by kernel_rfl) (by rfl) (by rfl) (by rfl) (of_decide_eq_true (by kernel_rfl)) ?_; apply Exists.intro; apply Exists.intro; refine ⟨fun w' hw' K hK => ?_, ?_, ?_⟩; (obtain ⟨X, rfl⟩ := hw'; go_wp2_with fail; first | exact ⟨rfl, rfl⟩ | exact rfl); rfl)
      refine mix_nil ?_
      go_wp2_with fail
      go_roundw
      case rel => exact ⟨k + 1, by omega, by go_num, HR.out.drew⟩
      case measure => simp [intOf]; omega
    · obtain rfl : k = 12 := by omega
      have hbw := H23.out.1.trans (hbr.mono H23.out.1.size)
      have H24 := Lib.hid hbw
      clear hbr hbw
      go_wp2_with fail
      refine (works_any _).mono ?_
      rintro e w25 ⟨rfl, hb⟩
      have H25 := Lib.hid (H24.out.trans (hb.mono H24.out.size))
      clear hb
      go_wp2_with fail
      go_ret
      exact ⟨rfl, H25.out⟩

end Go.Proofs.Ytmiobfnjegdhdaa
