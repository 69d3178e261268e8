/- ModcodOrder. -/
import Derived.Test.YtmiobfnjegdhdaaModF
import Derived.Test.YtmiobfnjegdhdaaModS
import Derived.Deep.CutBlock
import Derived.Deep.DeepCutAuto
set_option linter.unusedSimpArgs false
set_option linter.unusedVariables false
namespace Go.Proofs.Ytmiobfnjegdhdaa
open Go.RowKit

theorem sturd_self : ∀ n : Fin 29, sturd n.val n.val = false := by decide +kernel
theorem sturd_one : ∀ n m : Fin 29, 1 ≤ n.val → 1 ≤ m.val → n ≠ m → (sturd n.val m.val == sturd m.val n.val) = false := by decide +kernel
theorem sturd_trans (n m k : Nat) (hn : 1 ≤ n ∧ n ≤ 28) (hm : 1 ≤ m ∧ m ≤ 28) (hk : 1 ≤ k ∧ k ≤ 28) (h1 : sturd n m = true) (h2 : sturd m k = true) : sturd n k = true := by
  rw [sturd_in _ _ hn hm] at h1
  rw [sturd_in _ _ hm hk] at h2
  rw [sturd_in _ _ hn hk]
  simp at *
  omega
theorem sorted_is : ∀ sh : Bool, ∀ i : Fin 28, (h : i.val < (mSorted sh).length) → mIs (((mSorted sh)[i.val]'h).val : Int) sh = true := by decide +kernel
theorem sorted_up : ∀ sh : Bool, ∀ i : Fin 28, (h : i.val + 1 < (mSorted sh).length) → sturd (((mSorted sh)[i.val]'(by omega)).val : Int) (((mSorted sh)[i.val + 1]'h).val : Int) = true := by decide +kernel
theorem sorted_len (sh : Bool) : ((mSorted sh).length : Int) = 28 - 4 * (if sh then 1 else 0) := by cases sh <;> decide
theorem mList_1 : ∀ sh : Bool, (mList sh 1).length = 0 := by decide +kernel

theorem mod28 (a : Int) : ∃ n : Nat, 1 + a.tmod 28 % 28 = n ∧ 1 ≤ n ∧ n ≤ 28 := ⟨(1 + a.tmod 28 % 28).toNat, by omega, by omega, by omega⟩

attribute [local irreducible] wpMix

set_option maxRecDepth 100000 in
set_option maxHeartbeats 4000000 in
theorem ModcodOrder_any (a b c : Int) (w : World) (ha : -9223372036854775808 ≤ a ∧ a ≤ 9223372036854775807) (hb : -9223372036854775808 ≤ b ∧ b ≤ 9223372036854775807) (hc : -9223372036854775808 ≤ c ∧ c ≤ 9223372036854775807) :
    Calls Try.prog 6 #[.int .i64 a, .int .i64 b, .int .i64 c] w fun e w' => e = .returned (.bool true) ∧ Below w.heap.size w w' := by
  have hta : -27 ≤ a.tmod 28 ∧ a.tmod 28 ≤ 27 := by
    have h1 := Int.lt_tmod_of_pos a (show (0 : Int) < 28 by decide)
    have h2 := Int.tmod_lt_of_pos a (show (0 : Int) < 28 by decide)
    omega
  have htb : -27 ≤ b.tmod 28 ∧ b.tmod 28 ≤ 27 := by
    have h1 := Int.lt_tmod_of_pos b (show (0 : Int) < 28 by decide)
    have h2 := Int.tmod_lt_of_pos b (show (0 : Int) < 28 by decide)
    omega
  have htc : -27 ≤ c.tmod 28 ∧ c.tmod 28 ≤ 27 := by
    have h1 := Int.lt_tmod_of_pos c (show (0 : Int) < 28 by decide)
    have h2 := Int.tmod_lt_of_pos c (show (0 : Int) < 28 by decide)
    omega
  go_enter Try.func6, Try.ntmps6
  go_upto_region 2 with fail
  obtain ⟨x, hx, hx1, hx2⟩ := mod28 a
  obtain ⟨y, hy, hy1, hy2⟩ := mod28 b
  obtain ⟨z, hz, hz1, hz2⟩ := mod28 c
  rw [hx, hy, hz]
  clear hx hy hz hta htb htc ha hb hc
  have H0 := Lib.hid (Below.refl w.heap.size w)
  go_cut [63] (fun t wx => t = .bool false ∧ Below w.heap.size w wx)
  case first =>
    have hself := sturd_self ⟨x, by omega⟩
    dsimp only at hself
    by_cases hxy : x = y
    · subst hxy
      have hne : ((x : Int) != (x : Int)) = false := by simp
      have HS := Lib.hid hself
      clear hself
      go_wp2_with fail
      refine (Sturdier_any x x _).mono ?_
      rintro e w1 ⟨rfl, hb⟩
      have hbw : Below w.heap.size w w1 := Below.trans (by repeat (first | exact H0.out | (refine Below.alloc ?_ (by have := H0.out.size; simp; try omega) _))) (hb.mono (by have := H0.out.size; simp; try omega))
      have H1 := Lib.hid hbw
      clear hb hbw
      rw [HS.out]
      go_wp2_with fail
      refine (Sturdier_any x x _).mono ?_
      rintro e w2 ⟨rfl, hb⟩
      have hbw : Below w.heap.size w w2 := Below.trans (by repeat (first | exact H1.out | (refine Below.alloc ?_ (by have := H1.out.size; simp; try omega) _))) (hb.mono (by have := H1.out.size; simp; try omega))
      have H2 := Lib.hid hbw
      clear hb hbw
      rw [HS.out]
      go_wp2_with fail
      go_meet
      exact ⟨rfl, H2.out⟩
    · have hne : ((x : Int) != (y : Int)) = true := by simp; omega
      have hone := sturd_one ⟨x, by omega⟩ ⟨y, by omega⟩ hx1 hy1 (by simp; omega)
      have htr := sturd_trans x y z ⟨hx1, hx2⟩ ⟨hy1, hy2⟩ ⟨hz1, hz2⟩
      dsimp only at hone
      have HS := Lib.hid (And.intro hself (And.intro hone htr))
      clear hself hone htr
      go_wp2_with fail
      refine (Sturdier_any x x _).mono ?_
      rintro e w1 ⟨rfl, hb⟩
      have hbw : Below w.heap.size w w1 := Below.trans (by repeat (first | exact H0.out | (refine Below.alloc ?_ (by have := H0.out.size; simp; try omega) _))) (hb.mono (by have := H0.out.size; simp; try omega))
      have H1 := Lib.hid hbw
      clear hb hbw
      rw [HS.out.1]
      go_wp2_with fail
      refine (Sturdier_any x y _).mono ?_
      rintro e w2 ⟨rfl, hb⟩
      have hbw : Below w.heap.size w w2 := Below.trans (by repeat (first | exact H1.out | (refine Below.alloc ?_ (by have := H1.out.size; simp; try omega) _))) (hb.mono (by have := H1.out.size; simp; try omega))
      have H2 := Lib.hid hbw
      clear hb hbw
      go_wp2_with fail
      refine (Sturdier_any y x _).mono ?_
      rintro e w3 ⟨rfl, hb⟩
      have hbw : Below w.heap.size w w3 := Below.trans (by repeat (first | exact H2.out | (refine Below.alloc ?_ (by have := H2.out.size; simp; try omega) _))) (hb.mono (by have := H2.out.size; simp; try omega))
      have H3 := Lib.hid hbw
      clear hb hbw
      have hone := HS.out.2.1
      cases h1 : sturd (x : Int) (y : Int) with
      | false =>
        rw [h1] at hone
        have H1' := Lib.hid h1
        clear h1
        generalize sturd (y : Int) (x : Int) = s2 at *
        go_wp2_with fail
        refine (Sturdier_any x y _).mono ?_
        rintro e w4 ⟨rfl, hb⟩
        have hbw : Below w.heap.size w w4 := Below.trans (by repeat (first | exact H3.out | (refine Below.alloc ?_ (by have := H3.out.size; simp; try omega) _))) (hb.mono (by have := H3.out.size; simp; try omega))
        have H4 := Lib.hid hbw
        clear hb hbw
        rw [H1'.out]
        go_wp2_with fail
        go_meet
        exact ⟨rfl, H4.out⟩
      | true =>
        rw [h1] at hone
        have H1' := Lib.hid h1
        clear h1
        generalize sturd (y : Int) (x : Int) = s2 at *
        go_wp2_with fail
        refine (Sturdier_any x y _).mono ?_
        rintro e w4 ⟨rfl, hb⟩
        have hbw : Below w.heap.size w w4 := Below.trans (by repeat (first | exact H3.out | (refine Below.alloc ?_ (by have := H3.out.size; simp; try omega) _))) (hb.mono (by have := H3.out.size; simp; try omega))
        have H4 := Lib.hid hbw
        clear hb hbw
        rw [H1'.out]
        go_wp2_with fail
        refine (Sturdier_any y z _).mono ?_
        rintro e w5 ⟨rfl, hb⟩
        have hbw : Below w.heap.size w w5 := Below.trans (by repeat (first | exact H4.out | (refine Below.alloc ?_ (by have := H4.out.size; simp; try omega) _))) (hb.mono (by have := H4.out.size; simp; try omega))
        have H5 := Lib.hid hbw
        clear hb hbw
        cases h3 : sturd (y : Int) (z : Int) with
        | false =>
          have H3' := Lib.hid h3
          clear h3
          go_wp2_with fail
          go_meet
          exact ⟨rfl, H5.out⟩
        | true =>
          have H3' := Lib.hid h3
          clear h3
          go_wp2_with fail
          refine (Sturdier_any x z _).mono ?_
          rintro e w6 ⟨rfl, hb⟩
          have hbw : Below w.heap.size w w6 := Below.trans (by repeat (first | exact H5.out | (refine Below.alloc ?_ (by have := H5.out.size; simp; try omega) _))) (hb.mono (by have := H5.out.size; simp; try omega))
          have H6 := Lib.hid hbw
          clear hb hbw
          rw [HS.out.2.2 H1'.out H3'.out]
          go_wp2_with fail
          go_meet
          exact ⟨rfl, H6.out⟩
  case rest =>
    obtain ⟨rfl, hbc⟩ := hcut
    have HC := Lib.hid hbc
    clear hbc
    go_wp2_with fail
    go_loopw [10] (fun t wr => ∃ k : Nat, k ≤ 2 ∧ t = .int .i64 k ∧ Below w.heap.size w wr) (fun t _ => 2 - (intOf t).toNat)
    case atStart => exact ⟨0, by omega, rfl, HC.out⟩
    case round =>
      obtain ⟨k, hk, rfl, hbr⟩ := hrel
      by_cases hlt : k < 2
      · obtain ⟨sh, hsh⟩ : ∃ sh : Bool, ((k : Int) == 1) = sh := ⟨_, rfl⟩
        have hlen := sorted_len sh
        have hk4 : (28 : Int) - 4 * k = ((mSorted sh).length : Int) := by
          rw [hlen]
          rcases (show k = 0 ∨ k = 1 by omega) with rfl | rfl
          · simp at hsh; subst hsh; rfl
          · simp at hsh; subst hsh; rfl
        have hk2 : (k : Int) < 2 := by omega
        have HR := Lib.hid hbr
        have hl28 : (mSorted sh).length ≤ 28 := by cases sh <;> decide
        have HK := Lib.hid hk4
        clear hbr hlen hk4
        go_wp2_with fail
        refine (All_any sh _).mono ?_
        rintro e w1 ⟨g, cap, rfl, hb1, ho⟩
        have hbw := HR.out.trans (hb1.mono HR.out.size)
        obtain ⟨g', c', he, _, hg, _, _, _, _⟩ := Lib.holds_of_ownsRow ho (by simp)
        cases he
        have H1 := Lib.hid (And.intro hbw ho)
        have hL : (mSorted sh).length = (mList sh 29).length := (mList_perm sh).length_eq
        have HL := Lib.hid hL
        clear hbw ho hb1 hL
        generalize hLL : (mSorted sh).length = L at *
        have HLL := Lib.hid hLL
        clear hLL
        go_wp2_with fail
        obtain ⟨wo, rfl⟩ : ∃ wo, wo = wr := ⟨wr, rfl⟩
        go_loopw [13, 14] (fun n i wr => ∃ j : Nat, 1 ≤ j ∧ j ≤ 29 ∧ i = .int .i64 j ∧ n = .int .i64 ((mList sh j).length : Nat) ∧ Below w1.heap.size w1 wr) (fun _ i _ => 29 - (intOf i).toNat)
        case atStart => exact ⟨1, by omega, by omega, rfl, by rw [mList_1 sh]; rfl, Below.refl _ _⟩
        case round =>
          obtain ⟨j, hj1, hj2, rfl, rfl, hbj⟩ := hrel
          by_cases hj : j ≤ 28
          · have hml := mList_len sh ⟨j, by omega⟩
            have hj29 : decide ((j : Int) ≤ 28) = true := by rw [decide_eq_true_iff]; omega
            have hj30 : (j : Int) < 29 := by omega
            have HJ := Lib.hid hbj
            clear hbj
            cases hi : mIs (j : Int) sh with
            | true =>
              have HI := Lib.hid (And.intro hi (mList_hit sh ⟨j, by omega⟩ hi))
              clear hi
              dsimp only at hml
              generalize hq : (mList sh j).length = q at *
              have HQ := Lib.hid hq
              clear hq
              go_wp2_with fail
              refine (Is_any (j : Int) sh false _).mono ?_
              rintro e w2 ⟨rfl, hb2⟩
              rw [HI.out.1]
              have HJ2 := Lib.hid (HJ.out.trans (hb2.mono HJ.out.size))
              clear hb2
              go_wp2_with fail
              go_roundw
              case rel => exact ⟨j + 1, by omega, by omega, by go_num, by rw [HI.out.2, List.length_append, HQ.out]; go_num, HJ2.out⟩
              case measure => simp [intOf]; omega
            | false =>
              have HI := Lib.hid (And.intro hi (mList_miss sh ⟨j, by omega⟩ hi))
              clear hi
              dsimp only at hml
              generalize hq : (mList sh j).length = q at *
              have HQ := Lib.hid hq
              clear hq
              go_wp2_with fail
              refine (Is_any (j : Int) sh false _).mono ?_
              rintro e w2 ⟨rfl, hb2⟩
              rw [HI.out.1]
              have HJ2 := Lib.hid (HJ.out.trans (hb2.mono HJ.out.size))
              clear hb2
              go_wp2_with fail
              go_roundw
              case rel => exact ⟨j + 1, by omega, by omega, by go_num, by rw [HI.out.2, HQ.out], HJ2.out⟩
              case measure => simp [intOf]; omega
          · rw [show (j : Int) = 29 by omega]
            obtain rfl : j = 29 := by omega
            rw [← HL.out]
            have hLk : ((L : Int) != 28 - 4 * (k : Int)) = false := by rw [HK.out]; simp
            have HJ := Lib.hid hbj
            clear hbj
            go_wp2_with fail
            obtain ⟨wp, rfl⟩ : ∃ wp, wp = wr := ⟨wr, rfl⟩
            go_loopw [15] (fun i wr => ∃ p : Nat, p ≤ L ∧ i = .int .i64 p ∧ Below w1.heap.size w1 wr) (fun i _ => L - (intOf i).toNat)
            case atStart => exact ⟨0, by omega, rfl, HJ.out⟩
            case round =>
              obtain ⟨p, hp, rfl, hbp⟩ := hrel
              by_cases hpl : p < L
              · have hpL : p < (mSorted sh).length := by rw [HLL.out]; exact hpl
                have hp28 : p < 28 := by omega
                have hi := sorted_is sh ⟨p, hp28⟩ hpL
                dsimp only at hi
                have c1 : wr.cell? ⟨g, p, none⟩ = some (.int .i64 (((mSorted sh)[p]'hpL).val : Int)) := by
                  rw [hbp.cell (p := ⟨g, p, none⟩) hg, H1.out.2.cellAt p (by omega), List.getElem?_map, List.getElem?_eq_getElem hpL]; rfl
                have hgr : g < wr.heap.size := Nat.lt_of_lt_of_le hg hbp.size
                have hpL' : (p : Int) < L := by omega
                by_cases hp0 : p = 0
                · have hpz : decide (0 < p) = false := by simp [hp0]
                  have HI := Lib.hid (And.intro hi (And.intro hbp hp0))
                  clear hi hbp hp0
                  generalize ((mSorted sh)[p]'hpL).val = m at *
                  go_wp2_with fail
                  refine wp_region_sub [6] (fun W => Below wr.heap.size wr W) (by kernel_rfl) (by kernel_rfl) ((Below.refl _ _).drew) (fun _ => ?_)
                  iterate 6 (refine mix_read (by kernel_rfl) (by rfl) (by rfl) (by rfl) (of_decide_eq_true (by kernel_rfl)) ?_; apply Exists.intro; apply Exists.intro; refine ⟨fun w' hw' K hK => ?_, ?_, ?_⟩; (obtain ⟨X, rfl⟩ := hw'; go_wp2_with fail; first | exact ⟨rfl, rfl⟩ | exact rfl); rfl)
                  (refine mix_act (by rfl) (by rfl) (fun K hK => ?_))
                  go_wp2_with fail
                  refine (Is_any (m : Int) sh false _).mono ?_
                  rintro e w2 ⟨rfl, hb2⟩
                  rw [HI.out.1]
                  have hb3 : Below wr.heap.size wr w2 := Below.drewl hb2
                  have HB3 := Lib.hid hb3
                  clear hb2 hb3
                  go_wp2_with fail
                  refine ⟨.mk HB3.out, ?_⟩
                  iterate 5 (refine mix_read (by kernel_rfl) (by rfl) (by rfl) (by rfl) (of_decide_eq_true (by kernel_rfl)) ?_; apply Exists.intro; apply Exists.intro; refine ⟨fun w' hw' K hK => ?_, ?_, ?_⟩; (obtain ⟨X, rfl⟩ := hw'; go_wp2_with fail; first | exact ⟨rfl, rfl⟩ | exact rfl); rfl)
                  iterate 11 (refine mix_skip (by kernel_rfl) ?_; simp only [Act.put, List.setIfInBounds_toArray, List.set_cons_succ, List.set_cons_zero])
                  iterate 2 (refine mix_read (by kernel_rfl) (by rfl) (by rfl) (by rfl) (of_decide_eq_true (by kernel_rfl)) ?_; apply Exists.intro; apply Exists.intro; refine ⟨fun w' hw' K hK => ?_, ?_, ?_⟩; (obtain ⟨X, rfl⟩ := hw'; go_wp2_with fail; first | exact ⟨rfl, rfl⟩ | exact rfl); rfl)
                  refine mix_nil ?_
                  go_wp2_with fail
                  go_roundw
                  case rel => exact ⟨p + 1, by omega, by go_num, HI.out.2.1.trans (HB3.out.mono HI.out.2.1.size)⟩
                  case measure => simp [intOf]; omega
                · have hp1 : 1 ≤ p := by omega
                  have hpz : decide (0 < p) = true := by simp; omega
                  have hqL : p - 1 < (mSorted sh).length := by omega
                  have hup := sorted_up sh ⟨p - 1, by omega⟩ (by simp; omega)
                  have c2 : wr.cell? ⟨g, p - 1, none⟩ = some (.int .i64 (((mSorted sh)[p - 1]'hqL).val : Int)) := by
                    rw [hbp.cell (p := ⟨g, p - 1, none⟩) hg, H1.out.2.cellAt (p - 1) (by omega), List.getElem?_map, List.getElem?_eq_getElem hqL]; rfl
                  have hup' : sturd (((mSorted sh)[p - 1]'hqL).val : Int) (((mSorted sh)[p]'hpL).val : Int) = true := by
                    have he : p - 1 + 1 = p := by omega
                    simp only [he] at hup
                    exact hup
                  have HI := Lib.hid (And.intro hi (And.intro hbp hup'))
                  clear hi hbp hup hup' hp0
                  generalize ((mSorted sh)[p]'hpL).val = m at *
                  generalize ((mSorted sh)[p - 1]'hqL).val = m' at *
                  go_wp2_with fail
                  refine wp_region_sub [6, 21] (fun W => Below wr.heap.size wr W) (by kernel_rfl) (by kernel_rfl) ((Below.refl _ _).drew) (fun _ => ?_)
                  iterate 6 (refine mix_read (by kernel_rfl) (by rfl) (by rfl) (by rfl) (of_decide_eq_true (by kernel_rfl)) ?_; apply Exists.intro; apply Exists.intro; refine ⟨fun w' hw' K hK => ?_, ?_, ?_⟩; (obtain ⟨X, rfl⟩ := hw'; go_wp2_with fail; first | exact ⟨rfl, rfl⟩ | exact rfl); rfl)
                  (refine mix_act (by rfl) (by rfl) (fun K hK => ?_))
                  go_wp2_with fail
                  refine (Is_any (m : Int) sh false _).mono ?_
                  rintro e w2 ⟨rfl, hb2⟩
                  rw [HI.out.1]
                  have hb3 : Below wr.heap.size wr w2 := Below.drewl hb2
                  have HB3 := Lib.hid hb3
                  clear hb2 hb3
                  go_wp2_with fail
                  refine ⟨.mk HB3.out, ?_⟩
                  iterate 14 (refine mix_read (by kernel_rfl) (by rfl) (by rfl) (by rfl) (of_decide_eq_true (by kernel_rfl)) ?_; apply Exists.intro; apply Exists.intro; refine ⟨fun w' hw' K hK => ?_, ?_, ?_⟩; (obtain ⟨X, rfl⟩ := hw'; go_wp2_with fail; first | exact ⟨rfl, rfl⟩ | exact rfl); rfl)
                  (refine mix_act (by rfl) (by rfl) (fun K hK => ?_))
                  go_wp2_with fail
                  refine (Sturdier_any (m' : Int) (m : Int) _).mono ?_
                  rintro e w3 ⟨rfl, hb2⟩
                  rw [HI.out.2.2]
                  have hb3 : Below wr.heap.size wr w3 := HB3.out.trans (hb2.mono HB3.out.size)
                  have HB4 := Lib.hid hb3
                  clear hb2 hb3
                  go_wp2_with fail
                  refine ⟨.mk HB4.out, ?_⟩
                  iterate 3 (refine mix_read (by kernel_rfl) (by rfl) (by rfl) (by rfl) (of_decide_eq_true (by kernel_rfl)) ?_; apply Exists.intro; apply Exists.intro; refine ⟨fun w' hw' K hK => ?_, ?_, ?_⟩; (obtain ⟨X, rfl⟩ := hw'; go_wp2_with fail; first | exact ⟨rfl, rfl⟩ | exact rfl); rfl)
                  refine mix_nil ?_
                  go_wp2_with fail
                  go_roundw
                  case rel => exact ⟨p + 1, by omega, by go_num, HI.out.2.1.trans (HB4.out.mono HI.out.2.1.size)⟩
                  case measure => simp [intOf]; omega
              · have hp' : ¬ p < L := hpl
                have HP := Lib.hid (H1.out.1.trans (hbp.mono H1.out.1.size))
                clear hbp
                go_wp2_with fail
                go_roundw
                case rel => exact ⟨k + 1, by omega, by go_num, HP.out⟩
                case measure => simp [intOf]; omega
      · obtain rfl : k = 2 := by omega
        have HR := Lib.hid hbr
        clear hbr
        go_wp2_with fail
        refine (works_any _).mono ?_
        rintro e w2 ⟨rfl, hb2⟩
        have HR2 := Lib.hid (HR.out.trans (hb2.mono HR.out.size))
        clear hb2
        go_wp2_with fail
        go_ret
        exact ⟨rfl, HR2.out⟩

theorem ModcodOrder_walk (v0 v1 v2 : Value) (W : World) (c0 : Came Try.prog W 3 v0) (c1 : Came Try.prog W 3 v1) (c2 : Came Try.prog W 3 v2) :
    Calls Try.prog 6 #[v0, v1, v2] W fun e w' => e = .returned (.bool true) ∧ Below W.heap.size W w' := by
  obtain ⟨a, rfl, ha⟩ := c0.int Try.underlying3
  obtain ⟨b, rfl, hb⟩ := c1.int Try.underlying3
  obtain ⟨c, rfl, hc⟩ := c2.int Try.underlying3
  simp [Lit.wf, IntKind.min, IntKind.max, IntKind.signed, IntKind.bits] at ha hb hc
  exact ModcodOrder_any a b c W (by omega) (by omega) (by omega)

end Go.Proofs.Ytmiobfnjegdhdaa
