import Derived.Test.YtnhbcpopnhdhiaaDrvD
set_option linter.unusedSimpArgs false
set_option linter.unusedVariables false
namespace Go.Proofs.Ytnhbcpopnhdhiaa
open Go.RowKit

theorem ite_max (a b : Int) : (if a < b then b else a) = max a b := by omega
theorem ite_min (a b : Int) : (if b < a then b else a) = min a b := by omega

theorem modesOf_any (zs : List Int) (m : Nat) (h : 1 ≤ m ∧ m ≤ 28) : (modesOf zs).any (·.1 == m) = zs.any (· == (m : Int)) := by
  induction zs with
  | nil => rfl
  | cons z zs ih =>
    have e : modesOf (z :: zs) = modesOf [z] ++ modesOf zs := by unfold modesOf; rw [← List.filterMap_append]; rfl
    rw [e, List.any_append, List.any_cons, ih]
    congr 1
    by_cases hz : 1 ≤ z ∧ z ≤ 28
    · have e2 := modesOf_snoc_yes [] z hz
      simp only [List.nil_append] at e2
      rw [e2]
      by_cases he : z = m
      · subst he; simp [modesOf]
      · have : ¬ z.toNat = m := by omega
        simp [modesOf]
        rw [beq_eq_false_iff_ne.2 this, beq_eq_false_iff_ne.2 he]
    · have e2 := modesOf_snoc_no [] z hz
      simp only [List.nil_append] at e2
      rw [e2]
      have : (z == (m : Int)) = false := by simpa using (by omega : ¬ z = (m : Int))
      rw [this]; rfl

theorem modesOf_nil (zs : List Int) : modesOf zs = [] ↔ ∀ m : Nat, 1 ≤ m → m ≤ 28 → zs.any (· == (m : Int)) = false := by
  constructor
  · intro h m h1 h2
    rw [← modesOf_any zs m ⟨h1, h2⟩, h]; rfl
  · intro h
    cases hl : modesOf zs with
    | nil => rfl
    | cons x l =>
      have := h x.1 x.2.1 x.2.2
      rw [← modesOf_any zs x.1 x.2, hl] at this
      simp at this

/-- What the reference's Next leaves. -/
def RNextPost (q : Int) (df : Nat → Int) (pt : Nat) (fed : Bool) (zs : List Int) (cost weight : Nat → Int) (b : Nat) (w : World) (e : Ending) (w' : World) : Prop :=
  Below w.heap.size w w' ∧
  ((modesOf zs = [] ∧ e = .returned (.tuple #[.int .i64 0, .pointer (some ⟨b, 0, none⟩)])) ∨
   (modesOf zs ≠ [] ∧ ∃ bx df' pt' fed', NextR q (wants zs) cost weight df pt fed (df', pt', fed') ∧ Dok df' ∧ (1 ≤ pt' ∧ pt' ≤ 28) ∧
      e = .returned (.tuple #[.int .i64 (pt' : Int), .pointer (some ⟨bx, 0, none⟩)]) ∧ w.heap.size ≤ bx ∧ Blk w' bx 41 (dCells q df' pt' fed')))

attribute [local go_sem] ite_max ite_min

set_option maxRecDepth 100000 in
set_option maxHeartbeats 2000000 in
theorem rnext_any (b : Nat) (w : World) (q : Int) (df : Nat → Int) (pt : Nat) (fed : Bool) (hp : 1 ≤ pt ∧ pt ≤ 28) (hq : 1000 ≤ q ∧ q ≤ 1000000) (hdf : Dok df) (hB : Blk w b 41 (dCells q df pt fed))
    (A : Option Addr) (len cap : Nat) (zs : List Int) (hlen : zs.length = len) (hm : len ≤ 9223372036854775807) (hR : Rd w w.heap.size A (zs.map (Value.int .i64)))
    (cost weight : Nat → Int) :
    Calls Try.prog 32 #[.pointer (some ⟨b, 0, none⟩), .slice A len cap, .agg (iCells cost), .agg (iCells weight)] w (RNextPost q df pt fed zs cost weight b w) := by
  have hic := iCells_at cost
  have hiw := iCells_at weight
  have hlb := hB.lt
  have HB := Lib.hid hB
  clear hB
  generalize hvc : iCells cost = vc at *
  generalize hvw : iCells weight = vw at *
  clear hvc hvw
  go_enter Try.func32, Try.ntmps32
  go_wp2_with fail
  generalize hW0 : World.alloc _ _ = W0
  have hsz0 : W0.heap.size = w.heap.size + 2 := by rw [← hW0]; simp
  have hb0 : Below w.heap.size w W0 := by rw [← hW0]; exact ((Below.refl _ _).alloc (Nat.le_refl _) _).alloc (by simp) _
  have hk0 : Blk W0 w.heap.size 38 vc := by rw [← hW0]; exact (Blk.new _ _ _).alloc _
  have hk1 : Blk W0 (w.heap.size + 1) 38 vw := by rw [← hW0]; exact (Blk.new (w.alloc _) _ _).same_g (by simp)
  clear hW0
  have hR0 := hR.below hb0
  go_loop [10, 11] (fun s i => ∃ m : Nat, 1 ≤ m ∧ m ≤ 29 ∧ i = .int .i64 m ∧ ∃ sb, s = .bool sb ∧ (sb = true ↔ ∃ k : Nat, 1 ≤ k ∧ k < m ∧ zs.any (· == (k : Int)) = true)) (fun _ i => 29 - (intOf i).toNat)
  case atStart => exact ⟨1, by omega, by omega, rfl, false, rfl, by simp; omega⟩
  case round =>
    obtain ⟨m, hm1, hm2, rfl, sb, rfl, hs⟩ := hrel
    have HS := Lib.hid hs
    clear hs
    by_cases hlt : m ≤ 28
    · cases sb with
      | true =>
        go_wp2_with fail
        go_round
        case rel =>
          refine ⟨m + 1, by omega, by omega, by go_num, true, rfl, ?_⟩
          obtain ⟨k, h1, h2, h3⟩ := HS.out.1 rfl
          simp only [true_iff]
          exact ⟨k, h1, by omega, h3⟩
        case measure => simp [intOf]; omega
      | false =>
        go_wp2_with fail
        refine (wanted_any A len cap zs hlen _ _ _ hm hR0).mono ?_
        rintro e w' ⟨rfl, rfl⟩
        cases hany : zs.any (· == (m : Int)) with
        | true =>
          have HA := Lib.hid hany
          clear hany
          go_wp2_with fail
          go_round
          case rel => exact ⟨m + 1, by omega, by omega, by go_num, true, rfl, by simp only [true_iff]; exact ⟨m, hm1, by omega, HA.out⟩⟩
          case measure => simp [intOf]; omega
        | false =>
          have HA := Lib.hid hany
          clear hany
          go_wp2_with fail
          go_round
          case rel =>
            refine ⟨m + 1, by omega, by omega, by go_num, false, rfl, ?_⟩
            simp only [Bool.false_eq_true, false_iff]
            rintro ⟨k, h1, h2, h3⟩
            by_cases he : k = m
            · subst he; rw [HA.out] at h3; cases h3
            · exact absurd (HS.out.2 ⟨k, h1, by omega, h3⟩) (by simp)
          case measure => simp [intOf]; omega
    · obtain rfl : m = 29 := by omega
      cases sb with
      | false =>
        go_wp2_with fail
        go_ret2
        refine ⟨hb0, .inl ⟨?_, rfl⟩⟩
        rw [modesOf_nil]
        intro m h1 h2
        cases ha : zs.any (· == (m : Int)) with
        | false => rfl
        | true => exact absurd (HS.out.2 ⟨m, h1, by omega, ha⟩) (by simp)
      | true =>
        obtain ⟨m0, hm01, hm02, hm0⟩ := HS.out.1 rfl
        have hkb : Blk W0 b 41 (dCells q df pt fed) := HB.out.below hb0 hlb
        have HM := Lib.hid hm0
        have HZ : Hid (modesOf zs ≠ []) := Lib.hid (fun h => by rw [(modesOf_nil zs).1 h m0 hm01 (by omega)] at hm0; cases hm0)
        have hl0 : b < W0.heap.size := hkb.lt
        have HB0 := Lib.hid hb0
        have H0 := Lib.hid hsz0
        clear hm0 HS hR hb0 hsz0
        go_wp2_with (first
          | (refine wpList_load_row rfl 41 (.tmp 29) rfl b rfl 41 (dCells q df pt fed) (0, 0) _ hkb Try.underlying41 rfl (by rw [dCells_size]; kernel_rfl) ?_)
          | (refine wpList_store_row rfl 41 (.tmp 12) (.tmp 30) rfl _ (dCells q df pt fed) rfl rfl 41 _ (Blk.new _ _ _) (by rw [dCells_size]; kernel_rfl) (by rw [dCells_size]; rfl) (dCells_one ..) ?_))
        have hx1 : Blk ((W0.alloc (.cells (dCells 0 (fun _ => 0) 0 false) 41)).setRow W0.heap.size (dCells q df pt fed)) W0.heap.size 41 (dCells q df pt fed) := by
          rw [World.setRow_alloc_new]; exact Blk.new _ _ _
        have hbw : Below W0.heap.size W0 ((W0.alloc (.cells (dCells 0 (fun _ => 0) 0 false) 41)).setRow W0.heap.size (dCells q df pt fed)) := by
          rw [World.setRow_alloc_new]; exact (Below.refl _ _).alloc (Nat.le_refl _) _
        generalize hW1 : World.setRow _ _ _ = W1
        have hx1' : Blk W1 W0.heap.size 41 (dCells q df pt fed) := by rw [← hW1]; exact hx1
        have hbw' : Below W0.heap.size W0 W1 := by rw [← hW1]; exact hbw
        clear hx1 hbw hW1 hkb
        go_loopg [13] (muR m0 df pt fed) (fun g s13 wr => ∃ df' pt' fed', muR m0 df' pt' fed' ≤ g ∧ Below W0.heap.size W0 wr ∧ Blk wr W0.heap.size 41 (dCells q df' pt' fed') ∧ Dok df' ∧ (1 ≤ pt' ∧ pt' ≤ 28) ∧
          (∀ r, NextR q (wants zs) cost weight df' pt' fed' r → NextR q (wants zs) cost weight df pt fed r))
        case atStart => exact ⟨df, pt, fed, Nat.le_refl _, hbw', hx1', hdf, hp, fun _ h => h⟩
        case round =>
          obtain ⟨df', pt', fed', hg, hbr, hxr, hdr, hpr, hnr⟩ := hrel
          have HN := Lib.hid hnr
          have HW := Lib.hid hxr
          have HR := Lib.hid hbr
          obtain ⟨hp1, hp2⟩ := hpr
          have hRr := hR0.below (hbr.mono (by have := H0.out; omega))
          have c0 := (hxr.cell 0).trans (dCells_q ..)
          have c1 := (hxr.cell (1 + pt')).trans (dCells_df _ _ _ _ _ (by omega))
          have c30 := (hxr.cell 30).trans (dCells_at ..)
          have c31 := (hxr.cell 31).trans (dCells_fed ..)
          have cf := hxr.frozen
          have ck0 := ((hk0.below hbr hk0.lt).cell pt').trans (hic pt' (by omega))
          have ck1 := ((hk1.below hbr hk1.lt).cell pt').trans (hiw pt' (by omega))
          have hlr : W0.heap.size < wr.heap.size := hxr.lt
          have hdp := hdr pt'
          obtain ⟨hd1, hd2⟩ := hdp
          have hpr1 : 1 ≤ min (max (cost pt') 1) 40000 ∧ min (max (cost pt') 1) 40000 ≤ 40000 := by omega
          have hwv1 : 1 ≤ min (max (weight pt') 1) 8 ∧ min (max (weight pt') 1) 8 ≤ 8 := by omega
          have hpt : (pt' : Int) % 28 = ((pt' % 28 : Nat) : Int) := by omega
          have HD := Lib.hid hdr
          have HQ := Lib.hid hpt
          clear hnr hxr hbr hdr hpt hic hiw hk0 hk1 hR0
          go_wp2_with fail
          refine (wanted_any A len cap zs hlen _ _ _ hm hRr).mono ?_
          rintro e w' ⟨rfl, rfl⟩
          generalize hP : min (max (cost pt') 1) 40000 = price at *
          generalize hV : min (max (weight pt') 1) 8 = wv at *
          have hmul : 0 ≤ q * wv ∧ q * wv ≤ 8000000 := by
            refine ⟨Int.mul_nonneg (by omega) (by omega), ?_⟩
            have : q * wv ≤ 1000000 * wv := Int.mul_le_mul_of_nonneg_right hq.2 (by omega)
            omega
          have HP : Hid (within (cost pt') 40000 = price) := Lib.hid hP
          have HV : Hid (within (weight pt') 8 = wv) := Lib.hid hV
          clear hP hV
          cases hany : zs.any (· == (pt' : Int)) with
          | true =>
            have hwt : wants zs pt' = true := (modesOf_any zs pt' ⟨hp1, hp2⟩).trans hany
            have HA := Lib.hid hany
            have HWT := Lib.hid hwt
            clear hany hwt
            by_cases hlt : df' pt' < price
            · go_wp2_with fail
              refine (wanted_any A len cap zs hlen _ _ _ hm hRr).mono ?_
              rintro e w' ⟨rfl, rfl⟩
              rw [HA.out]
              cases fed' with
              | false =>
                go_wp2_with fail
                refine wp_region_sub [14] (fun W => Below wr.heap.size wr W) (by kernel_rfl) (by kernel_rfl) ((Below.refl _ _).drew) (fun _ => ?_)
                iterate 14 (refine mix_read (by kernel_rfl) (by rfl) (by rfl) (by rfl) (of_decide_eq_true (by kernel_rfl)) ?_; apply Exists.intro; apply Exists.intro; refine ⟨fun w' hw' K hK => ?_, ?_, ?_⟩; (obtain ⟨X, rfl⟩ := hw'; go_wp2_with fail; first | exact ⟨rfl, rfl⟩ | exact rfl); rfl)
                (refine mix_last (by rfl) (by rfl) (by kernel_rfl) (fun K hK => ?_))
                go_wp2_with fail
                obtain ⟨hb, hx⟩ := And.intro HR.out HW.out
                go_roundg (muR m0 (upd df' pt' (df' pt' + q * wv)) pt' true)
                case measure =>
                  have := muR_feed (m0 := m0) (df := df') (pt := pt') (q := q) (cost := cost) (weight := weight) hq.1 (by rw [HP.out]; exact hlt)
                  rw [HV.out] at this
                  exact Nat.lt_of_lt_of_le this hg
                case rel =>
                  refine ⟨upd df' pt' (df' pt' + q * wv), pt', true, Nat.le_refl _, ?_, ?_, ?_, ⟨hp1, hp2⟩, fun r hr => HN.out r (NextR.feed HWT.out (by rw [HP.out]; exact hlt) (by rw [HV.out]; exact hr))⟩
                  · exact (hb.drew.setCell (p := ⟨W0.heap.size, 1 + pt', none⟩) (Nat.le_refl _) _).setCell (p := ⟨W0.heap.size, 31, none⟩) (Nat.le_refl _) _
                  · refine ((hx.drew.set_ _ _).set_ _ _).same ?_
                    rw [dCells_set_df _ _ _ _ _ (by omega), dCells_set_fed]
                  · intro m
                    have := HD.out m
                    simp only [upd]; split <;> omega
              | true =>
                go_wp2_with fail
                refine (wanted_any A len cap zs hlen _ _ _ hm hRr).mono ?_
                rintro e w' ⟨rfl, rfl⟩
                rw [HA.out]
                go_wp2_with fail
                go_roundg (muR m0 df' (pt' % 28 + 1) false)
                case measure => exact Nat.lt_of_lt_of_le (muR_on (by omega) ⟨hp1, hp2⟩ (.inl rfl) rfl) hg
                case rel =>
                  have ht := turnD_was (q := q) (weight := weight) HWT.out HP.out hlt
                  refine ⟨df', pt' % 28 + 1, false, Nat.le_refl _, ?_, ?_, HD.out, by omega, fun r hr => HN.out r (NextR.on (by rw [ht]) (by rw [ht, upd_self]; exact hr))⟩
                  · exact (HR.out.setCell (p := ⟨W0.heap.size, 30, none⟩) (Nat.le_refl _) _).setCell (p := ⟨W0.heap.size, 31, none⟩) (Nat.le_refl _) _
                  · refine ((HW.out.set_ _ _).set_ _ _).same ?_
                    rw [show ((pt' : Int) % 28 + 1) = ((pt' % 28 + 1 : Nat) : Int) by omega, dCells_set_at, dCells_set_fed]
            · go_wp2_with fail
              refine wp_region_sub [11] (fun W => Below wr.heap.size wr W) (by kernel_rfl) (by kernel_rfl) ((Below.refl _ _).drew) (fun _ => ?_)
              iterate 11 (refine mix_read (by kernel_rfl) (by rfl) (by rfl) (by rfl) (of_decide_eq_true (by kernel_rfl)) ?_; apply Exists.intro; apply Exists.intro; refine ⟨fun w' hw' K hK => ?_, ?_, ?_⟩; (obtain ⟨X, rfl⟩ := hw'; go_wp2_with fail; first | exact ⟨rfl, rfl⟩ | exact rfl); rfl)
              (refine mix_last (by rfl) (by rfl) (by kernel_rfl) (fun K hK => ?_))
              go_wp2_with fail
              go_ret2
              have ht := turnD_has (q := q) (weight := weight) (fed := fed') HWT.out HP.out (by omega)
              have hH0 := H0.out
              refine ⟨?_, .inr ⟨HZ.out, W0.heap.size, upd df' pt' (df' pt' - price), pt', fed', ?_, ?_, ⟨hp1, hp2⟩, rfl, by omega, ?_⟩⟩
              · exact HB0.out.trans ((HR.out.drew.setCell (p := ⟨W0.heap.size, 1 + pt', none⟩) (Nat.le_refl _) _).mono (by omega))
              · have h1 := NextR.stop (q := q) (wanted := wants zs) (cost := cost) (weight := weight) (df := df') (pt := pt') (fed := fed') (by rw [ht])
                rw [ht] at h1
                exact HN.out _ h1
              · intro m
                have := HD.out m
                simp only [upd]; split <;> omega
              · refine (HW.out.drew.set_ _ _).same ?_
                rw [dCells_set_df _ _ _ _ _ (by omega)]
          | false =>
            have hwt : wants zs pt' = false := (modesOf_any zs pt' ⟨hp1, hp2⟩).trans hany
            have HA := Lib.hid hany
            have HWT := Lib.hid hwt
            clear hany hwt
            go_wp2_with fail
            refine (wanted_any A len cap zs hlen _ _ _ hm hRr).mono ?_
            rintro e w' ⟨rfl, rfl⟩
            rw [HA.out]
            go_wp2_with fail
            refine (wanted_any A len cap zs hlen _ _ _ hm hRr).mono ?_
            rintro e w' ⟨rfl, rfl⟩
            rw [HA.out]
            go_wp2_with fail
            have hne : pt' ≠ m0 := by rintro rfl; have := HM.out; rw [HA.out] at this; cases this
            have ht : turnD q df' pt' fed' (wants zs) cost weight = (false, upd df' pt' 0, fed') := by simp [turnD, HWT.out]
            go_roundg (muR m0 (upd df' pt' 0) (pt' % 28 + 1) false)
            case measure => exact Nat.lt_of_lt_of_le (muR_on (by omega) ⟨hp1, hp2⟩ (.inr hne) (by simp [upd, Ne.symm hne])) hg
            case rel =>
              refine ⟨upd df' pt' 0, pt' % 28 + 1, false, Nat.le_refl _, ?_, ?_, ?_, by omega, fun r hr => HN.out r (NextR.on (by rw [ht]) (by rw [ht]; exact hr))⟩
              · exact ((HR.out.setCell (p := ⟨W0.heap.size, 1 + pt', none⟩) (Nat.le_refl _) _).setCell (p := ⟨W0.heap.size, 30, none⟩) (Nat.le_refl _) _).setCell (p := ⟨W0.heap.size, 31, none⟩) (Nat.le_refl _) _
              · refine (((HW.out.set_ _ _).set_ _ _).set_ _ _).same ?_
                rw [dCells_set_df _ _ _ _ _ (by omega), show ((pt' : Int) % 28 + 1) = ((pt' % 28 + 1 : Nat) : Int) by omega, dCells_set_at, dCells_set_fed]
              · intro m
                have := HD.out m
                simp only [upd]; split <;> omega

end Go.Proofs.Ytnhbcpopnhdhiaa
