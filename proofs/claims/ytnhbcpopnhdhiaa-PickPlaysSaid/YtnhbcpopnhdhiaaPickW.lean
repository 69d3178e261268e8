/- The reference's Pick. -/
import Derived.Test.YtnhbcpopnhdhiaaPickV
set_option linter.unusedSimpArgs false
set_option linter.unusedVariables false
namespace Go.Proofs.Ytnhbcpopnhdhiaa
open Go.RowKit Go.Shelf
attribute [local irreducible] wpMix

theorem ask_voice : askR 0 1 = fun c : Cv => c.2.2.1 := by funext c; simp [askR]
theorem ask_old : askR 0 2 = fun c : Cv => c.2.2.2 := by funext c; simp [askR]
theorem ask_mode {m : Int} (h : 1 ≤ m) : askR m 0 = fun c : Cv => c.2.1 == m := by
  funext c
  have : decide (0 < m) = true := decide_eq_true (by omega)
  simp [askR, this]

/-- The modes that the reference asks for. -/
def modesL (l : List Cv) : List Int := (l.filter fun c => decide (0 < c.1)).map (·.2.1)
theorem modesL_snoc (l : List Cv) (x : Cv) : modesL (l ++ [x]) = modesL l ++ if 0 < x.1 then [x.2.1] else [] := by
  unfold modesL
  rw [List.filter_append, List.map_append]
  congr 1
  by_cases h : 0 < x.1 <;> simp [h]
theorem modes_alike (l : List Cv) : modesOf (modesL l) = modesOf (wantL l) := by
  induction l with
  | nil => rfl
  | cons x l ih =>
    have e : ∀ (a : Int) (zs : List Int), modesOf (a :: zs) = modesOf [a] ++ modesOf zs := fun a zs => by unfold modesOf; rw [← List.filterMap_append]; rfl
    unfold modesL wantL at ih ⊢
    rw [List.filter_cons, List.filter_cons]
    by_cases h0 : 0 < x.1
    · rw [if_pos (decide_eq_true h0), List.map_cons, e, ih]
      by_cases hc : countsF x = true
      · rw [if_pos hc, List.map_cons, e x.2.1 (List.map (fun x => x.2.1) (List.filter countsF l))]
      · rw [if_neg hc]
        have : ¬ (1 ≤ x.2.1 ∧ x.2.1 ≤ 28) := fun h => hc (decide_eq_true ⟨h0, h⟩)
        have e0 : modesOf [x.2.1] = [] := by unfold modesOf; rw [List.filterMap_cons, dif_neg this]; rfl
        rw [e0, List.nil_append]
    · rw [if_neg (by simpa using h0), ih, if_neg (fun hc => h0 (of_decide_eq_true hc).1)]
theorem wants_alike (l : List Cv) : wants (modesL l) = wants (wantL l) := by funext m; unfold wants; rw [modes_alike]

theorem int_info2 : (Try.prog.info? 3).map (fun i => (i.zero, i.size, i.bytes)) = some (some (.int .i64 0), 1, 8) := by kernel_rfl

set_option maxRecDepth 100000 in
set_option maxHeartbeats 8000000 in
theorem rpick_any (A : Option Addr) (cap : Nat) (l : List Cv) (last : Int) (b : Nat) (q : Int) (s : St) (cost weight : Nat → Int) (w : World) (hcap : l.length ≤ cap ∧ cap ≤ maxLen) (hl : SlAt w 4 (.slice A l.length cap) l.length (l.flatMap cC)) (hnn : ∀ c ∈ l, 0 ≤ c.1)
    (hn : l.length ≤ 1000) (hq : 1000 ≤ q ∧ q ≤ 1000000) (hs : Sok s) (hB : Blk w b 41 (dCells q s.1 s.2.1 s.2.2)) :
    Calls Try.prog 12 #[.slice A l.length cap, .int .i64 last, .pointer (some ⟨b, 0, none⟩), .agg (iCells cost), .agg (iCells weight)] w fun e w' => Below w.heap.size w w' ∧ ∃ pick no mode bx s', e = .returned (.agg (chA pick no mode (some ⟨bx, 0, none⟩))) ∧
      PickS q cost weight l last s pick no mode s' ∧ Sok s' ∧ Blk w' bx 41 (dCells q s'.1 s'.2.1 s'.2.2) := by
  obtain ⟨hcl, hcm⟩ := hcap
  have HL := Lib.hid (And.intro hl (And.intro hnn (And.intro hq (And.intro hs (And.intro hB (show cap ≤ maxLen from hcm))))))
  unfold maxLen at hcm
  clear hl hnn hq hs hB
  have hcs : (iCells cost).size = 29 := iCells_size _
  have hws : (iCells weight).size = 29 := iCells_size _
  have hc1 : (iCells cost).all (·.oneCell') = true := iCells_one _
  have hw1 : (iCells weight).all (·.oneCell') = true := iCells_one _
  generalize hvc : iCells cost = vc at *
  generalize hvw : iCells weight = vw at *
  have HV := Lib.hid (And.intro hvc hvw)
  clear hvc hvw
  go_enter Try.func12, Try.ntmps12
  go_upto_region 1 with fail
  have hb0 : Below w.heap.size w (((w.alloc (.cells vc 38)).alloc (.cells vw 38)).alloc (.cells #[.int .i64 0, .int .u64 0, .int .i64 0, .pointer none] 36)) := (((Below.refl _ _).alloc (Nat.le_refl _) _).alloc (by simp) _).alloc (by simp; omega) _
  have k0 := ((Blk.new w 38 vc).alloc (.cells vw 38)).alloc (.cells #[.int .i64 0, .int .u64 0, .int .i64 0, .pointer none] 36)
  have k1 := (Blk.new (w.alloc (.cells vc 38)) 38 vw).alloc (.cells #[.int .i64 0, .int .u64 0, .int .i64 0, .pointer none] 36)
  have k2 := Blk.new ((w.alloc (.cells vc 38)).alloc (.cells vw 38)) 36 #[.int .i64 0, .int .u64 0, .int .i64 0, .pointer none]
  simp only [World.size_alloc] at k1 k2
  generalize World.alloc _ _ = W0 at hb0 k0 k1 k2 ⊢
  obtain ⟨h1, hh1⟩ : ∃ h1, h1 = w.heap.size + 1 := ⟨_, rfl⟩
  obtain ⟨h2, hh2⟩ : ∃ h2, h2 = w.heap.size + 1 + 1 := ⟨_, rfl⟩
  rw [← hh2] at k2
  rw [← hh1] at k1
  rw [← hh2, ← hh1]
  have hg2 : w.heap.size ≤ h2 := by omega
  have HZ := Lib.hid (And.intro hb0 (And.intro k0 (And.intro k1 k2)))
  clear hb0 k0 k1 k2 hh1 hh2
  go_wp2_with fail
  refine (rfirst_any A cap l 0 1 W0 ⟨hcl, HL.out.2.2.2.2.2⟩ (HL.out.1.below HZ.out.1) HL.out.2.1).mono ?_
  rintro e w1 ⟨hb1, r1, rfl, hat1⟩
  rw [ask_voice] at hat1
  have HA := Lib.hid (And.intro hb1 hat1)
  clear hb1 hat1
  go_wp2_with fail
  refine (rfirst_any A cap l 0 2 w1 ⟨hcl, HL.out.2.2.2.2.2⟩ ((HL.out.1.below HZ.out.1).below HA.out.1) HL.out.2.1).mono ?_
  rintro e w2 ⟨hb2, r2, rfl, hat2⟩
  rw [ask_old] at hat2
  have hb02 := HA.out.1.trans (hb2.mono HA.out.1.size)
  have z2 := HZ.out.2.2.2.below hb02 HZ.out.2.2.2.lt
  have HB := Lib.hid (And.intro (HZ.out.1.trans (hb02.mono HZ.out.1.size)) (And.intro (HZ.out.2.1.below hb02 HZ.out.2.1.lt) (And.intro (HZ.out.2.2.1.below hb02 HZ.out.2.2.1.lt) z2)))
  have hz2 := z2.lt
  have hat1 := HA.out.2
  clear hb2 hb02 z2 HA HZ
  have hv1 : (voiceOf l = none ∧ r1 = -1) ∨ ∃ (i : Nat) (c : Cv), r1 = i ∧ l[i]? = some c ∧ voiceOf l = some c := hat1
  have hv2 : (oldOf l = none ∧ r2 = -1) ∨ ∃ (i : Nat) (c : Cv), r2 = i ∧ l[i]? = some c ∧ oldOf l = some c := hat2
  clear hat1 hat2
  have HBD := HB.out.1.size
  rcases hv1 with ⟨hvn, rfl⟩ | ⟨i, c, rfl, hi, hvs⟩
  · rcases hv2 with ⟨hon, rfl⟩ | ⟨i, c, rfl, hi, hos⟩
    · -- nobody is voice, nobody old
      have HO := Lib.hid (And.intro hvn hon)
      clear hvn hon
      go_wp2_with fail
      go_loopg [13, 14] l.length (fun gk zv i wr => ∃ (k : Nat) (zs : List Int), k ≤ l.length ∧ l.length - k = gk ∧ i = .int .i64 (k : Nat) ∧ zs = modesL (l.take k) ∧ Below w2.heap.size w2 wr ∧ OwnsAt wr w2.heap.size 3 1 zv zs.length (zs.map (Value.int .i64)))
      case atStart => exact ⟨0, [], by omega, rfl, rfl, by simp [modesL], Below.refl _ _, OwnsAt.nil _ _ _ _⟩
      case round =>
        obtain ⟨k, zs, hk, rfl, rfl, hzs, hb, ho⟩ := hrel
        have hzl : zs.length ≤ 1000000 := by rw [hzs, modesL, List.length_map]; exact Nat.le_trans (List.length_filter_le _ _) (by simp; omega)
        obtain ⟨A2, cap2, rfl, hc2⟩ := ho.len
        have hle := hb.size
        have HK := Lib.hid (And.intro hzs (And.intro hb (And.intro ho hzl)))
        clear hzs hb ho hzl
        by_cases hlt : k < l.length
        · have hki : (k : Int) < (l.length : Int) := by omega
          obtain ⟨b1, o1, cap', he', hbl, _, _, hx⟩ := HL.out.1.some (by omega)
          cases he'
          obtain ⟨⟨n, m, vo, ol⟩, hp'⟩ : ∃ x, l[k]? = some x := ⟨_, List.getElem?_eq_getElem hlt⟩
          have hx' : ∀ j u, j < 4 → (cC (n, m, vo, ol))[j]? = some u → wr.cell? ⟨b1, o1 + (k * 4 + j), none⟩ = some u := fun j u hm hu =>
            (HK.out.2.1.cell (p := ⟨b1, _, none⟩) (Nat.lt_of_lt_of_le hbl HBD)).trans ((HB.out.1.cell (p := ⟨b1, _, none⟩) hbl).trans (hx _ _ (by rw [flat_at cC 4 cC_len _ _ _ hm, hp']; exact hu)))
          have e0 := hx' 0 _ (by omega) rfl
          have e1 := hx' 1 _ (by omega) rfl
          simp only [Nat.add_zero, ← Nat.add_assoc] at e0 e1
          have hst : modesL (l.take (k + 1)) = zs ++ if 0 < n then [m] else [] := by rw [List.take_add_one, hp', Option.toList_some, modesL_snoc, ← HK.out.1]
          have HST := Lib.hid hst
          have hzl := HK.out.2.2.2
          clear hx hx' hp' hst
          by_cases hn0 : 0 < n
          · have g0 : decide (0 < n) = true := decide_eq_true hn0
            have hs2 := HST.out
            rw [if_pos hn0] at hs2
            have HS2 := Lib.hid hs2
            clear hs2 HST
            go_wp2_with (first
              | (at_builtin; refine wpList_append_new rfl (.tmp 70) (.tmp 76) 58 rfl w2.heap.size 3 _ 1 8 int_info2 Try.underlying58 rfl (by decide) (by decide) _ _ _ rfl HK.out.2.2.1 #[.int .i64 m] _ rfl rfl rfl rfl hle hzl ?_; intro v' w3 ho3 hg3 hv3; obtain ⟨A3, cap3, rfl, hcap3⟩ := ho3.len; have H3 := Lib.hid (And.intro ho3 hg3); clear ho3 hg3 hv3 hcap3))
            go_roundg (l.length - (k + 1))
            case measure => omega
            case rel =>
              have hb3 : Below w2.heap.size wr w3 := grown_below H3.out.2 (fun j hj => (HK.out.2.2.1.lt j hj).1) hle
              refine ⟨k + 1, zs ++ [m], by omega, rfl, by go_num, HS2.out.symm, HK.out.2.1.trans hb3, ?_⟩
              rw [List.length_append, List.map_append]
              exact H3.out.1
          · have g0 : decide (0 < n) = false := decide_eq_false hn0
            have hs2 := HST.out
            rw [if_neg hn0, List.append_nil] at hs2
            have HS2 := Lib.hid hs2
            clear hs2 HST
            go_wp2_with fail
            go_roundg (l.length - (k + 1))
            case measure => omega
            case rel => exact ⟨k + 1, zs, by omega, rfl, by go_num, HS2.out.symm, HK.out.2.1, HK.out.2.2.1⟩
        · obtain rfl : k = l.length := by omega
          have hz := HK.out.1
          rw [List.take_length] at hz
          have HM := Lib.hid hz
          have x8 := HB.out.2.1.below HK.out.2.1 HB.out.2.1.lt
          have x9 := HB.out.2.2.1.below HK.out.2.1 HB.out.2.2.1.lt
          have x8l := x8.lt
          have x9l := x9.lt
          clear hz hlt
          go_wp2_with (first
            | (refine wpList_load_row rfl 38 (.tmp 8) rfl _ rfl 38 vc (0, 0) _ x8 Try.underlying38 rfl (by rw [hcs]; kernel_rfl) ?_)
            | (refine wpList_load_row rfl 38 (.tmp 9) rfl _ rfl 38 vw (0, 0) _ x9 Try.underlying38 rfl (by rw [hws]; kernel_rfl) ?_))
          have hbw : Below w.heap.size w wr := HB.out.1.trans (HK.out.2.1.mono HBD)
          have hBb := HL.out.2.2.2.2.1.below hbw HL.out.2.2.2.2.1.lt
          have hna := rnext_any b wr q s.1 s.2.1 s.2.2 HL.out.2.2.2.1.2 HL.out.2.2.1 HL.out.2.2.2.1.1 hBb A2 zs.length cap2 zs rfl (by have := HK.out.2.2.2; omega) (HK.out.2.2.1.sl.rd (by decide)) cost weight
          rw [HV.out.1, HV.out.2] at hna
          refine hna.mono ?_
          clear hna hBb
          rintro e w3 ⟨hb3, hor⟩
          have hbw3 := hbw.trans (hb3.mono hbw.size)
          have z3 := ((HB.out.2.2.2.below HK.out.2.1 HB.out.2.2.2.lt).below hb3 (HB.out.2.2.2.below HK.out.2.1 HB.out.2.2.2.lt).lt)
          have z3l := z3.lt
          have H3 := Lib.hid (And.intro hbw3 z3)
          clear hbw hbw3 z3 x8 x9
          rcases hor with ⟨hnil, rfl⟩ | ⟨hne, bx, df1, pt1, fed1, hN, hD, hP, rfl, hbx, hBx⟩
          · rw [HM.out, modes_alike] at hnil
            have HNil := Lib.hid hnil
            clear hnil
            go_wp2_with (first
              | (refine wpList_store_row rfl 36 (.tmp 10) (.tmp 89) rfl _ (chA 0 0 0 (some ⟨b, 0, none⟩)) rfl rfl 36 _ H3.out.2 (by kernel_rfl) rfl (by simp [chA, Value.oneCell']) ?_))
            refine bodyPost_ret (results_cell_row (by rfl) _ _ h2 36 (chA 0 0 0 (some ⟨b, 0, none⟩)) (0, 0) _ (by rfl) (H3.out.2.setRow _) Try.underlying36 rfl (by kernel_rfl)) rfl ?_
            refine ⟨Below_setRow H3.out.1 hg2 _, _, _, _, b, s, rfl, .inr (.inr (.inr ⟨by unfold voiceMay; rw [HO.out.1]; rfl, HO.out.2, HNil.out, rfl, rfl, rfl, rfl⟩)), HL.out.2.2.2.1, ?_⟩
            exact (HL.out.2.2.2.2.1.below H3.out.1 HL.out.2.2.2.2.1.lt).setRow_far (by have := HL.out.2.2.2.2.1.lt; omega) _
          · rw [HM.out, modes_alike] at hne
            rw [HM.out, wants_alike] at hN
            obtain ⟨c, hc⟩ := wants_mode hN.want
            dsimp only at hc
            obtain ⟨b0, o0, cap', he', hbl0, _, _, hx0⟩ := HL.out.1.some (List.length_pos_of_mem (someP_mem hc).1)
            cases he'
            have hp1 : ((pt1 : Int) == 0) = false := by rw [beq_eq_false_iff_ne]; omega
            have HN := Lib.hid (And.intro hne (And.intro hN (And.intro hD (And.intro hP (And.intro hBx hc)))))
            clear hne hN hD hBx hc
            go_wp2_with fail
            refine (rfirst_any (some ⟨b0, o0, none⟩) cap l (pt1 : Int) 0 w3 ⟨hcl, HL.out.2.2.2.2.2⟩ (HL.out.1.below H3.out.1) HL.out.2.1).mono ?_
            rintro e w4 ⟨hb4, r, rfl, hat⟩
            rw [ask_mode (by omega)] at hat
            have hv : ∃ (i : Nat), r = i ∧ l[i]? = some c := by
              rcases hat with ⟨h, _⟩ | ⟨i, c', h1, h2, h3⟩
              · have := HN.out.2.2.2.2.2; unfold modeOf at this; rw [h] at this; cases this
              · have := HN.out.2.2.2.2.2; unfold modeOf at this; rw [h3] at this; cases this; exact ⟨i, h1, h2⟩
            obtain ⟨i, rfl, hi⟩ := hv
            clear hat
            have hcm : c.2.1 = (pt1 : Int) := by have := (someP_mem HN.out.2.2.2.2.2).2.2.1; simpa using this
            have HCM := Lib.hid hcm
            have hil : i < l.length := (List.getElem?_eq_some_iff.1 hi).1
            have hii : (i : Int) < (l.length : Int) := by omega
            have hbw4 := H3.out.1.trans (hb4.mono H3.out.1.size)
            have e0 : w4.cell? ⟨b0, o0 + i * 4, none⟩ = some (.int .u64 c.1) := (hbw4.cell (p := ⟨b0, _, none⟩) hbl0).trans (hx0 _ _ (by
              have := flat_at cC 4 cC_len l i 0 (by decide)
              rw [Nat.add_zero] at this
              rw [this, hi]; rfl))
            have hbl4 : b0 < w4.heap.size := Nat.lt_of_lt_of_le hbl0 hbw4.size
            have z4 := H3.out.2.below hb4 z3l
            have H4 := Lib.hid (And.intro hbw4 (And.intro z4 (HN.out.2.2.2.2.1.below hb4 HN.out.2.2.2.2.1.lt)))
            have hbxn : h2 ≠ bx := by have := hbx; have := z3l; have := (HB.out.2.2.2.below HK.out.2.1 HB.out.2.2.2.lt).lt; omega
            clear hcm hi hbw4 z4 hb4
            go_wp2_with (first
              | (refine wpList_store_row rfl 36 (.tmp 10) (.tmp 99) rfl _ (chA 3 c.1 (pt1 : Int) (some ⟨bx, 0, none⟩)) rfl rfl 36 _ H4.out.2.1 (by kernel_rfl) rfl (by simp [chA, Value.oneCell']) ?_))
            refine bodyPost_ret (results_cell_row (by rfl) _ _ h2 36 (chA 3 c.1 (pt1 : Int) (some ⟨bx, 0, none⟩)) (0, 0) _ (by rfl) (H4.out.2.1.setRow _) Try.underlying36 rfl (by kernel_rfl)) rfl ?_
            refine ⟨Below_setRow H4.out.1 hg2 _, _, _, _, bx, (df1, pt1, fed1), rfl, .inr (.inr (.inl ⟨by unfold voiceMay; rw [HO.out.1]; rfl, HO.out.2, HN.out.1, rfl, HN.out.2.1, c, HN.out.2.2.2.2.2, rfl, HCM.out.symm⟩)), ⟨HN.out.2.2.1, HN.out.2.2.2.1⟩, ?_⟩
            exact H4.out.2.2.setRow_far (fun e => hbxn e.symm) _
    · have HO := Lib.hid (And.intro hvn hos)
      clear hvn hos
      obtain ⟨b1, o1, cap', he', hbl, _, _, hx⟩ := HL.out.1.some (by have := (List.getElem?_eq_some_iff.1 hi).1; omega)
      cases he'
      have hil : i < l.length := (List.getElem?_eq_some_iff.1 hi).1
      obtain ⟨n, m, vo, ol⟩ := c
      have hii : (i : Int) < (l.length : Int) := by omega
      have hx' : ∀ j u, j < 4 → (cC (n, m, vo, ol))[j]? = some u → w2.cell? ⟨b1, o1 + (i * 4 + j), none⟩ = some u := fun j u hm hu =>
        (HB.out.1.cell (p := ⟨b1, _, none⟩) hbl).trans (hx _ _ (by rw [flat_at cC 4 cC_len _ _ _ hm, hi]; exact hu))
      have e0 := hx' 0 _ (by omega) rfl
      have e1 := hx' 1 _ (by omega) rfl
      simp only [Nat.add_zero, ← Nat.add_assoc] at e0 e1
      have hbl2 : b1 < w2.heap.size := by omega
      clear hx hx' hi
      go_upto_region 5 with fail
      refine wp_region_sub [12] (fun W => Below w2.heap.size w2 W) (by kernel_rfl) (by kernel_rfl) ((Below.refl _ _).drew) (fun _ => ?_)
      iterate 12 (refine mix_read (by kernel_rfl) (by rfl) (by rfl) (by rfl) (of_decide_eq_true (by kernel_rfl)) ?_; apply Exists.intro; apply Exists.intro; refine ⟨fun w' hw' K hK => ?_, ?_, ?_⟩; (obtain ⟨X, rfl⟩ := hw'; go_wp2_with fail; first | exact ⟨rfl, rfl⟩ | exact rfl); rfl)
      (refine mix_last (by rfl) (by rfl) (by kernel_rfl) (fun K hK => ?_))
      refine wp_store_row 36 (.tmp 10) (.tmp 57) rfl _ (chA 2 n m (some ⟨b, 0, none⟩)) rfl rfl 36 _ HB.out.2.2.2.drew (by kernel_rfl) rfl (by simp [chA, Value.oneCell']) ?_
      (simp [Act.put])
      refine hK _ _ ?_
      go_wp2_with fail
      refine bodyPost_ret (results_cell_row (by rfl) _ _ h2 36 (chA 2 n m (some ⟨b, 0, none⟩)) (0, 0) _ (by rfl) (HB.out.2.2.2.drew.setRow _) Try.underlying36 rfl (by kernel_rfl)) rfl ?_
      refine ⟨Below_setRow HB.out.1.drew hg2 _, _, _, _, b, s, rfl, .inr (.inl ⟨by unfold voiceMay; rw [HO.out.1]; rfl, rfl, ⟨_, HO.out.2, rfl, rfl⟩, rfl⟩), HL.out.2.2.2.1, ?_⟩
      exact ((HL.out.2.2.2.2.1.below HB.out.1 HL.out.2.2.2.2.1.lt).drew).setRow_far (by have := HL.out.2.2.2.2.1.lt; omega) _
  · rcases hv2 with ⟨hon, rfl⟩ | ⟨i2, c2, rfl, hi2, hos⟩
    · have HO := Lib.hid (And.intro hvs hon)
      clear hvs hon
      obtain ⟨b1, o1, cap', he', hbl, _, _, hx⟩ := HL.out.1.some (by have := (List.getElem?_eq_some_iff.1 hi).1; omega)
      cases he'
      have hil : i < l.length := (List.getElem?_eq_some_iff.1 hi).1
      obtain ⟨n, m, vo, ol⟩ := c
      have hii : (i : Int) < (l.length : Int) := by omega
      have hx' : ∀ j u, j < 4 → (cC (n, m, vo, ol))[j]? = some u → w2.cell? ⟨b1, o1 + (i * 4 + j), none⟩ = some u := fun j u hm hu =>
        (HB.out.1.cell (p := ⟨b1, _, none⟩) hbl).trans (hx _ _ (by rw [flat_at cC 4 cC_len _ _ _ hm, hi]; exact hu))
      have e0 := hx' 0 _ (by omega) rfl
      have e1 := hx' 1 _ (by omega) rfl
      simp only [Nat.add_zero, ← Nat.add_assoc] at e0 e1
      have hbl2 : b1 < w2.heap.size := by omega
      clear hx hx' hi
      obtain ⟨ls, hls⟩ : ∃ ls, (last == 1) = ls := ⟨_, rfl⟩
      cases ls
      · clear HBD
        go_upto_region 3 with fail
        refine wp_region_sub [12] (fun W => Below w2.heap.size w2 W) (by kernel_rfl) (by kernel_rfl) ((Below.refl _ _).drew) (fun _ => ?_)
        iterate 12 (refine mix_read (by kernel_rfl) (by rfl) (by rfl) (by rfl) (of_decide_eq_true (by kernel_rfl)) ?_; apply Exists.intro; apply Exists.intro; refine ⟨fun w' hw' K hK => ?_, ?_, ?_⟩; (obtain ⟨X, rfl⟩ := hw'; go_wp2_with fail; first | exact ⟨rfl, rfl⟩ | exact rfl); rfl)
        (refine mix_last (by rfl) (by rfl) (by kernel_rfl) (fun K hK => ?_))
        refine wp_store_row 36 (.tmp 10) (.tmp 43) rfl _ (chA 1 n m (some ⟨b, 0, none⟩)) rfl rfl 36 _ HB.out.2.2.2.drew (by kernel_rfl) rfl (by simp [chA, Value.oneCell']) ?_
        (simp [Act.put])
        refine hK _ _ ?_
        go_wp2_with fail
        refine bodyPost_ret (results_cell_row (by rfl) _ _ h2 36 (chA 1 n m (some ⟨b, 0, none⟩)) (0, 0) _ (by rfl) (HB.out.2.2.2.drew.setRow _) Try.underlying36 rfl (by kernel_rfl)) rfl ?_
        refine ⟨Below_setRow HB.out.1.drew hg2 _, _, _, _, b, s, rfl, .inl ⟨by unfold voiceMay; rw [HO.out.1, HO.out.2]; simp, rfl, ⟨_, HO.out.1, rfl, rfl⟩, rfl⟩, HL.out.2.2.2.1, ?_⟩
        exact ((HL.out.2.2.2.2.1.below HB.out.1 HL.out.2.2.2.2.1.lt).drew).setRow_far (by have := HL.out.2.2.2.2.1.lt; omega) _
      · clear HBD
        go_upto_region 3 with fail
        refine wp_region_sub [12] (fun W => Below w2.heap.size w2 W) (by kernel_rfl) (by kernel_rfl) ((Below.refl _ _).drew) (fun _ => ?_)
        iterate 12 (refine mix_read (by kernel_rfl) (by rfl) (by rfl) (by rfl) (of_decide_eq_true (by kernel_rfl)) ?_; apply Exists.intro; apply Exists.intro; refine ⟨fun w' hw' K hK => ?_, ?_, ?_⟩; (obtain ⟨X, rfl⟩ := hw'; go_wp2_with fail; first | exact ⟨rfl, rfl⟩ | exact rfl); rfl)
        (refine mix_last (by rfl) (by rfl) (by kernel_rfl) (fun K hK => ?_))
        refine wp_store_row 36 (.tmp 10) (.tmp 43) rfl _ (chA 1 n m (some ⟨b, 0, none⟩)) rfl rfl 36 _ HB.out.2.2.2.drew (by kernel_rfl) rfl (by simp [chA, Value.oneCell']) ?_
        (simp [Act.put])
        refine hK _ _ ?_
        go_wp2_with fail
        refine bodyPost_ret (results_cell_row (by rfl) _ _ h2 36 (chA 1 n m (some ⟨b, 0, none⟩)) (0, 0) _ (by rfl) (HB.out.2.2.2.drew.setRow _) Try.underlying36 rfl (by kernel_rfl)) rfl ?_
        refine ⟨Below_setRow HB.out.1.drew hg2 _, _, _, _, b, s, rfl, .inl ⟨by unfold voiceMay; rw [HO.out.1, HO.out.2]; simp, rfl, ⟨_, HO.out.1, rfl, rfl⟩, rfl⟩, HL.out.2.2.2.1, ?_⟩
        exact ((HL.out.2.2.2.2.1.below HB.out.1 HL.out.2.2.2.2.1.lt).drew).setRow_far (by have := HL.out.2.2.2.2.1.lt; omega) _
    · by_cases hla : last = 1
      · have hls : (last == 1) = true := beq_iff_eq.2 hla
        have HO := Lib.hid (And.intro hvs (And.intro hos hla))
        clear hvs hos hla hi
        obtain ⟨ri, hri⟩ : ∃ ri : Int, ri = (i : Int) := ⟨_, rfl⟩
        have hr0 : decide (0 ≤ ri) = true := by rw [decide_eq_true_iff]; omega
        rw [← hri]
        clear hri
        obtain ⟨b1, o1, cap', he', hbl, _, _, hx⟩ := HL.out.1.some (by have := (List.getElem?_eq_some_iff.1 hi2).1; omega)
        cases he'
        have hil : i2 < l.length := (List.getElem?_eq_some_iff.1 hi2).1
        obtain ⟨n, m, vo, ol⟩ := c2
        have hii : (i2 : Int) < (l.length : Int) := by omega
        have hx' : ∀ j u, j < 4 → (cC (n, m, vo, ol))[j]? = some u → w2.cell? ⟨b1, o1 + (i2 * 4 + j), none⟩ = some u := fun j u hm hu =>
          (HB.out.1.cell (p := ⟨b1, _, none⟩) hbl).trans (hx _ _ (by rw [flat_at cC 4 cC_len _ _ _ hm, hi2]; exact hu))
        have e0 := hx' 0 _ (by omega) rfl
        have e1 := hx' 1 _ (by omega) rfl
        simp only [Nat.add_zero, ← Nat.add_assoc] at e0 e1
        have hbl2 : b1 < w2.heap.size := by omega
        clear hx hx' hi2
        go_upto_region 5 with fail
        refine wp_region_sub [12] (fun W => Below w2.heap.size w2 W) (by kernel_rfl) (by kernel_rfl) ((Below.refl _ _).drew) (fun _ => ?_)
        iterate 12 (refine mix_read (by kernel_rfl) (by rfl) (by rfl) (by rfl) (of_decide_eq_true (by kernel_rfl)) ?_; apply Exists.intro; apply Exists.intro; refine ⟨fun w' hw' K hK => ?_, ?_, ?_⟩; (obtain ⟨X, rfl⟩ := hw'; go_wp2_with fail; first | exact ⟨rfl, rfl⟩ | exact rfl); rfl)
        (refine mix_last (by rfl) (by rfl) (by kernel_rfl) (fun K hK => ?_))
        refine wp_store_row 36 (.tmp 10) (.tmp 57) rfl _ (chA 2 n m (some ⟨b, 0, none⟩)) rfl rfl 36 _ HB.out.2.2.2.drew (by kernel_rfl) rfl (by simp [chA, Value.oneCell']) ?_
        (simp [Act.put])
        refine hK _ _ ?_
        go_wp2_with fail
        refine bodyPost_ret (results_cell_row (by rfl) _ _ h2 36 (chA 2 n m (some ⟨b, 0, none⟩)) (0, 0) _ (by rfl) (HB.out.2.2.2.drew.setRow _) Try.underlying36 rfl (by kernel_rfl)) rfl ?_
        refine ⟨Below_setRow HB.out.1.drew hg2 _, _, _, _, b, s, rfl, .inr (.inl ⟨by unfold voiceMay; rw [HO.out.1, HO.out.2.1, HO.out.2.2]; rfl, rfl, ⟨_, HO.out.2.1, rfl, rfl⟩, rfl⟩), HL.out.2.2.2.1, ?_⟩
        exact ((HL.out.2.2.2.2.1.below HB.out.1 HL.out.2.2.2.2.1.lt).drew).setRow_far (by have := HL.out.2.2.2.2.1.lt; omega) _
      · have hls : (last == 1) = false := beq_eq_false_iff_ne.2 hla
        have HO := Lib.hid (And.intro hvs (And.intro hos hla))
        clear hvs hos hla hi2
        obtain ⟨b1, o1, cap', he', hbl, _, _, hx⟩ := HL.out.1.some (by have := (List.getElem?_eq_some_iff.1 hi).1; omega)
        cases he'
        have hil : i < l.length := (List.getElem?_eq_some_iff.1 hi).1
        obtain ⟨n, m, vo, ol⟩ := c
        have hii : (i : Int) < (l.length : Int) := by omega
        have hx' : ∀ j u, j < 4 → (cC (n, m, vo, ol))[j]? = some u → w2.cell? ⟨b1, o1 + (i * 4 + j), none⟩ = some u := fun j u hm hu =>
          (HB.out.1.cell (p := ⟨b1, _, none⟩) hbl).trans (hx _ _ (by rw [flat_at cC 4 cC_len _ _ _ hm, hi]; exact hu))
        have e0 := hx' 0 _ (by omega) rfl
        have e1 := hx' 1 _ (by omega) rfl
        simp only [Nat.add_zero, ← Nat.add_assoc] at e0 e1
        have hbl2 : b1 < w2.heap.size := by omega
        clear hx hx' hi
        go_upto_region 3 with fail
        refine wp_region_sub [12] (fun W => Below w2.heap.size w2 W) (by kernel_rfl) (by kernel_rfl) ((Below.refl _ _).drew) (fun _ => ?_)
        iterate 12 (refine mix_read (by kernel_rfl) (by rfl) (by rfl) (by rfl) (of_decide_eq_true (by kernel_rfl)) ?_; apply Exists.intro; apply Exists.intro; refine ⟨fun w' hw' K hK => ?_, ?_, ?_⟩; (obtain ⟨X, rfl⟩ := hw'; go_wp2_with fail; first | exact ⟨rfl, rfl⟩ | exact rfl); rfl)
        (refine mix_last (by rfl) (by rfl) (by kernel_rfl) (fun K hK => ?_))
        refine wp_store_row 36 (.tmp 10) (.tmp 43) rfl _ (chA 1 n m (some ⟨b, 0, none⟩)) rfl rfl 36 _ HB.out.2.2.2.drew (by kernel_rfl) rfl (by simp [chA, Value.oneCell']) ?_
        (simp [Act.put])
        refine hK _ _ ?_
        go_wp2_with fail
        refine bodyPost_ret (results_cell_row (by rfl) _ _ h2 36 (chA 1 n m (some ⟨b, 0, none⟩)) (0, 0) _ (by rfl) (HB.out.2.2.2.drew.setRow _) Try.underlying36 rfl (by kernel_rfl)) rfl ?_
        refine ⟨Below_setRow HB.out.1.drew hg2 _, _, _, _, b, s, rfl, .inl ⟨by unfold voiceMay; rw [HO.out.1]; simp [HO.out.2.2], rfl, ⟨_, HO.out.1, rfl, rfl⟩, rfl⟩, HL.out.2.2.2.1, ?_⟩
        exact ((HL.out.2.2.2.2.1.below HB.out.1 HL.out.2.2.2.2.1.lt).drew).setRow_far (by have := HL.out.2.2.2.2.1.lt; omega) _

end Go.Proofs.Ytnhbcpopnhdhiaa
