/- PickBlind: the walk. -/
import Derived.Test.YtnhbcpopnhdhiaaPickK
import Derived.Test.YtnhbcpopnhdhiaaPickR
import Derived.BigQuiet
import Derived.WalkSmall
set_option linter.unusedSimpArgs false
set_option linter.unusedVariables false
namespace Go.Proofs.Ytnhbcpopnhdhiaa
open Go.RowKit Go.Shelf
attribute [local irreducible] wpMix

theorem cand_info' : (Try.prog.info? 45).map (fun i => (i.zero, i.size, i.bytes)) = some (some (.agg #[.int .u64 0, .int .i64 0, .bool false, .bool false]), 4, 24) := by kernel_rfl
theorem cand_one (n m : Int) (a b : Bool) : (#[.int .u64 n, .int .i64 m, .bool a, .bool b] : Array Value).all (·.oneCell') = true := by simp [Value.oneCell']
theorem cC_one (l : List Cv) : ∀ u ∈ l.flatMap cC, u.oneCell' = true := by
  intro u hu
  obtain ⟨c, _, hc⟩ := List.mem_flatMap.1 hu
  simp only [cC, List.mem_cons, List.not_mem_nil, or_false] at hc
  rcases hc with rfl | rfl | rfl | rfl <;> rfl

set_option maxRecDepth 100000 in
set_option maxHeartbeats 8000000 in
theorem blind_any (A : Option Addr) (cap : Nat) (cl : List Cv) (A2 : Option Addr) (cap2 : Nat) (tn : List Int) (last : Int) (w : World) (hcl : cl.length ≤ cap ∧ cap ≤ maxLen) (hc : CandsAt w (.slice A cl.length cap) cl)
    (hcl2 : tn.length ≤ cap2 ∧ cap2 ≤ maxLen) (h2 : SlAt w 1 (.slice A2 tn.length cap2) tn.length (tn.flatMap fun x => [.int .u8 x])) (hw2 : ∀ x ∈ tn, 0 ≤ x ∧ x < 256) :
    Calls Try.prog 6 #[.slice A cl.length cap, .slice A2 tn.length cap2, .int .i64 last] w fun e w' => e = .returned (.bool true) ∧ Below w.heap.size w w' := by
  obtain ⟨hcl, hcm⟩ := hcl
  obtain ⟨hcl2, hcm2⟩ := hcl2
  unfold maxLen at hcm hcm2
  have HF := Lib.hid (And.intro hc (And.intro h2 hw2))
  clear hc h2 hw2
  go_enter Try.func6, Try.ntmps6
  go_wp2_with fail
  refine (New_yes 5000 w (by decide)).mono ?_
  rintro e w0 ⟨rfl, hb, hB⟩
  have H0 := Lib.hid (And.intro hb hB)
  have hle := hb.size
  clear hb hB
  generalize hbd : w.heap.size = bd at hle ⊢
  have HBD := Lib.hid hbd
  clear hbd
  go_wp2_with fail
  go_loopg [8, 9] cl.length (fun gj l j wi => ∃ (m : Nat) (l' : List Cv), (m ≤ cl.length ∧ m ≤ 12) ∧ cl.length - m = gj ∧ j = .int .i64 (m : Nat) ∧ l'.length = m ∧ Marked l' ∧ Below w0.heap.size w0 wi ∧ OwnsAt wi w0.heap.size 45 4 l m (l'.flatMap cC))
  case atStart => exact ⟨0, [], by omega, rfl, rfl, rfl, fun i c h => by simp at h, Below.refl _ _, OwnsAt.nil _ _ _ _⟩
  case round =>
    obtain ⟨m, l', ⟨hm, hm12⟩, rfl, rfl, hll, hct, hbi, ho⟩ := hrel
    have hsz := hbi.size
    obtain ⟨A4, cap4, rfl, hc4⟩ := ho.len
    have HI := Lib.hid (And.intro hll (And.intro hct (And.intro hbi ho)))
    clear hll hct hbi ho
    go_upto_region 6 with fail
    go_cut [29] from 22 to 29 (fun v wx => ∃ q, v = .bool q ∧ q = decide (m < cl.length ∧ m < 12) ∧ wr = wx)
    case first => as_aux_lemma =>
      by_cases hmt : m < cl.length
      · have hmi : (m : Int) < cl.length := by omega
        by_cases h12 : m < 12
        · have g12 : decide ((m : Int) < 12) = true := by rw [decide_eq_true_iff]; omega
          go_wp2_with fail
          go_meet
          exact ⟨_, rfl, (decide_eq_true ⟨hmt, h12⟩).symm, rfl⟩
        · have g12 : decide ((m : Int) < 12) = false := by rw [decide_eq_false_iff_not]; omega
          go_wp2_with fail
          go_meet
          exact ⟨_, rfl, (decide_eq_false (fun h => h12 h.2)).symm, rfl⟩
      · have hmi : ¬ (m : Int) < cl.length := by omega
        go_wp2_with fail
        go_meet
        exact ⟨_, rfl, (decide_eq_false (fun h => hmt h.1)).symm, rfl⟩
    case rest =>
      obtain ⟨q, rfl, hq, rfl⟩ := hcut
      cases q with
      | true =>
        obtain ⟨hmt, h12⟩ := of_decide_eq_true hq.symm
        clear hq
        obtain ⟨b1, o1, cap1', he', hb1, _, _, hx⟩ := HF.out.1.1.some (by omega)
        cases he'
        obtain ⟨⟨n, md, vo, ol⟩, hp'⟩ : ∃ x, cl[m]? = some x := ⟨_, List.getElem?_eq_getElem hmt⟩
        have hwf := HF.out.1.2 _ (List.mem_of_getElem? hp')
        have hx' : ∀ j u, j < 4 → (cC (n, md, vo, ol))[j]? = some u → wr.cell? ⟨b1, o1 + (m * 4 + j), none⟩ = some u := fun j u hj hu =>
          (HI.out.2.2.1.cell (p := ⟨b1, _, none⟩) (Nat.lt_of_lt_of_le (by rw [← HBD.out]; exact hb1) hle)).trans ((H0.out.1.cell (p := ⟨b1, _, none⟩) hb1).trans (hx _ _ (by rw [flat_at cC 4 cC_len _ _ _ hj, hp']; exact hu)))
        have f0 := hx' 0 _ (by omega) rfl
        have f1 := hx' 1 _ (by omega) rfl
        have f2 := hx' 2 _ (by omega) rfl
        have f3 := hx' 3 _ (by omega) rfl
        simp only [Nat.add_zero, ← Nat.add_assoc] at f0 f1 f2 f3
        obtain ⟨hwn, hwm⟩ := hwf
        dsimp only at hwn hwm
        clear hx hx' hp'
        go_upto_region 9 with fail
        have z := Blk.new wr 45 #[.int .u64 n, .int .i64 md, .bool vo, .bool ol]
        have hbx := (Below.refl wr.heap.size wr).alloc (Nat.le_refl _) (.cells #[.int .u64 n, .int .i64 md, .bool vo, .bool ol] 45)
        generalize hgx : wr.heap.size = gx at z ⊢
        generalize World.alloc _ _ = W1 at z hbx ⊢
        have c0 := z.cell 0
        have k0 := z.frozen 0
        have hzl := z.lt
        simp only [List.getElem?_toArray, List.getElem?_cons_zero, List.getElem?_cons_succ] at c0
        have HW := Lib.hid (And.intro z (And.intro hbx hgx))
        clear z hbx hgx f0 f1 f2 f3
        go_upto_region 10 with fail
        have hno : (1 : Int) ≤ 1 + n % 40 * 20 + m := by omega
        have z2 := HW.out.1.set_ 0 (.int .u64 (1 + n % 40 * 20 + m))
        have hb2 : Below wr.heap.size wr (W1.setCell ⟨gx, 0, none⟩ (.int .u64 (1 + n % 40 * 20 + m))) := HW.out.2.1.setCell (p := ⟨gx, 0, none⟩) (by rw [HW.out.2.2]; exact Nat.le_refl _) _
        generalize World.setCell _ _ _ = W2 at z2 hb2 ⊢
        have hex : ∃ x : Int, 0 ≤ x ∧ 1 + n % 40 * 20 + (m : Int) = 1 + x * 20 + m := ⟨n % 40, by omega, rfl⟩
        generalize 1 + n % 40 * 20 + (m : Int) = no at z2 hno hex ⊢
        have y0 := z2.cell 0
        have y1 := z2.cell 1
        have y2 := z2.cell 2
        have y3 := z2.cell 3
        simp at y0 y1 y2 y3
        have hown := HI.out.2.2.2.below hb2
        have hbase : w0.heap.size ≤ W2.heap.size := Nat.le_trans hsz hb2.size
        have hm6 : m ≤ 1000000 := by omega
        have HO := Lib.hid (And.intro hown (And.intro hb2 hex))
        clear z2 hb2 hown c0 k0 hwn hwm hno hex
        go_wp2_with (first
          | (at_builtin; refine wpList_append_new rfl (.tmp 45) (.tmp 47) 30 rfl w0.heap.size 45 _ 4 24 cand_info' Try.underlying30 rfl (by decide) (by decide) _ _ _ rfl HO.out.1 #[.int .u64 no, .int .i64 md, .bool vo, .bool ol] _ rfl rfl rfl rfl hbase hm6 ?_; intro v' w3 ho3 hg3 hv3; obtain ⟨A3, cap3, rfl, hcap3⟩ := ho3.len; have H3 := Lib.hid (And.intro ho3 hg3); clear ho3 hg3 hv3 hcap3))
        go_roundg (cl.length - (m + 1))
        case measure => omega
        case rel =>
          have hb3 : Below w0.heap.size W2 w3 := grown_below H3.out.2 (fun j hj => (HO.out.1.lt j hj).1) hbase
          obtain ⟨x, hx0, hx1⟩ := HO.out.2.2
          refine ⟨m + 1, l' ++ [(no, md, vo, ol)], ⟨by omega, by omega⟩, rfl, by go_num, by rw [List.length_append, HI.out.1]; rfl, HI.out.2.1.snoc hx0 (by rw [HI.out.1]; exact hx1), (HI.out.2.2.1.trans (HO.out.2.1.mono hsz)).trans hb3, ?_⟩
          rw [List.flatMap_append, List.flatMap_cons, List.flatMap_nil, List.append_nil]
          exact H3.out.1
      | false =>
        clear hq
        have hll := HI.out.1
        subst hll
        -- b := append([]api.Cand{}, a...)
        generalize hW5 : wr = W5 at *
        clear hW5
        have hn6 : l'.length ≤ 1000000 := by omega
        have hl12 : l'.length ≤ 12 := by omega
        go_upto_region 11 with fail
        have zE := Blk.new W5 45 #[]
        have hbE := (Below.refl W5.heap.size W5).alloc (Nat.le_refl _) (.cells #[] 45)
        have hslE := HI.out.2.2.2.sl.below hbE
        have HE := Lib.hid (And.intro zE (And.intro hbE hslE))
        clear zE hbE hslE
        go_upto_region 12 with (first
          | (at_builtin; refine wpList_append_spread rfl (.tmp 49) (.tmp 50) 30 rfl W5.heap.size 45 _ 4 24 cand_info' Try.underlying30 rfl (by decide) (by decide) W5.heap.size rfl HE.out.1 (Nat.le_refl _) _ _ _ rfl HE.out.2.2 (cC_one l') hn6 ?_; intro v' w6 ho6 hb6; obtain ⟨A6, cap6, rfl, hcap6⟩ := ho6.len; have H6 := Lib.hid (And.intro ho6 hb6); clear ho6 hb6 hcap6))
        have hb56 := HE.out.2.1.trans H6.out.2
        have HB := Lib.hid (And.intro hb56 (And.intro H6.out.1 HI.out.2.1))
        clear HE H6 hb56
        go_wp2_with fail
        go_loopg [12] tn.length (fun gi p wi => ∃ (i : Nat) (bl : List Cv), (i ≤ tn.length ∧ i ≤ 30) ∧ tn.length - i = gi ∧ p = .int .i64 (i : Nat) ∧ bl.length = l'.length ∧ SameIn l' bl ∧ Below W5.heap.size W5 wi ∧ OwnsAt wi W5.heap.size 45 4 (.slice A6 l'.length cap6) l'.length (bl.flatMap cC))
        case atStart => exact ⟨0, l', by omega, rfl, rfl, rfl, fun _ => Iff.rfl, HB.out.1, HB.out.2.1⟩
        case round =>
          obtain ⟨i, bl, ⟨hi, hi30⟩, rfl, rfl, hbl, hsi, hbi, ho⟩ := hrel
          have HJ := Lib.hid (And.intro hbl (And.intro hsi (And.intro hbi ho)))
          have hszi := hbi.size
          clear hbl hsi hbi ho
          go_upto_region 13 with fail
          go_cut [64] from 52 to 64 (fun v wx => ∃ q, v = .bool q ∧ q = decide (i < tn.length ∧ i < 30 ∧ 0 < l'.length) ∧ wr = wx)
          case first => as_aux_lemma =>
            by_cases hmt : i < tn.length
            · have hmi : (i : Int) < tn.length := by omega
              by_cases h12 : i < 30
              · have g12 : decide ((i : Int) < 30) = true := by rw [decide_eq_true_iff]; omega
                by_cases h0 : 0 < l'.length
                · go_wp2_with fail
                  go_meet
                  exact ⟨_, rfl, by simp [hmt, h12, h0], rfl⟩
                · go_wp2_with fail
                  go_meet
                  exact ⟨_, rfl, by simp [h0], rfl⟩
              · have g12 : decide ((i : Int) < 30) = false := by rw [decide_eq_false_iff_not]; omega
                go_wp2_with fail
                go_meet
                exact ⟨_, rfl, by simp [h12], rfl⟩
            · have hmi : ¬ (i : Int) < tn.length := by omega
              go_wp2_with fail
              go_meet
              exact ⟨_, rfl, by simp [hmt], rfl⟩
          case rest =>
            obtain ⟨q, rfl, hq, rfl⟩ := hcut
            cases q with
            | true =>
              obtain ⟨hmt, h30, h0⟩ := of_decide_eq_true hq.symm
              clear hq
              obtain ⟨b2, o2, cap2', he', hb2, _, _, hx2⟩ := HF.out.2.1.some (by omega)
              cases he'
              obtain ⟨tv, hp2⟩ : ∃ x, tn[i]? = some x := ⟨_, List.getElem?_eq_getElem hmt⟩
              have htv := HF.out.2.2 tv (List.mem_of_getElem? hp2)
              have et : wr.cell? ⟨b2, o2 + i, none⟩ = some (.int .u8 tv) :=
                (HJ.out.2.2.1.cell (p := ⟨b2, _, none⟩) (Nat.lt_of_lt_of_le (by rw [← HBD.out]; exact hb2) (Nat.le_trans hle HI.out.2.2.1.size))).trans ((HI.out.2.2.1.cell (p := ⟨b2, _, none⟩) (Nat.lt_of_lt_of_le (by rw [← HBD.out]; exact hb2) hle)).trans ((H0.out.1.cell (p := ⟨b2, _, none⟩) hb2).trans (hx2 _ _ (by
                  have := flat_at (fun x : Int => [Value.int .u8 x]) 1 (fun _ => rfl) tn i 0 (by decide)
                  rw [Nat.mul_one, Nat.add_zero] at this
                  rw [this, hp2]; rfl))))
              have hb2r : b2 < wr.heap.size := by have := HI.out.2.2.1.size; have h := HBD.out; omega
              have hmi : (i : Int) < tn.length := by omega
              have hl0 : (l'.length : Int) ≠ 0 := by omega
              have hl1 : ((l'.length : Int) == 0) = false := by rw [beq_eq_false_iff_ne]; omega
              clear hx2 hp2
              go_upto_region 15 with fail
              go_cut [13, 14] from 67 to 78 (fun j k wx => ∃ jn kn : Nat, jn < l'.length ∧ kn < l'.length ∧ j = .int .i64 (jn : Nat) ∧ k = .int .i64 (kn : Nat) ∧ Below wr.heap.size wr wx)
              case first => as_aux_lemma =>
                go_quiet (fail)
                go_wp2_with fail
                go_meet
                exact ⟨i % l'.length, (tv % l'.length).toNat, Nat.mod_lt _ h0, by have := Int.emod_lt_of_pos tv (show (0 : Int) < l'.length by omega); have := Int.emod_nonneg tv hl0; omega, by rw [Int.natCast_emod], by rw [Int.toNat_of_nonneg (Int.emod_nonneg tv hl0)], below_drewN (Below.refl _ _) _⟩
              case rest =>
                obtain ⟨jn, kn, hjn, hkn, rfl, rfl, hbq⟩ := hcut
                generalize wc = V at *
                obtain ⟨⟨n1, m1, v1, o1⟩, hpx⟩ : ∃ x, bl[jn]? = some x := ⟨_, List.getElem?_eq_getElem (by rw [HJ.out.1]; exact hjn)⟩
                obtain ⟨⟨n2, m2, v2, o2'⟩, hpy⟩ : ∃ x, bl[kn]? = some x := ⟨_, List.getElem?_eq_getElem (by rw [HJ.out.1]; exact hkn)⟩
                have hoV := HJ.out.2.2.2.below hbq
                obtain ⟨g, off, cap7, he7, hg7, _, _, hx7⟩ := hoV.sl.some h0
                cases he7
                have fx : ∀ j u, j < 4 → (cC (n1, m1, v1, o1))[j]? = some u → V.cell? ⟨g, off + (jn * 4 + j), none⟩ = some u := fun j u hj hu => hx7 _ _ (by rw [flat_at cC 4 cC_len _ _ _ hj, hpx]; exact hu)
                have fy : ∀ j u, j < 4 → (cC (n2, m2, v2, o2'))[j]? = some u → V.cell? ⟨g, off + (kn * 4 + j), none⟩ = some u := fun j u hj hu => hx7 _ _ (by rw [flat_at cC 4 cC_len _ _ _ hj, hpy]; exact hu)
                have x0 := fx 0 _ (by omega) rfl
                have x1 := fx 1 _ (by omega) rfl
                have x2 := fx 2 _ (by omega) rfl
                have x3 := fx 3 _ (by omega) rfl
                have y0 := fy 0 _ (by omega) rfl
                have y1 := fy 1 _ (by omega) rfl
                have y2 := fy 2 _ (by omega) rfl
                have y3 := fy 3 _ (by omega) rfl
                simp only [Nat.add_zero, ← Nat.add_assoc] at x0 x1 x2 x3 y0 y1 y2 y3
                have hji : (jn : Int) < l'.length := by omega
                have hki : (kn : Int) < l'.length := by omega
                have hbV := HJ.out.2.2.1.trans (hbq.mono hszi)
                have HV := Lib.hid (And.intro hbV (And.intro hoV (And.intro hpx hpy)))
                have hgle : W5.heap.size ≤ g := (hoV.lt g rfl).1
                clear hbV hoV hpx hpy fx fy hx7 hbq et
                go_upto_region 17 with fail
                have z := Blk.new V 45 #[.int .u64 n1, .int .i64 m1, .bool v1, .bool o1]
                have hbx := (Below.refl V.heap.size V).alloc (Nat.le_refl _) (.cells #[.int .u64 n1, .int .i64 m1, .bool v1, .bool o1] 45)
                generalize hgx : V.heap.size = gx at z ⊢
                have hggx : g < gx := by omega
                generalize World.alloc _ _ = W1 at z hbx ⊢
                have hoW := HV.out.2.1.below hbx
                replace y0 := (hbx.cell (p := ⟨g, _, none⟩) hg7).trans y0
                replace y1 := (hbx.cell (p := ⟨g, _, none⟩) hg7).trans y1
                replace y2 := (hbx.cell (p := ⟨g, _, none⟩) hg7).trans y2
                replace y3 := (hbx.cell (p := ⟨g, _, none⟩) hg7).trans y3
                have hb1V : Below W5.heap.size W5 W1 := HV.out.1.trans (hbx.mono HV.out.1.size)
                have hth := hoW.room hjn
                have ho2 := hoW.put hjn (vs := [.int .u64 n2, .int .i64 m2, .bool v2, .bool o2']) rfl
                rw [show ([Value.int .u64 n2, .int .i64 m2, .bool v2, .bool o2'] : List Value) = cC (n2, m2, v2, o2') from rfl, ← flat_set cC 4 cC_len _ bl jn (by rw [HJ.out.1]; exact hjn)] at ho2
                have hgr := setCells_grown g (cC (n2, m2, v2, o2')) (off + jn * 4) W1
                have HS := Lib.hid (And.intro ho2 (And.intro hgr (And.intro z (And.intro hb1V hth))))
                have hzl := z.lt
                clear hoW ho2 hgr z hb1V hth hbx hgx x0 x1 x2 x3
                go_upto_region 18 with (first
                  | (refine wpList_store_mid rfl 45 (.tmp 89) (.tmp 88) rfl g (off + jn * 4) #[.int .u64 n2, .int .i64 m2, .bool v2, .bool o2'] rfl rfl HS.out.2.2.2.2 (by kernel_rfl) (cand_one _ _ _ _) ?_))
                change Code.wp _ _ _ _ (World.setCells W1 g (off + jn * 4) (cC (n2, m2, v2, o2')))
                have z2 : Blk (World.setCells W1 g (off + jn * 4) (cC (n2, m2, v2, o2'))) gx 45 #[.int .u64 n1, .int .i64 m1, .bool v1, .bool o1] := (HS.out.2.1.block gx hzl (by intro e; cases e; omega)).trans HS.out.2.2.1
                have hbW2 := HS.out.2.2.2.1.trans (grown_below HS.out.2.1 (fun k hk => by cases hk; exact hgle) HS.out.2.2.2.1.size)
                have hoW2 := HS.out.1
                generalize World.setCells _ _ _ _ = W2 at z2 hbW2 hoW2 ⊢
                have x0 := z2.cell 0
                have x1 := z2.cell 1
                have x2 := z2.cell 2
                have x3 := z2.cell 3
                simp only [List.getElem?_toArray, List.getElem?_cons_zero, List.getElem?_cons_succ] at x0 x1 x2 x3
                have hth := hoW2.room hkn
                have ho3 := hoW2.put hkn (vs := [.int .u64 n1, .int .i64 m1, .bool v1, .bool o1]) rfl
                rw [show ([Value.int .u64 n1, .int .i64 m1, .bool v1, .bool o1] : List Value) = cC (n1, m1, v1, o1) from rfl, ← flat_set cC 4 cC_len _ (bl.set jn (n2, m2, v2, o2')) kn (by rw [List.length_set, HJ.out.1]; exact hkn)] at ho3
                have hgr := setCells_grown g (cC (n1, m1, v1, o1)) (off + kn * 4) W2
                have HT := Lib.hid (And.intro ho3 (And.intro (hbW2.trans (grown_below hgr (fun k hk => by cases hk; exact hgle) hbW2.size)) hth))
                clear ho3 hgr hbW2 hoW2 z2 hth HS y0 y1 y2 y3
                go_wp2_with (first
                  | (refine wpList_store_mid rfl 45 (.tmp 93) (.tmp 92) rfl g (off + kn * 4) #[.int .u64 n1, .int .i64 m1, .bool v1, .bool o1] rfl rfl HT.out.2.2 (by kernel_rfl) (cand_one _ _ _ _) ?_))
                go_roundg (tn.length - (i + 1))
                case measure => omega
                case rel =>
                  refine ⟨i + 1, (bl.set jn (n2, m2, v2, o2')).set kn (n1, m1, v1, o1), ⟨by omega, by omega⟩, rfl, by go_num, by rw [List.length_set, List.length_set, HJ.out.1], HJ.out.2.1.trans ?_, HT.out.2.1, HT.out.1⟩
                  have := swapL_in bl jn kn
                  unfold swapL at this
                  rw [HV.out.2.2.1, HV.out.2.2.2] at this
                  exact this
            | false =>
              clear hq
              generalize hVx : wr = V at *
              clear hVx
              have J0 := Lib.hid (And.intro (HI.out.2.2.2.sl.below HJ.out.2.2.1) (And.intro HJ.out.2.2.2.sl (And.intro ((H0.out.2.below HI.out.2.2.1 H0.out.2.lt).below HJ.out.2.2.1 (H0.out.2.below HI.out.2.2.1 H0.out.2.lt).lt) (H0.out.1.trans ((HI.out.2.2.1.trans (HJ.out.2.2.1.mono HI.out.2.2.1.size)).mono H0.out.1.size)))))
              have hap := Lib.hid (And.intro (HI.out.2.1.apart hl12) (And.intro HJ.out.2.1 HJ.out.1))
              clear HI HB HJ
              go_wp2_with fail
              refine (same_any 700 V).mono ?_
              rintro e w1 ⟨rfl, hb1, hB1⟩
              go_wp2_with fail
              refine (same_any 3 w1).mono ?_
              rintro e w2 ⟨rfl, hb2, hB2⟩
              have hk1 := hB1.below hb2 hB1.lt
              have hb12 := hb1.trans (hb2.mono hb1.size)
              have J2 := Lib.hid (And.intro (J0.out.1.below hb12) (And.intro (J0.out.2.1.below hb12) (And.intro (J0.out.2.2.1.below hb12 J0.out.2.2.1.lt) (J0.out.2.2.2.trans (hb12.mono J0.out.2.2.2.size)))))
              clear hb1 hb2 hb12 hB1 J0
              go_wp2_with fail
              have hp := pick_drr (.slice A4 l'.length cap4) _ _ last bd 5000 s00 l' _ _ w2 J2.out.1 hn6 (by decide) s00_ok (by rw [← HBD.out]; exact J2.out.2.2.1) (same_fn hk1) (same_fn hB2)
              refine hp.mono ?_
              clear hp hk1 hB2
              rintro e w3 ⟨hb, pick, no, mode, bx, s', rfl, hps, hok, hBx, _⟩
              simp only [chA]
              have zc := Blk.new w3 33 #[.int .i64 pick, .int .u64 no, .int .i64 mode, .pointer (some ⟨bx, 0, none⟩)]
              have hb4 := (Below.refl w3.heap.size w3).alloc (Nat.le_refl _) (.cells #[.int .i64 pick, .int .u64 no, .int .i64 mode, .pointer (some ⟨bx, 0, none⟩)] 33)
              go_upto_region 20 with fail
              generalize hg : w3.heap.size = g4 at zc ⊢
              generalize World.alloc _ _ = W4 at zc hb4 ⊢
              have hb24 := hb.trans (hb4.mono hb.size)
              have J4 := Lib.hid (And.intro (J2.out.2.1.below hb24) (And.intro (J2.out.2.2.1.below hb24 J2.out.2.2.1.lt) (And.intro (J2.out.2.2.2.trans (hb24.mono J2.out.2.2.2.size)) (And.intro zc (And.intro (hBx.below hb4 hBx.lt) hps)))))
              clear hb hb4 hb24 zc hg hok hBx hps J2
              go_wp2_with fail
              refine (same_any 700 W4).mono ?_
              rintro e w5 ⟨rfl, hb1, hB1⟩
              go_wp2_with fail
              refine (same_any 3 w5).mono ?_
              rintro e w6 ⟨rfl, hb2, hB2⟩
              have hk1 := hB1.below hb2 hB1.lt
              have hb12 := hb1.trans (hb2.mono hb1.size)
              have J6 := Lib.hid (And.intro (J4.out.1.below hb12) (And.intro (J4.out.2.1.below hb12 J4.out.2.1.lt) (And.intro (J4.out.2.2.1.trans (hb12.mono J4.out.2.2.1.size)) (And.intro (J4.out.2.2.2.1.below hb12 J4.out.2.2.2.1.lt) (And.intro (J4.out.2.2.2.2.1.below hb12 J4.out.2.2.2.2.1.lt) J4.out.2.2.2.2.2)))))
              clear hb1 hb2 hb12 hB1 J4
              go_wp2_with fail
              have hp := pick_drr (.slice A6 l'.length cap6) _ _ last bd 5000 s00 bl _ _ w6 (by rw [hap.out.2.2]; exact J6.out.1) (by rw [hap.out.2.2]; exact hn6) (by decide) s00_ok (by rw [← HBD.out]; exact J6.out.2.1) (same_fn hk1) (same_fn hB2)
              refine hp.mono ?_
              clear hp hk1 hB2
              rintro e w7 ⟨hb, pick2, no2, mode2, bx2, s2, rfl, hps2, hok, hBx, _⟩
              obtain ⟨rfl, rfl, rfl, rfl⟩ := pickS_det J6.out.2.2.2.2.2 (pickS_same hap.out.1 hap.out.2.1 hps2)
              simp only [chA]
              have zc := Blk.new w7 33 #[.int .i64 pick2, .int .u64 no2, .int .i64 mode2, .pointer (some ⟨bx2, 0, none⟩)]
              have hb8 := (Below.refl w7.heap.size w7).alloc (Nat.le_refl _) (.cells #[.int .i64 pick2, .int .u64 no2, .int .i64 mode2, .pointer (some ⟨bx2, 0, none⟩)] 33)
              go_upto_region 21 with fail
              generalize hg : w7.heap.size = g8 at zc ⊢
              generalize World.alloc _ _ = W8 at zc hb8 ⊢
              have hb68 := hb.trans (hb8.mono hb.size)
              have yc := J6.out.2.2.2.1.below hb68 J6.out.2.2.2.1.lt
              have J8 := Lib.hid (And.intro (J6.out.2.1.below hb68 J6.out.2.1.lt) (And.intro (J6.out.2.2.1.trans (hb68.mono J6.out.2.2.1.size)) (And.intro (J6.out.2.2.2.2.1.below hb68 J6.out.2.2.2.2.1.lt) (hBx.below hb8 hBx.lt))))
              have a0 := yc.cell 0
              have a1 := yc.cell 1
              have a2 := yc.cell 2
              have a3 := yc.cell 3
              have c0 := zc.cell 0
              have c1 := zc.cell 1
              have c2 := zc.cell 2
              have c3 := zc.cell 3
              have la := yc.lt
              have lc := zc.lt
              simp only [List.getElem?_toArray, List.getElem?_cons_zero, List.getElem?_cons_succ] at a0 a1 a2 a3 c0 c1 c2 c3
              clear hb hb8 hb68 yc zc hg hok hBx hps2 J6 hap
              go_wp2_with fail
              go_loopg [18] 28 (fun gj p wx => ∃ m : Nat, (1 ≤ m ∧ m ≤ 29) ∧ 29 - m = gj ∧ p = .int .i64 (m : Nat) ∧ Below W8.heap.size W8 wx)
              case atStart => exact ⟨1, by omega, rfl, rfl, Below.refl _ _⟩
              case round =>
                obtain ⟨m, ⟨hm1, hm2⟩, rfl, rfl, hbr⟩ := hrel
                by_cases hlt : m ≤ 28
                · have h28 : decide ((m : Int) ≤ 28) = true := by rw [decide_eq_true_iff]; omega
                  have e3 := (hbr.cell (p := ⟨g4, 3, none⟩) la).trans a3
                  have e4 := (hbr.cell (p := ⟨g8, 3, none⟩) lc).trans c3
                  have la' : g4 < wr.heap.size := Nat.lt_of_lt_of_le la hbr.size
                  have lc' : g8 < wr.heap.size := Nat.lt_of_lt_of_le lc hbr.size
                  have HX := Lib.hid (And.intro hbr (And.intro (J8.out.1.below hbr J8.out.1.lt) (And.intro (J8.out.2.2.1.below hbr J8.out.2.2.1.lt) (J8.out.2.2.2.below hbr J8.out.2.2.2.lt))))
                  have hd0 : defOf (fun _ => 0) (m : Int) = 0 := by unfold defOf; split <;> rfl
                  have HD := Lib.hid hd0
                  clear hbr hd0 a0 a1 a2 c0 c1 c2 a3 c3
                  go_upto_region 26 with fail
                  refine wp_region_sub [3, 7, 12] (fun W => Below wr.heap.size wr W) (by kernel_rfl) (by kernel_rfl) ((Below.refl _ _).drew) (fun _ => ?_)
                  iterate 3 (refine mix_read (by kernel_rfl) (by rfl) (by rfl) (by rfl) (of_decide_eq_true (by kernel_rfl)) ?_; apply Exists.intro; apply Exists.intro; refine ⟨fun w' hw' K hK => ?_, ?_, ?_⟩; (obtain ⟨X, rfl⟩ := hw'; go_wp2_with fail; first | exact ⟨rfl, rfl⟩ | exact rfl); rfl)
                  (refine mix_act (by rfl) (by rfl) (fun K hK => ?_))
                  go_wp2_with fail
                  refine (Deficit_any bx _ _ _ _ _ _ HX.out.2.2.1.drew).mono ?_
                  rintro e w' ⟨rfl, rfl⟩
                  go_wp2_with fail
                  refine ⟨.mk ((Below.refl _ _).drew), ?_⟩
                  iterate 3 (refine mix_read (by kernel_rfl) (by rfl) (by rfl) (by rfl) (of_decide_eq_true (by kernel_rfl)) ?_; apply Exists.intro; apply Exists.intro; refine ⟨fun w' hw' K hK => ?_, ?_, ?_⟩; (obtain ⟨X, rfl⟩ := hw'; go_wp2_with fail; first | exact ⟨rfl, rfl⟩ | exact rfl); rfl)
                  (refine mix_act (by rfl) (by rfl) (fun K hK => ?_))
                  go_wp2_with fail
                  refine (Deficit_any bx2 _ _ _ _ _ _ HX.out.2.2.2.drew).mono ?_
                  rintro e w' ⟨rfl, rfl⟩
                  generalize defOf s2.1 (m : Int) = dd
                  go_wp2_with fail
                  refine ⟨.mk ((Below.refl _ _).drew), ?_⟩
                  iterate 4 (refine mix_read (by kernel_rfl) (by rfl) (by rfl) (by rfl) (of_decide_eq_true (by kernel_rfl)) ?_; apply Exists.intro; apply Exists.intro; refine ⟨fun w' hw' K hK => ?_, ?_, ?_⟩; (obtain ⟨X, rfl⟩ := hw'; go_wp2_with fail; first | exact ⟨rfl, rfl⟩ | exact rfl); rfl)
                  (refine mix_act (by rfl) (by rfl) (fun K hK => ?_))
                  go_wp2_with fail
                  refine (Deficit_any bd _ _ _ _ _ _ (by rw [← HBD.out]; exact HX.out.2.1.drew)).mono ?_
                  rintro e w' ⟨rfl, rfl⟩
                  rw [HD.out]
                  go_wp2_with fail
                  refine ⟨.mk ((Below.refl _ _).drew), ?_⟩
                  iterate 2 (refine mix_read (by kernel_rfl) (by rfl) (by rfl) (by rfl) (of_decide_eq_true (by kernel_rfl)) ?_; apply Exists.intro; apply Exists.intro; refine ⟨fun w' hw' K hK => ?_, ?_, ?_⟩; (obtain ⟨X, rfl⟩ := hw'; go_wp2_with fail; first | exact ⟨rfl, rfl⟩ | exact rfl); rfl)
                  refine mix_nil ?_
                  go_wp2_with fail
                  go_roundg (29 - (m + 1))
                  case measure => omega
                  case rel => exact ⟨m + 1, by omega, rfl, by go_num, HX.out.1.drew⟩
                · obtain rfl : m = 29 := by omega
                  have h28 : decide (((29 : Nat) : Int) ≤ 28) = false := by decide
                  have HX := Lib.hid hbr
                  clear hbr a0 a1 a2 c0 c1 c2 a3 c3
                  go_wp2_with fail
                  refine (works_yes _).mono ?_
                  rintro e wz ⟨rfl, hb⟩
                  have HZ := Lib.hid hb
                  clear hb
                  go_wp2_with fail
                  go_ret
                  exact ⟨rfl, J8.out.2.1.trans ((HX.out.mono J8.out.2.1.size).trans (HZ.out.mono (Nat.le_trans J8.out.2.1.size HX.out.size)))⟩

theorem PickBlind_walk (v0 v1 v2 : Value) (W : World) (c0 : Came Try.prog W 30 v0) (c1 : Came Try.prog W 48 v1) (c2 : Came Try.prog W 3 v2) :
    Calls Try.prog 6 #[v0, v1, v2] W fun e w' => e = .returned (.bool true) ∧ Below W.heap.size W w' := by
  obtain ⟨cl, h1⟩ := came_cands c0
  obtain ⟨A, cap, rfl, hc, hm⟩ := h1.1.len
  obtain ⟨tn, h2, h3⟩ := c1.list Try.underlying48 (by kernel_rfl) (by decide) (fun x : Int => [.int .u8 x]) (fun _ => rfl) (fun x => 0 ≤ x ∧ x < 256) (fun cs hc => by
    obtain ⟨n, rfl, hw⟩ := hc.int Try.underlying5
    refine ⟨n, rfl, ?_⟩
    simp [Lit.wf, IntKind.min, IntKind.max, IntKind.signed, IntKind.bits] at hw; omega)
  obtain ⟨A2, cap2, rfl, hc2, hm2⟩ := h2.len
  obtain ⟨last, rfl, _⟩ := c2.int Try.underlying3
  exact blind_any A cap cl A2 cap2 tn last W ⟨hc, hm⟩ h1 ⟨hc2, hm2⟩ h2 h3

end Go.Proofs.Ytnhbcpopnhdhiaa
