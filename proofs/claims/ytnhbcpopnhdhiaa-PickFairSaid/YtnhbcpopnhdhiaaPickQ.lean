/- PickFair: the walk. -/
import Derived.Test.YtnhbcpopnhdhiaaPickK
import Derived.Test.YtnhbcpopnhdhiaaPickP
import Derived.BigQuiet
import Derived.WalkSmall
set_option linter.unusedSimpArgs false
set_option linter.unusedVariables false
namespace Go.Proofs.Ytnhbcpopnhdhiaa
open Go.RowKit Go.Shelf
attribute [local irreducible] wpMix

theorem cand_info : (Try.prog.info? 45).map (fun i => (i.zero, i.size, i.bytes)) = some (some (.agg #[.int .u64 0, .int .i64 0, .bool false, .bool false]), 4, 24) := by kernel_rfl

set_option maxRecDepth 100000 in
set_option maxHeartbeats 8000000 in
theorem fair_any (A : Option Addr) (cap : Nat) (ts : List (Value × List Cv)) (w : World) (hcl : ts.length ≤ cap ∧ cap ≤ maxLen) (ht : SlAt w 1 (.slice A ts.length cap) ts.length (ts.flatMap fun x => [x.1])) (hc : ∀ x ∈ ts, CandsAt w x.1 x.2) :
    Calls Try.prog 4 #[.slice A ts.length cap] w fun e w' => e = .returned (.bool true) ∧ Below w.heap.size w w' := by
  obtain ⟨hcl, hcm⟩ := hcl
  unfold maxLen at hcm
  have HF := Lib.hid (And.intro ht hc)
  clear ht hc
  go_enter Try.func4, Try.ntmps4
  go_wp2_with fail
  refine (New_yes 5000 w (by decide)).mono ?_
  rintro e w0 ⟨rfl, hb, hB⟩
  have H0 := Lib.hid (And.intro hb hB)
  clear hb hB
  go_wp2_with fail
  go_loopg [3, 4, 5, 6] ts.length (fun gk d la wt i wr => ∃ (k bd : Nat) (s : St) (last : Int) (b : Bool), (k ≤ ts.length ∧ k ≤ 20) ∧ ts.length - k = gk ∧ i = .int .i64 (k : Nat) ∧ d = .pointer (some ⟨bd, 0, none⟩) ∧ la = .int .i64 last ∧ wt = .bool b ∧ (b = true → last = 1) ∧ Below w.heap.size w wr ∧ Sok s ∧ Blk wr bd 51 (dCells 5000 s.1 s.2.1 s.2.2))
  case atStart => exact ⟨0, _, s00, 0, false, by omega, rfl, rfl, rfl, rfl, rfl, by simp, H0.out.1, s00_ok, H0.out.2⟩
  case round =>
    obtain ⟨k, bd, s, last, b, ⟨hk, hk20⟩, rfl, rfl, rfl, rfl, rfl, hwl, hb, hs, hB⟩ := hrel
    generalize hwo : wr = wo at *
    clear hwo
    have HR := Lib.hid (And.intro hwl (And.intro hb (And.intro hs hB)))
    have hle := hb.size
    clear hwl hb hs hB
    by_cases hlt : k < ts.length
    · by_cases h20 : k < 20
      · obtain ⟨b0, o0, cap0, he, hb0, _, _, hx⟩ := HF.out.1.some (by omega)
        cases he
        obtain ⟨⟨tv, tl⟩, hp⟩ : ∃ x, ts[k]? = some x := ⟨_, List.getElem?_eq_getElem hlt⟩
        have hca := HF.out.2 (tv, tl) (List.mem_of_getElem? hp)
        have ex : w.cell? ⟨b0, o0 + k, none⟩ = some tv := hx k tv (by
          have := flat_at (fun x : Value × List Cv => [x.1]) 1 (fun _ => rfl) ts k 0 (by decide)
          rw [Nat.mul_one, Nat.add_zero] at this
          rw [this, hp]; rfl)
        obtain ⟨A1, cap1, hee, hc1, hm1⟩ := hca.1.len
        dsimp only at hee
        subst hee
        unfold maxLen at hm1
        have HX := Lib.hid (And.intro hca ex)
        have hki : (k : Int) < ts.length := by omega
        have g20 : decide ((k : Int) < 20) = true := by rw [decide_eq_true_iff]; omega
        clear hca ex hx hp
        go_wp2_with fail
        go_loopg [7, 8] tl.length (fun gj l j wi => ∃ (m : Nat) (l' : List Cv), (m ≤ tl.length ∧ m ≤ 12) ∧ tl.length - m = gj ∧ j = .int .i64 (m : Nat) ∧ l'.length = m ∧ (∀ c ∈ l', countsF c = true) ∧ Below wo.heap.size wo wi ∧ OwnsAt wi wo.heap.size 45 4 l m (l'.flatMap cC))
        case atStart => exact ⟨0, [], by omega, rfl, rfl, rfl, by simp, Below.refl _ _, OwnsAt.nil _ _ _ _⟩
        case round =>
          obtain ⟨m, l', ⟨hm, hm12⟩, rfl, rfl, hll, hct, hbi, ho⟩ := hrel
          have hsz := hbi.size
          have ei : ∀ (z : Nat) v, w.cell? ⟨b0, z, none⟩ = some v → wr.cell? ⟨b0, z, none⟩ = some v := fun z v h => (hbi.cell (p := ⟨b0, z, none⟩) (Nat.lt_of_lt_of_le hb0 hle)).trans ((HR.out.2.1.cell (p := ⟨b0, z, none⟩) hb0).trans h)
          have e0 := ei _ _ HX.out.2
          obtain ⟨A2, cap2, rfl, hc2⟩ := ho.len
          have HI := Lib.hid (And.intro hll (And.intro hct (And.intro hbi ho)))
          clear ei hll hct hbi ho
          go_upto_region 10 with fail
          go_cut [38] from 28 to 38 (fun v wx => ∃ q, v = .bool q ∧ q = decide (m < tl.length ∧ m < 12) ∧ wr = wx)
          case first => as_aux_lemma =>
            by_cases hmt : m < tl.length
            · have hmi : (m : Int) < tl.length := by omega
              by_cases h12 : m < 12
              · have g12 : decide ((m : Int) < 12) = true := by rw [decide_eq_true_iff]; omega
                go_wp2_with fail
                go_meet
                exact ⟨_, rfl, (decide_eq_true ⟨hmt, h12⟩).symm, rfl⟩
              · have g12 : decide ((m : Int) < 12) = false := by rw [decide_eq_false_iff_not]; omega
                go_wp2_with fail
                go_meet
                exact ⟨_, rfl, (decide_eq_false (fun h => h12 h.2)).symm, rfl⟩
            · have hmi : ¬ (m : Int) < tl.length := by omega
              go_wp2_with fail
              go_meet
              exact ⟨_, rfl, (decide_eq_false (fun h => hmt h.1)).symm, rfl⟩
          case rest =>
            obtain ⟨q, rfl, hq, rfl⟩ := hcut
            cases q with
            | true =>
              obtain ⟨hmt, h12⟩ := of_decide_eq_true hq.symm
              clear hq
              obtain ⟨b1, o1, cap1', he', hb1, _, _, hx⟩ := HX.out.1.1.some (by omega)
              cases he'
              obtain ⟨⟨n, md, vo, ol⟩, hp'⟩ : ∃ x, tl[m]? = some x := ⟨_, List.getElem?_eq_getElem hmt⟩
              have hwf := HX.out.1.2 _ (List.mem_of_getElem? hp')
              have hx' : ∀ j u, j < 4 → (cC (n, md, vo, ol))[j]? = some u → wr.cell? ⟨b1, o1 + (m * 4 + j), none⟩ = some u := fun j u hj hu =>
                (HI.out.2.2.1.cell (p := ⟨b1, _, none⟩) (Nat.lt_of_lt_of_le hb1 hle)).trans ((HR.out.2.1.cell (p := ⟨b1, _, none⟩) hb1).trans (hx _ _ (by rw [flat_at cC 4 cC_len _ _ _ hj, hp']; exact hu)))
              have f0 := hx' 0 _ (by omega) rfl
              have f1 := hx' 1 _ (by omega) rfl
              have f2 := hx' 2 _ (by omega) rfl
              have f3 := hx' 3 _ (by omega) rfl
              simp only [Nat.add_zero, ← Nat.add_assoc] at f0 f1 f2 f3
              obtain ⟨hwn, hwm⟩ := hwf
              dsimp only at hwn hwm
              clear hx hx' hp'
              go_upto_region 13 with fail
              have z := Blk.new wr 45 #[.int .u64 n, .int .i64 md, .bool vo, .bool ol]
              have hbx := (Below.refl wr.heap.size wr).alloc (Nat.le_refl _) (.cells #[.int .u64 n, .int .i64 md, .bool vo, .bool ol] 45)
              generalize hgx : wr.heap.size = gx at z ⊢
              generalize World.alloc _ _ = W1 at z hbx ⊢
              have c0 := z.cell 0
              have c1 := z.cell 1
              have k0 := z.frozen 0
              have k1 := z.frozen 1
              have hzl := z.lt
              simp only [List.getElem?_toArray, List.getElem?_cons_zero, List.getElem?_cons_succ] at c0 c1
              have HW := Lib.hid (And.intro z (And.intro hbx hgx))
              clear z hbx hgx f0 f1 f2 f3
              go_upto_region 15 with fail
              have hmo := mode_in md
              generalize hmm : wrap64 (1 + (wrap64 (md.tmod 28 + 28)).tmod 28) = mm at *
              clear hmm
              have z2 := (HW.out.1.set_ 0 (.int .u64 (1 + n % 50))).set_ 1 (.int .i64 mm)
              have hb2 : Below wr.heap.size wr ((W1.setCell ⟨gx, 0, none⟩ (.int .u64 (1 + n % 50))).setCell ⟨gx, 1, none⟩ (.int .i64 mm)) :=
                (HW.out.2.1.setCell (p := ⟨gx, 0, none⟩) (by rw [HW.out.2.2]; exact Nat.le_refl _) _).setCell (p := ⟨gx, 1, none⟩) (by rw [HW.out.2.2]; exact Nat.le_refl _) _
              generalize World.setCell _ _ _ = W2 at z2 hb2 ⊢
              have y0 := z2.cell 0
              have y1 := z2.cell 1
              have y2 := z2.cell 2
              have y3 := z2.cell 3
              simp at y0 y1 y2 y3
              have hown := HI.out.2.2.2.below hb2
              have hbase : wo.heap.size ≤ W2.heap.size := Nat.le_trans hsz hb2.size
              have hm6 : m ≤ 1000000 := by omega
              have HO := Lib.hid (And.intro hown (And.intro hb2 (show 1 ≤ 1 + n % 50 by omega)))
              clear z2 hb2 hown c0 c1 k0 k1 hwn hwm
              go_wp2_with (first
                | (at_builtin; refine wpList_append_new rfl (.tmp 60) (.tmp 62) 30 rfl wo.heap.size 45 _ 4 24 cand_info Try.underlying30 rfl (by decide) (by decide) _ _ _ rfl HO.out.1 #[.int .u64 (1 + n % 50), .int .i64 mm, .bool vo, .bool ol] _ rfl rfl rfl rfl hbase hm6 ?_; intro v' w3 ho3 hg3 hv3; obtain ⟨A3, cap3, rfl, hcap3⟩ := ho3.len; have H3 := Lib.hid (And.intro ho3 hg3); clear ho3 hg3 hv3 hcap3))
              go_roundg (tl.length - (m + 1))
              case measure => omega
              case rel =>
                have hb3 : Below wo.heap.size W2 w3 := grown_below H3.out.2 (fun j hj => (HO.out.1.lt j hj).1) hbase
                refine ⟨m + 1, l' ++ [(1 + n % 50, mm, vo, ol)], ⟨by omega, by omega⟩, rfl, by go_num, by rw [List.length_append, HI.out.1]; rfl, ?_, (HI.out.2.2.1.trans (HO.out.2.1.mono hsz)).trans hb3, ?_⟩
                · intro c hc
                  rcases List.mem_append.1 hc with hc | hc
                  · exact HI.out.2.1 c hc
                  · obtain rfl := List.mem_singleton.1 hc
                    exact decide_eq_true ⟨by have := HO.out.2.2; dsimp only; omega, hmo⟩
                · rw [List.flatMap_append, List.flatMap_cons, List.flatMap_nil, List.append_nil]
                  exact H3.out.1
            | false =>
              clear hq
              have hll := HI.out.1
              subst hll
              go_wp2_with fail
              refine (same_any 2000 wr).mono ?_
              rintro e w1 ⟨rfl, hb1, hB1⟩
              go_wp2_with fail
              refine (same_any 2 w1).mono ?_
              rintro e w2 ⟨rfl, hb2, hB2⟩
              have hk1 := hB1.below hb2 hB1.lt
              have hb12 := hb1.trans (hb2.mono hb1.size)
              have J := Lib.hid (And.intro (HI.out.2.2.1.trans (hb12.mono HI.out.2.2.1.size)) (HI.out.2.2.2.sl.below hb12))
              clear hb1 hb2 hb12 hB1
              go_wp2_with fail
              have hBd := HR.out.2.2.2.below J.out.1 HR.out.2.2.2.lt
              have hp := pick_drr (.slice A2 l'.length cap2) _ _ last bd 5000 s l' _ _ w2 J.out.2 (by omega) (by decide) HR.out.2.2.1 hBd (same_fn hk1) (same_fn hB2)
              refine hp.mono ?_
              clear hp hk1 hB2 hBd
              rintro e w3 ⟨hb, pick, no, mode, bx, s', rfl, hps, hok, hBx, _⟩
              have hfr := fair_of HI.out.2.1 hps
              simp only [chA]
              go_upto_region 17 with fail
              have z := Blk.new w3 33 #[.int .i64 pick, .int .u64 no, .int .i64 mode, .pointer (some ⟨bx, 0, none⟩)]
              have hb4 := (Below.refl w3.heap.size w3).alloc (Nat.le_refl _) (.cells #[.int .i64 pick, .int .u64 no, .int .i64 mode, .pointer (some ⟨bx, 0, none⟩)] 33)
              generalize hg : w3.heap.size = g4 at z ⊢
              generalize World.alloc _ _ = W4 at z hb4 ⊢
              have hb24 := hb.trans (hb4.mono hb.size)
              have K := Lib.hid (And.intro (J.out.1.trans (hb24.mono J.out.1.size)) (And.intro (J.out.2.below hb24) (And.intro hok (And.intro (hBx.below hb4 hBx.lt) (And.intro z hfr)))))
              have hct := Lib.hid HI.out.2.1
              clear hb hps hok hBx hfr hb4 hb24 z hg J HI e0 hsz
              go_wp2_with fail
              generalize hV4 : W4 = V4 at *
              clear hV4
              go_loopg [11, 12, 13, 14] l'.length (fun gj o v i j wx => ∃ m : Nat, m ≤ l'.length ∧ l'.length - m = gj ∧ j = .int .i64 (m : Nat) ∧ o = .int .u64 (numF (fun c => c.2.2.2) (l'.take m)) ∧ v = .int .u64 (numF (fun c => c.2.2.1) (l'.take m)) ∧ i = .bool (isP (l'.take m) no mode) ∧ Below V4.heap.size V4 wx)
              case atStart => exact ⟨0, by omega, rfl, rfl, rfl, rfl, rfl, Below.refl _ _⟩
              case round =>
                obtain ⟨m, hml, rfl, rfl, rfl, rfl, rfl, hbx⟩ := hrel
                by_cases hlm : m < l'.length
                · obtain ⟨b1, o1, cap1', he', hb1, _, _, hx⟩ := K.out.2.1.some (by omega)
                  cases he'
                  obtain ⟨⟨n, md, vo, ol⟩, hp'⟩ : ∃ x, l'[m]? = some x := ⟨_, List.getElem?_eq_getElem hlm⟩
                  have hx' : ∀ j u, j < 4 → (cC (n, md, vo, ol))[j]? = some u → wr.cell? ⟨b1, o1 + (m * 4 + j), none⟩ = some u := fun j u hj hu =>
                    (hbx.cell (p := ⟨b1, _, none⟩) hb1).trans (hx _ _ (by rw [flat_at cC 4 cC_len _ _ _ hj, hp']; exact hu))
                  have f0 := hx' 0 _ (by omega) rfl
                  have f1 := hx' 1 _ (by omega) rfl
                  have f2 := hx' 2 _ (by omega) rfl
                  have f3 := hx' 3 _ (by omega) rfl
                  simp only [Nat.add_zero, ← Nat.add_assoc] at f0 f1 f2 f3
                  have hz := (K.out.2.2.2.2.1.below hbx K.out.2.2.2.2.1.lt)
                  have d1 := hz.cell 1
                  have d2 := hz.cell 2
                  have hzl := hz.lt
                  simp only [List.getElem?_toArray, List.getElem?_cons_zero, List.getElem?_cons_succ] at d1 d2
                  have et : l'.take (m + 1) = l'.take m ++ [(n, md, vo, ol)] := by rw [List.take_add_one, hp']; rfl
                  have eo : numF (fun c => c.2.2.2) (l'.take (m + 1)) = numP (fun c => c.2.2.2) (numF (fun c => c.2.2.2) (l'.take m)) (n, md, vo, ol) := by rw [et, numF_snoc]
                  have ev : numF (fun c => c.2.2.1) (l'.take (m + 1)) = numP (fun c => c.2.2.1) (numF (fun c => c.2.2.1) (l'.take m)) (n, md, vo, ol) := by rw [et, numF_snoc]
                  have ei : isP (l'.take (m + 1)) no mode = (isP (l'.take m) no mode || (n == no && md == mode)) := by rw [et, isP_snoc]
                  have HE := Lib.hid (And.intro eo (And.intro ev (And.intro ei hbx)))
                  have hml' : (m : Int) < (l'.length : Int) := by omega
                  have hb1r : b1 < wr.heap.size := Nat.lt_of_lt_of_le hb1 hbx.size
                  generalize numF (fun c => c.2.2.2) (l'.take m) = o at *
                  generalize numF (fun c => c.2.2.1) (l'.take m) = v at *
                  generalize isP (l'.take m) no mode = i at *
                  clear hx hx' hp' hz et eo ev ei hbx
                  go_upto_region 21 with fail
                  go_cut [93] from 76 to 93 (fun x wx => x = .bool (ol && (o == 0 || decide (n < o))) ∧ wr = wx)
                  case first => as_aux_lemma =>
                    cases ol with
                    | false =>
                      go_wp2_with fail
                      go_meet
                      exact ⟨rfl, rfl⟩
                    | true =>
                      by_cases ho0 : o = 0
                      · have g0 : (o == 0) = true := beq_iff_eq.2 ho0
                        go_wp2_with fail
                        go_meet
                        exact ⟨by rw [g0]; rfl, rfl⟩
                      · have g0 : (o == 0) = false := beq_eq_false_iff_ne.2 ho0
                        go_wp2_with fail
                        go_meet
                        exact ⟨by rw [g0]; rfl, rfl⟩
                  case rest =>
                    obtain ⟨rfl, rfl⟩ := hcut
                    have hnp : numP (fun c => c.2.2.2) o (n, md, vo, ol) = if (ol && (o == 0 || decide (n < o))) = true then n else o := by simp only [numP, Bool.and_eq_true, Bool.or_eq_true, decide_eq_true_iff, beq_iff_eq]
                    generalize (ol && (o == 0 || decide (n < o))) = q at *
                    have HN93 := Lib.hid hnp
                    clear hnp
                    go_upto_if 93 with fail
                    go_cut [11] from 94 to 98 (fun x wx => x = .int .u64 (if q = true then n else o) ∧ wr = wx)
                    case first => as_aux_lemma =>
                      cases q <;> (go_wp2_with fail; go_meet; exact ⟨rfl, rfl⟩)
                    case rest =>
                      obtain ⟨rfl, rfl⟩ := hcut
                      rw [← HN93.out]
                      clear HN93
                      go_upto_region 23 with fail
                      go_cut [116] from 99 to 116 (fun x wx => x = .bool (vo && (v == 0 || decide (n < v))) ∧ wr = wx)
                      case first => as_aux_lemma =>
                        cases vo with
                        | false =>
                          go_wp2_with fail
                          go_meet
                          exact ⟨rfl, rfl⟩
                        | true =>
                          by_cases ho0 : v = 0
                          · have g0 : (v == 0) = true := beq_iff_eq.2 ho0
                            go_wp2_with fail
                            go_meet
                            exact ⟨by rw [g0]; rfl, rfl⟩
                          · have g0 : (v == 0) = false := beq_eq_false_iff_ne.2 ho0
                            go_wp2_with fail
                            go_meet
                            exact ⟨by rw [g0]; rfl, rfl⟩
                      case rest =>
                        obtain ⟨rfl, rfl⟩ := hcut
                        have hnp : numP (fun c => c.2.2.1) v (n, md, vo, ol) = if (vo && (v == 0 || decide (n < v))) = true then n else v := by simp only [numP, Bool.and_eq_true, Bool.or_eq_true, decide_eq_true_iff, beq_iff_eq]
                        generalize (vo && (v == 0 || decide (n < v))) = q at *
                        have HN116 := Lib.hid hnp
                        clear hnp
                        go_upto_if 116 with fail
                        go_cut [12] from 117 to 121 (fun x wx => x = .int .u64 (if q = true then n else v) ∧ wr = wx)
                        case first => as_aux_lemma =>
                          cases q <;> (go_wp2_with fail; go_meet; exact ⟨rfl, rfl⟩)
                        case rest =>
                          obtain ⟨rfl, rfl⟩ := hcut
                          rw [← HN116.out]
                          clear HN116
                          go_upto_region 25 with fail
                          cases i with
                          | true =>
                            go_quiet (fail)
                            go_wp2_with fail
                            go_roundg (l'.length - (m + 1))
                            case measure => omega
                            case rel => exact ⟨m + 1, by omega, rfl, by go_num, by rw [HE.out.1], by rw [HE.out.2.1], by rw [HE.out.2.2.1]; rfl, below_drewN HE.out.2.2.2 _⟩
                          | false =>
                            by_cases h1 : n = no
                            · subst h1
                              have g1 : (n == n) = true := beq_self_eq_true n
                              go_quiet (fail)
                              go_wp2_with fail
                              go_roundg (l'.length - (m + 1))
                              case measure => omega
                              case rel => exact ⟨m + 1, by omega, rfl, by go_num, by rw [HE.out.1], by rw [HE.out.2.1], by rw [HE.out.2.2.1, g1]; rfl, below_drewN HE.out.2.2.2 _⟩
                            · have g1 : (n == no) = false := beq_eq_false_iff_ne.2 h1
                              go_quiet (fail)
                              go_wp2_with fail
                              go_roundg (l'.length - (m + 1))
                              case measure => omega
                              case rel => exact ⟨m + 1, by omega, rfl, by go_num, by rw [HE.out.1], by rw [HE.out.2.1], by rw [HE.out.2.2.1, g1]; rfl, below_drewN HE.out.2.2.2 _⟩
                · obtain rfl : m = l'.length := by omega
                  rw [List.take_length]
                  have hz := (K.out.2.2.2.2.1.below hbx K.out.2.2.2.2.1.lt)
                  have d0 := hz.cell 0
                  have d1 := hz.cell 1
                  have d2 := hz.cell 2
                  have d3 := hz.cell 3
                  have hzl := hz.lt
                  simp only [List.getElem?_toArray, List.getElem?_cons_zero, List.getElem?_cons_succ] at d0 d1 d2 d3
                  have hfr := K.out.2.2.2.2.2
                  unfold FairR at hfr
                  have HZ := Lib.hid (And.intro (HR.out.2.1.trans ((K.out.1.mono hle).trans (hbx.mono (Nat.le_trans hle K.out.1.size)))) (And.intro K.out.2.2.1 (K.out.2.2.2.1.below hbx K.out.2.2.2.1.lt)))
                  have hwl := HR.out.1
                  clear hbx hz K HX hct
                  generalize numF (fun c => c.2.2.2) l' = o at hfr ⊢
                  generalize numF (fun c => c.2.2.1) l' = v at hfr ⊢
                  generalize isP l' no mode = i at hfr ⊢
                  have hk1 : k + 1 ≤ ts.length ∧ k + 1 ≤ 20 := by omega
                  generalize hnl : l'.length = nl at hfr ⊢
                  clear hnl
                  have h26 : (0 < nl ∧ (pick == 0) = false ∧ i = true) ∨ (nl = 0 ∧ (pick == 0) = true) := by
                    rcases hfr with ⟨rfl, h, _, _, h2, _⟩ | ⟨rfl, h, _, _, h2, _⟩ | ⟨rfl, h, _, _, h2⟩ | ⟨rfl, h, _⟩
                    · exact .inl ⟨h, rfl, h2⟩
                    · exact .inl ⟨h, rfl, h2⟩
                    · exact .inl ⟨h, rfl, h2⟩
                    · exact .inr ⟨h, rfl⟩
                  have HFR := Lib.hid hfr
                  clear hfr
                  go_upto_region 26 with fail
                  go_cut [163] from 143 to 163 (fun x wx => x = .bool false ∧ wr = wx)
                  case first => as_aux_lemma =>
                    rcases h26 with ⟨hl0, p0, rfl⟩ | ⟨rfl, p0⟩
                    · have l0 : ((nl : Int) == 0) = false := by rw [beq_eq_false_iff_ne]; omega
                      go_wp2_with fail; go_meet; exact ⟨rfl, rfl⟩
                    · go_wp2_with fail; go_meet; exact ⟨rfl, rfl⟩
                  case rest =>
                    obtain ⟨rfl, rfl⟩ := hcut
                    clear h26
                    go_upto_region 28 with fail
                    go_cut [196] from 164 to 196 (fun x wx => x = .bool false ∧ wr = wx)
                    case first => as_aux_lemma =>
                      rcases HFR.out with ⟨rfl, -, rfl, -⟩ | ⟨rfl, -, rfl, -⟩ | ⟨rfl, -, rfl, rfl, -⟩ | ⟨rfl, -⟩ <;> (clear HFR hwl; go_wp2_with fail; go_meet; exact ⟨rfl, rfl⟩)
                    case rest =>
                      obtain ⟨rfl, rfl⟩ := hcut
                      go_upto_region 30 with fail
                      go_cut [212] from 197 to 212 (fun x wx => x = .bool false ∧ wr = wx)
                      case first => as_aux_lemma =>
                        by_cases hv : 0 < v
                        · have v1 : decide (0 < v) = true := decide_eq_true hv
                          rcases HFR.out with ⟨rfl, -⟩ | ⟨rfl, -, -, ho, -, hla⟩ | ⟨-, -, -, h, -⟩ | ⟨-, -, -, h⟩
                          · clear HFR hwl; go_wp2_with fail; go_meet; exact ⟨rfl, rfl⟩
                          · obtain rfl : last = 1 := hla.resolve_left (by omega)
                            have o1 : decide (0 < o) = true := decide_eq_true ho
                            clear HFR hwl; go_wp2_with fail; go_meet; exact ⟨rfl, rfl⟩
                          · omega
                          · omega
                        · have v1 : decide (0 < v) = false := decide_eq_false hv
                          clear HFR hwl; go_wp2_with fail; go_meet; exact ⟨rfl, rfl⟩
                      case rest =>
                        obtain ⟨rfl, rfl⟩ := hcut
                        go_upto_region 32 with fail
                        go_cut [222] from 213 to 222 (fun x wx => x = .bool false ∧ wr = wx)
                        case first => as_aux_lemma =>
                          cases b with
                          | false => clear HFR hwl; go_wp2_with fail; go_meet; exact ⟨rfl, rfl⟩
                          | true =>
                            by_cases ho : 0 < o
                            · have o1 : decide (0 < o) = true := decide_eq_true ho
                              rcases HFR.out with ⟨-, -, -, -, -, h⟩ | ⟨rfl, -⟩ | ⟨-, -, h, -⟩ | ⟨-, -, h, -⟩
                              · have := h (hwl rfl); omega
                              · clear HFR hwl; go_wp2_with fail; go_meet; exact ⟨rfl, rfl⟩
                              · omega
                              · omega
                            · have o1 : decide (0 < o) = false := decide_eq_false ho
                              clear HFR hwl; go_wp2_with fail; go_meet; exact ⟨rfl, rfl⟩
                        case rest =>
                          obtain ⟨rfl, rfl⟩ := hcut
                          go_upto_region 34 with fail
                          go_cut [5] from 223 to 229 (fun x wx => ∃ q, x = .bool q ∧ (q = true → pick = 1) ∧ wr = wx)
                          case first => as_aux_lemma =>
                            by_cases ho : 0 < o
                            · have o1 : decide (0 < o) = true := decide_eq_true ho
                              rcases HFR.out with ⟨rfl, -⟩ | ⟨rfl, -⟩ | ⟨-, -, h, -⟩ | ⟨-, -, h, -⟩
                              · clear HFR hwl; go_wp2_with fail; go_meet; exact ⟨true, rfl, (by simp), rfl⟩
                              · clear HFR hwl; go_wp2_with fail; go_meet; exact ⟨false, rfl, (by simp), rfl⟩
                              · omega
                              · omega
                            · have o1 : decide (0 < o) = false := decide_eq_false ho
                              clear HFR hwl; go_wp2_with fail; go_meet; exact ⟨false, rfl, (by simp), rfl⟩
                          case rest =>
                            obtain ⟨q, rfl, hq, rfl⟩ := hcut
                            have HQ := Lib.hid hq
                            clear hq HFR hwl
                            go_wp2_with fail
                            go_roundg (ts.length - (k + 1))
                            case measure => omega
                            case rel => exact ⟨k + 1, bx, s', pick, q, hk1, rfl, by go_num, rfl, rfl, rfl, HQ.out, HZ.out.1, HZ.out.2.1, HZ.out.2.2⟩
      · obtain rfl : k = 20 := by omega
        have g20 : decide (((20 : Nat) : Int) < 20) = false := by decide
        have hki : ((20 : Nat) : Int) < ts.length := by omega
        go_wp2_with fail
        refine (works_yes _).mono ?_
        rintro e wz ⟨rfl, hb⟩
        have HB := Lib.hid hb
        clear hb
        go_wp2_with fail
        go_ret
        exact ⟨rfl, HR.out.2.1.trans (HB.out.mono hle)⟩
    · have hki : ¬ (k : Int) < ts.length := by omega
      go_wp2_with fail
      refine (works_yes _).mono ?_
      rintro e wz ⟨rfl, hb⟩
      have HB := Lib.hid hb
      clear hb
      go_wp2_with fail
      go_ret
      exact ⟨rfl, HR.out.2.1.trans (HB.out.mono hle)⟩

theorem PickFair_walk (v0 : Value) (W : World) (c0 : Came Try.prog W 22 v0) :
    Calls Try.prog 4 #[v0] W fun e w' => e = .returned (.bool true) ∧ Below W.heap.size W w' := by
  obtain ⟨ts, h1, h2⟩ := came_turns c0
  obtain ⟨A, cap, rfl, hc, hm⟩ := h1.len
  exact fair_any A cap ts W ⟨hc, hm⟩ h1 h2

end Go.Proofs.Ytnhbcpopnhdhiaa
