/- The reference's Within. -/
import Derived.Test.YtkpfebgmfkaglaaSpE
set_option linter.unusedSimpArgs false
set_option linter.unusedVariables false
namespace Go.Proofs.Ytkpfebgmfkaglaa
open Go.RowKit
attribute [local irreducible] wpMix

theorem ofK_append (l l' : List Gv) (t c : Int) : ofK (l ++ l') t c = ofK l t c ++ ofK l' t c := by unfold ofK; rw [List.filter_append, List.map_append]
theorem foldS_take {step : List ByteArray → ByteArray → Option (List ByteArray)} {gs : List Gv} {l : List ByteArray} {t c : Int} {k i : Nat} (hki : k ≤ i) (h : foldS step l (ofK (gs.take k) t c) = none) : foldS step l (ofK (gs.take i) t c) = none := by
  have e : gs.take i = gs.take k ++ (gs.take i).drop k := by
    have := (List.take_append_drop k (gs.take i)).symm
    rwa [List.take_take, Nat.min_eq_left hki] at this
  rw [e, ofK_append]
  exact foldS_none _ _ _ h

set_option maxRecDepth 100000 in
set_option maxHeartbeats 8000000 in
theorem refWithin_ok (v1 v2 : Value) (gs : List Gv) (acc : List Pk) (w : World)
    (h1 : SlAt w 3 v1 gs.length (gs.flatMap gC)) (h2 : SlAt w 5 v2 acc.length (acc.flatMap pC)) (hn : acc.length ≤ 1000000) :
    Calls Try.prog 10 #[v1, v2] w fun e w' => e = .returned (.int .i64 (firstF stepW (ofK (acc.map (·.2.1))) gs 0)) ∧ Below w.heap.size w w' := by
  obtain ⟨A, cap, rfl, hc, hm⟩ := h1.len
  unfold maxLen at hm
  have H1 := Lib.hid (And.intro h1 (And.intro h2 hn))
  clear h1 h2 hn
  go_enter Try.func10, Try.ntmps10
  go_wp2_with fail
  go_loopg [5] gs.length (fun gk p wr => ∃ i : Nat, i ≤ gs.length ∧ gs.length - i = gk ∧ p = .int .i64 (i : Nat) ∧ Below w.heap.size w wr ∧ Inv stepW (ofK (acc.map (·.2.1))) gs i)
  case atStart => exact ⟨0, by omega, rfl, rfl, Below.refl _ _, Inv.start _ _⟩
  case round =>
    obtain ⟨i, hi, rfl, rfl, hb, hI⟩ := hrel
    have hle := hb.size
    have HI := Lib.hid (And.intro hb hI)
    clear hb hI
    by_cases hlt : i < gs.length
    · have hki : (i : Int) < (gs.length : Int) := by omega
      obtain ⟨⟨t, c, s⟩, hp⟩ : ∃ p, gs[i]? = some p := ⟨_, List.getElem?_eq_getElem hlt⟩
      obtain ⟨b, o, rfl, hbl, hx⟩ := sl_elem gC_len H1.out.1 hp rfl
      have q0 : ∀ X : Cls fun W => Below w.heap.size w W, X.W.cell? ⟨b, o + i * 3, none⟩ = some (.int .i64 t) := fun X => (X.h.cell (p := ⟨b, _, none⟩) hbl).trans (hx 0 _ (by omega) rfl)
      have q1 : ∀ X : Cls fun W => Below w.heap.size w W, X.W.cell? ⟨b, o + i * 3 + 1, none⟩ = some (.int .i64 c) := fun X => (X.h.cell (p := ⟨b, _, none⟩) hbl).trans (hx 1 _ (by omega) rfl)
      have HP := Lib.hid (And.intro hp hbl)
      clear hx hp hbl
      go_wp2_with fail
      refine wp_region_sub [11] (fun W => Below w.heap.size w W) (by kernel_rfl) (by kernel_rfl) (HI.out.1.drew) (fun _ => ?_)
      iterate 11 (refine mix_read (by kernel_rfl) (by rfl) (by rfl) (by rfl) (of_decide_eq_true (by kernel_rfl)) ?_; apply Exists.intro; apply Exists.intro; refine ⟨fun w' hw' K hK => ?_, ?_, ?_⟩; (obtain ⟨X, rfl⟩ := hw'; go_wp2_with fail; first | exact ⟨rfl, rfl⟩ | exact rfl); rfl)
      (refine mix_act (by rfl) (by rfl) (fun K hK => ?_))
      go_wp2_with fail
      refine (of_ok v2 acc t c wr.drew ((H1.out.2.1.below (HI.out.1.mono (Nat.le_refl _))).keep (fun _ _ _ _ _ => rfl) (Nat.le_refl _)) H1.out.2.2).mono ?_
      rintro e w2 ⟨hb2, v', rfl, hv'⟩
      obtain ⟨A3, cap3, rfl, hc3, hm3⟩ := hv'.len
      unfold maxLen at hm3
      generalize hps : acc.filter (isK t c) = ps at *
      have hbw : Below w.heap.size w w2 := HI.out.1.drew.trans (hb2.mono (by have := HI.out.1.size; simpa using this))
      have hL : ps.map (·.2.1.2.2) = ofK (acc.map (·.2.1)) t c := by rw [← hps]; exact isK_of acc t c
      have HV := Lib.hid (And.intro hv' (And.intro hL hbw))
      clear hv' hps hb2 hbw hL
      go_wp2_with fail
      refine ⟨.mk HV.out.2.2, ?_⟩
      (refine mix_read (by kernel_rfl) (by rfl) (by rfl) (by rfl) (of_decide_eq_true (by kernel_rfl)) ?_; apply Exists.intro; apply Exists.intro; refine ⟨fun w' hw' K hK => ?_, ?_, ?_⟩; (obtain ⟨X, rfl⟩ := hw'; go_wp2_with fail; first | exact ⟨rfl, rfl⟩ | exact rfl); rfl)
      refine mix_nil ?_
      go_wp2_with fail
      clear hle
      go_loopg [7, 8] (i + 1) (fun gk q p wr' => ∃ at_ k : Nat, k ≤ i + 1 ∧ i + 1 - k = gk ∧ p = .int .i64 (k : Nat) ∧ q = .int .i64 (at_ : Nat) ∧ at_ ≤ ps.length ∧ foldS stepW (ps.map (·.2.1.2.2)) (ofK (gs.take k) t c) = some ((ps.map (·.2.1.2.2)).drop at_) ∧ Below w2.heap.size w2 wr')
      case atStart => exact ⟨0, 0, by omega, rfl, rfl, rfl, by omega, by simp [ofK, foldS], Below.refl _ _⟩
      case round =>
        obtain ⟨at_, k, hk, rfl, rfl, rfl, hat, hfo, hb⟩ := hrel
        have HK := Lib.hid (And.intro hfo (And.intro hb (HV.out.2.2.trans (hb.mono HV.out.2.2.size))))
        clear hfo hb
        by_cases hlt2 : k < i + 1
        · have hki2 : (k : Int) ≤ (i : Int) := by omega
          obtain ⟨⟨t2, c2, s2⟩, hp2⟩ : ∃ p, gs[k]? = some p := ⟨_, List.getElem?_eq_getElem (by omega)⟩
          obtain ⟨b', o', he, hbl2, hx⟩ := sl_elem gC_len H1.out.1 hp2 rfl
          cases he
          have hx2 := hx 2 _ (by omega) rfl
          have r0 : ∀ X : Cls fun W => Below w.heap.size w W, X.W.cell? ⟨b, o + k * 3, none⟩ = some (.int .i64 t2) := fun X => (X.h.cell (p := ⟨b, _, none⟩) hbl2).trans (hx 0 _ (by omega) rfl)
          have r1 : ∀ X : Cls fun W => Below w.heap.size w W, X.W.cell? ⟨b, o + k * 3 + 1, none⟩ = some (.int .i64 c2) := fun X => (X.h.cell (p := ⟨b, _, none⟩) hbl2).trans (hx 1 _ (by omega) rfl)
          have r2 : wr.cell? ⟨b, o + k * 3 + 2, none⟩ = some (.string s2) := (HK.out.2.2.cell (p := ⟨b, _, none⟩) hbl2).trans (hx 2 _ (by omega) rfl)
          have HN := Lib.hid (ofK_take hp2 t c)
          clear hx hp2 hbl2 hx2
          by_cases e1 : t2 = t
          · have g1 : (t2 != t) = false := by simpa using e1
            by_cases e2 : c2 = c
            · have g2 : (c2 != c) = false := by simpa using e2
              have HE := Lib.hid (And.intro e1 e2)
              clear e1 e2
              go_wp2_with fail
              refine wp_region_sub [] (fun W => Below w.heap.size w W) (by kernel_rfl) (by kernel_rfl) (HK.out.2.2.drew) (fun _ => ?_)
              iterate 24 (refine mix_read (by kernel_rfl) (by rfl) (by rfl) (by rfl) (of_decide_eq_true (by kernel_rfl)) ?_; apply Exists.intro; apply Exists.intro; refine ⟨fun w' hw' K hK => ?_, ?_, ?_⟩; (obtain ⟨X, rfl⟩ := hw'; go_wp2_with fail; first | exact ⟨rfl, rfl⟩ | exact rfl); rfl)
              refine mix_nil ?_
              go_wp2_with fail
              refine (find_ok _ ps at_ s2 wr.drew ((HV.out.1.below HK.out.2.1).keep (fun _ _ _ _ _ => rfl) (Nat.le_refl _)) hat).mono ?_
              rintro e w5 ⟨rfl, hres⟩
              rcases hres with ⟨rfl, hno⟩ | ⟨n, rfl, hnl, hyes⟩
              · have HF := Lib.hid (show foldS stepW (ps.map (·.2.1.2.2)) (ofK (gs.take (k + 1)) t c) = none by rw [HN.out, if_pos HE.out, foldS_snoc, HK.out.1, Option.bind_some, hno])
                clear hno
                go_wp2_with fail
                go_ret
                exact ⟨by rw [HI.out.2.stop HP.out.1 (by rw [← HV.out.2.1]; exact foldS_take (by omega) HF.out)]; rfl, HK.out.2.2.drew⟩
              · have HF := Lib.hid (show foldS stepW (ps.map (·.2.1.2.2)) (ofK (gs.take (k + 1)) t c) = some ((ps.map (·.2.1.2.2)).drop (n + 1)) by rw [HN.out, if_pos HE.out, foldS_snoc, HK.out.1, Option.bind_some, hyes])
                clear hyes
                go_wp2_with fail
                go_roundg (i + 1 - (k + 1))
                case measure => omega
                case rel => exact ⟨n + 1, k + 1, by omega, rfl, by go_num, by go_num, by omega, HF.out, HK.out.2.1.drew⟩
            · have g2 : (c2 != c) = true := by simpa using e2
              have HE := Lib.hid e2
              clear e1 e2
              go_wp2_with fail
              refine wp_region_sub [] (fun W => Below w.heap.size w W) (by kernel_rfl) (by kernel_rfl) (HK.out.2.2.drew) (fun _ => ?_)
              iterate 24 (refine mix_read (by kernel_rfl) (by rfl) (by rfl) (by rfl) (of_decide_eq_true (by kernel_rfl)) ?_; apply Exists.intro; apply Exists.intro; refine ⟨fun w' hw' K hK => ?_, ?_, ?_⟩; (obtain ⟨X, rfl⟩ := hw'; go_wp2_with fail; first | exact ⟨rfl, rfl⟩ | exact rfl); rfl)
              refine mix_nil ?_
              go_wp2_with fail
              go_roundg (i + 1 - (k + 1))
              case measure => omega
              case rel => exact ⟨at_, k + 1, by omega, rfl, by go_num, by go_num, hat, by rw [HN.out, if_neg (fun h => HE.out h.2), List.append_nil]; exact HK.out.1, HK.out.2.1.drew⟩
          · have g1 : (t2 != t) = true := by simpa using e1
            have HE := Lib.hid e1
            clear e1
            go_wp2_with fail
            refine wp_region_sub [] (fun W => Below w.heap.size w W) (by kernel_rfl) (by kernel_rfl) (HK.out.2.2.drew) (fun _ => ?_)
            iterate 12 (refine mix_read (by kernel_rfl) (by rfl) (by rfl) (by rfl) (of_decide_eq_true (by kernel_rfl)) ?_; apply Exists.intro; apply Exists.intro; refine ⟨fun w' hw' K hK => ?_, ?_, ?_⟩; (obtain ⟨X, rfl⟩ := hw'; go_wp2_with fail; first | exact ⟨rfl, rfl⟩ | exact rfl); rfl)
            iterate 11 (refine mix_skip (by kernel_rfl) ?_; simp only [Act.put, List.setIfInBounds_toArray, List.set_cons_succ, List.set_cons_zero])
            (refine mix_read (by kernel_rfl) (by rfl) (by rfl) (by rfl) (of_decide_eq_true (by kernel_rfl)) ?_; apply Exists.intro; apply Exists.intro; refine ⟨fun w' hw' K hK => ?_, ?_, ?_⟩; (obtain ⟨X, rfl⟩ := hw'; go_wp2_with fail; first | exact ⟨rfl, rfl⟩ | exact rfl); rfl)
            refine mix_nil ?_
            go_wp2_with fail
            go_roundg (i + 1 - (k + 1))
            case measure => omega
            case rel => exact ⟨at_, k + 1, by omega, rfl, by go_num, by go_num, hat, by rw [HN.out, if_neg (fun h => HE.out h.1), List.append_nil]; exact HK.out.1, HK.out.2.1.drew⟩
        · obtain rfl : k = i + 1 := by omega
          go_wp2_with fail
          go_roundg (gs.length - (i + 1))
          case measure => omega
          case rel => exact ⟨i + 1, by omega, rfl, by go_num, HK.out.2.2, HI.out.2.next HP.out.1 (by rw [← HV.out.2.1]; exact HK.out.1)⟩
    · obtain rfl : i = gs.length := by omega
      go_wp2_with fail
      go_ret
      exact ⟨by rw [HI.out.2.fin]; rfl, HI.out.1⟩

end Go.Proofs.Ytkpfebgmfkaglaa
