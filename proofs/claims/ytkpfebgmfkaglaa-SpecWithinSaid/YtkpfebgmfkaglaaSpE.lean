/- The reference's Prefix. -/
import Derived.Test.YtkpfebgmfkaglaaSpD
set_option linter.unusedSimpArgs false
set_option linter.unusedVariables false
namespace Go.Proofs.Ytkpfebgmfkaglaa
open Go.RowKit
attribute [local irreducible] wpMix

/-- A slice's element k, in whatever world that keeps what lay there. -/
theorem sl_elem {α : Type} {F : α → List Value} {s : Nat} (hF : ∀ x, (F x).length = s) {w : World} {A : Option Addr} {n cap : Nat} {l : List α} (h : SlAt w s (.slice A n cap) n (l.flatMap F)) {k : Nat} {x : α} (hp : l[k]? = some x) (hn : n = l.length) :
    ∃ b o, A = some ⟨b, o, none⟩ ∧ b < w.heap.size ∧ ∀ m u, m < s → (F x)[m]? = some u → w.cell? ⟨b, o + (k * s + m), none⟩ = some u := by
  have hk : k < l.length := (List.getElem?_eq_some_iff.1 hp).1
  obtain ⟨b, o, cap', he, hbl, _, _, hx⟩ := h.some (by omega)
  cases he
  exact ⟨b, o, rfl, hbl, fun m u hm hu => hx _ _ (by rw [flat_at F s hF _ _ _ hm, hp]; exact hu)⟩

set_option maxRecDepth 100000 in
set_option maxHeartbeats 8000000 in
theorem refPrefix_ok (v1 v2 : Value) (gs : List Gv) (acc : List Pk) (w : World)
    (h1 : SlAt w 3 v1 gs.length (gs.flatMap gC)) (h2 : SlAt w 5 v2 acc.length (acc.flatMap pC)) (hn : acc.length ≤ 1000000) :
    Calls Try.prog 8 #[v1, v2] w fun e w' => e = .returned (.int .i64 (firstF stepP (ofK (acc.map (·.2.1))) gs 0)) ∧ Below w.heap.size w w' := by
  obtain ⟨A, cap, rfl, hc, hm⟩ := h1.len
  unfold maxLen at hm
  have H1 := Lib.hid (And.intro h1 (And.intro h2 hn))
  clear h1 h2 hn
  go_enter Try.func8, Try.ntmps8
  go_wp2_with fail
  go_loopg [5] gs.length (fun gk p wr => ∃ i : Nat, i ≤ gs.length ∧ gs.length - i = gk ∧ p = .int .i64 (i : Nat) ∧ Below w.heap.size w wr ∧ Inv stepP (ofK (acc.map (·.2.1))) gs i)
  case atStart => exact ⟨0, by omega, rfl, rfl, Below.refl _ _, Inv.start _ _⟩
  case round =>
    obtain ⟨i, hi, rfl, rfl, hb, hI⟩ := hrel
    have hle := hb.size
    have HI := Lib.hid (And.intro hb hI)
    clear hb hI
    by_cases hlt : i < gs.length
    · have hki : (i : Int) < (gs.length : Int) := by omega
      obtain ⟨⟨t, c, s⟩, hp⟩ : ∃ p, gs[i]? = some p := ⟨_, List.getElem?_eq_getElem hlt⟩
      obtain ⟨b, o, rfl, hbl, hx⟩ := sl_elem gC_len H1.out.1 hp rfl
      have q0 : ∀ X : Cls fun W => Below w.heap.size w W, X.W.cell? ⟨b, o + i * 3, none⟩ = some (.int .i64 t) := fun X => (X.h.cell (p := ⟨b, _, none⟩) hbl).trans (hx 0 _ (by omega) rfl)
      have q1 : ∀ X : Cls fun W => Below w.heap.size w W, X.W.cell? ⟨b, o + i * 3 + 1, none⟩ = some (.int .i64 c) := fun X => (X.h.cell (p := ⟨b, _, none⟩) hbl).trans (hx 1 _ (by omega) rfl)
      have q2 : ∀ X : Cls fun W => Below w.heap.size w W, X.W.cell? ⟨b, o + i * 3 + 2, none⟩ = some (.string s) := fun X => (X.h.cell (p := ⟨b, _, none⟩) hbl).trans (hx 2 _ (by omega) rfl)
      have HP := Lib.hid (And.intro hp hbl)
      clear hx hp hbl
      go_wp2_with fail
      go_loopg [6, 7] i (fun gk q p wr' => ∃ n k : Nat, k ≤ i ∧ i - k = gk ∧ p = .int .i64 (k : Nat) ∧ q = .int .i64 (n : Nat) ∧ n ≤ k ∧ n = (ofK (gs.take k) t c).length ∧ Below w.heap.size w wr')
      case atStart => exact ⟨0, 0, by omega, rfl, rfl, rfl, by omega, by simp [ofK], HI.out.1⟩
      case round =>
        obtain ⟨n, k, hk, rfl, rfl, rfl, hnk, hnl, hb⟩ := hrel
        have HK := Lib.hid (And.intro hnl hb)
        clear hnl hb
        by_cases hlt2 : k < i
        · have hki2 : (k : Int) < (i : Int) := by omega
          obtain ⟨⟨t2, c2, s2⟩, hp2⟩ : ∃ p, gs[k]? = some p := ⟨_, List.getElem?_eq_getElem (by omega)⟩
          obtain ⟨b', o', he, hbl2, hx⟩ := sl_elem gC_len H1.out.1 hp2 rfl
          cases he
          have r0 : ∀ X : Cls fun W => Below w.heap.size w W, X.W.cell? ⟨b, o + k * 3, none⟩ = some (.int .i64 t2) := fun X => (X.h.cell (p := ⟨b, _, none⟩) hbl2).trans (hx 0 _ (by omega) rfl)
          have r1 : ∀ X : Cls fun W => Below w.heap.size w W, X.W.cell? ⟨b, o + k * 3 + 1, none⟩ = some (.int .i64 c2) := fun X => (X.h.cell (p := ⟨b, _, none⟩) hbl2).trans (hx 1 _ (by omega) rfl)
          have HN := Lib.hid (ofK_take hp2 t c)
          clear hx hp2 hbl2
          by_cases e1 : t2 = t
          · have g1 : (t2 == t) = true := by simpa using e1
            by_cases e2 : c2 = c
            · have g2 : (c2 == c) = true := by simpa using e2
              have HE := Lib.hid (And.intro e1 e2)
              clear e1 e2
              go_upto_region 8 with fail
              refine wp_region_sub [] (fun W => Below w.heap.size w W) (by kernel_rfl) (by kernel_rfl) (HK.out.2.drew) (fun _ => ?_)
              iterate 24 (refine mix_read (by kernel_rfl) (by rfl) (by rfl) (by rfl) (of_decide_eq_true (by kernel_rfl)) ?_; apply Exists.intro; apply Exists.intro; refine ⟨fun w' hw' K hK => ?_, ?_, ?_⟩; (obtain ⟨X, rfl⟩ := hw'; go_wp2_with fail; first | exact ⟨rfl, rfl⟩ | exact rfl); rfl)
              refine mix_nil ?_
              go_wp2_with fail
              go_roundg (i - (k + 1))
              case measure => omega
              case rel => exact ⟨n + 1, k + 1, by omega, rfl, by go_num, by go_num, by omega, by rw [HN.out, if_pos HE.out, List.length_append, ← HK.out.1]; rfl, HK.out.2.drew⟩
            · have g2 : (c2 == c) = false := by simpa using e2
              have HE := Lib.hid e2
              clear e1 e2
              go_upto_region 8 with fail
              refine wp_region_sub [] (fun W => Below w.heap.size w W) (by kernel_rfl) (by kernel_rfl) (HK.out.2.drew) (fun _ => ?_)
              iterate 24 (refine mix_read (by kernel_rfl) (by rfl) (by rfl) (by rfl) (of_decide_eq_true (by kernel_rfl)) ?_; apply Exists.intro; apply Exists.intro; refine ⟨fun w' hw' K hK => ?_, ?_, ?_⟩; (obtain ⟨X, rfl⟩ := hw'; go_wp2_with fail; first | exact ⟨rfl, rfl⟩ | exact rfl); rfl)
              refine mix_nil ?_
              go_wp2_with fail
              go_roundg (i - (k + 1))
              case measure => omega
              case rel => exact ⟨n, k + 1, by omega, rfl, by go_num, by go_num, by omega, by rw [HN.out, if_neg (fun h => HE.out h.2), List.append_nil]; exact HK.out.1, HK.out.2.drew⟩
          · have g1 : (t2 == t) = false := by simpa using e1
            have HE := Lib.hid e1
            clear e1
            go_upto_region 8 with fail
            refine wp_region_sub [] (fun W => Below w.heap.size w W) (by kernel_rfl) (by kernel_rfl) (HK.out.2.drew) (fun _ => ?_)
            iterate 12 (refine mix_read (by kernel_rfl) (by rfl) (by rfl) (by rfl) (of_decide_eq_true (by kernel_rfl)) ?_; apply Exists.intro; apply Exists.intro; refine ⟨fun w' hw' K hK => ?_, ?_, ?_⟩; (obtain ⟨X, rfl⟩ := hw'; go_wp2_with fail; first | exact ⟨rfl, rfl⟩ | exact rfl); rfl)
            iterate 11 (refine mix_skip (by kernel_rfl) ?_; simp only [Act.put, List.setIfInBounds_toArray, List.set_cons_succ, List.set_cons_zero])
            (refine mix_read (by kernel_rfl) (by rfl) (by rfl) (by rfl) (of_decide_eq_true (by kernel_rfl)) ?_; apply Exists.intro; apply Exists.intro; refine ⟨fun w' hw' K hK => ?_, ?_, ?_⟩; (obtain ⟨X, rfl⟩ := hw'; go_wp2_with fail; first | exact ⟨rfl, rfl⟩ | exact rfl); rfl)
            refine mix_nil ?_
            go_wp2_with fail
            go_roundg (i - (k + 1))
            case measure => omega
            case rel => exact ⟨n, k + 1, by omega, rfl, by go_num, by go_num, by omega, by rw [HN.out, if_neg (fun h => HE.out h.1), List.append_nil]; exact HK.out.1, HK.out.2.drew⟩
        · obtain rfl : k = i := by omega
          go_upto_region 10 with fail
          refine wp_region_sub [11] (fun W => Below w.heap.size w W) (by kernel_rfl) (by kernel_rfl) (HK.out.2.drew) (fun _ => ?_)
          iterate 11 (refine mix_read (by kernel_rfl) (by rfl) (by rfl) (by rfl) (of_decide_eq_true (by kernel_rfl)) ?_; apply Exists.intro; apply Exists.intro; refine ⟨fun w' hw' K hK => ?_, ?_, ?_⟩; (obtain ⟨X, rfl⟩ := hw'; go_wp2_with fail; first | exact ⟨rfl, rfl⟩ | exact rfl); rfl)
          (refine mix_act (by rfl) (by rfl) (fun K hK => ?_))
          go_wp2_with fail
          refine (of_ok v2 acc t c wr.drew ((H1.out.2.1.below (HK.out.2.mono (Nat.le_refl _))).keep (fun _ _ _ _ _ => rfl) (Nat.le_refl _)) H1.out.2.2).mono ?_
          rintro e w2 ⟨hb2, v', rfl, hv'⟩
          obtain ⟨A3, cap3, rfl, hc3, hm3⟩ := hv'.len
          unfold maxLen at hm3
          generalize hps : acc.filter (isK t c) = ps at *
          have hbw : Below w.heap.size w w2 := HK.out.2.drew.trans (hb2.mono (by have := HK.out.2.size; simpa using this))
          have HV := Lib.hid (And.intro hv' (And.intro hps hbw))
          clear hv' hps hb2 hbw
          go_wp2_with fail
          refine ⟨.mk HV.out.2.2, ?_⟩
          (refine mix_read (by kernel_rfl) (by rfl) (by rfl) (by rfl) (of_decide_eq_true (by kernel_rfl)) ?_; apply Exists.intro; apply Exists.intro; refine ⟨fun w' hw' K hK => ?_, ?_, ?_⟩; (obtain ⟨X, rfl⟩ := hw'; go_wp2_with fail; first | exact ⟨rfl, rfl⟩ | exact rfl); rfl)
          refine mix_nil ?_
          have hL : ps.map (·.2.1.2.2) = ofK (acc.map (·.2.1)) t c := by rw [← HV.out.2.1]; exact isK_of acc t c
          have hfs : foldS stepP (ofK (acc.map (·.2.1)) t c) (ofK (gs.take (k + 1)) t c) = stepP ((ps.map (·.2.1.2.2)).drop n) s := by
            obtain ⟨r, hr⟩ := HI.out.2.here t c
            have := foldP_drop _ _ _ hr
            rw [ofK_take HP.out.1, if_pos ⟨rfl, rfl⟩, foldS_snoc, hr, this, Option.bind_some, hL, ← HK.out.1]
          have HFS := Lib.hid hfs
          clear hL hfs
          have q3 : ∀ X : Cls fun W => Below w2.heap.size w2 W, X.W.cell? ⟨b, o + k * 3 + 2, none⟩ = some (.string s) := fun X => q2 ⟨X.W, HV.out.2.2.trans (X.h.mono HV.out.2.2.size)⟩
          clear q0 q1 q2
          by_cases hnp : n < ps.length
          · obtain ⟨⟨no, ⟨tt, cc, x⟩, at_⟩, hp⟩ : ∃ p, ps[n]? = some p := ⟨_, List.getElem?_eq_getElem hnp⟩
            obtain ⟨b5, o5, rfl, hbl5, hx⟩ := sl_elem pC_len HV.out.1 hp rfl
            have q5 : ∀ X : Cls fun W => Below w2.heap.size w2 W, X.W.cell? ⟨b5, o5 + n * 5 + 3, none⟩ = some (.string x) := fun X => (X.h.cell (p := ⟨b5, _, none⟩) hbl5).trans (hx 3 _ (by omega) rfl)
            have hxn : (ps.map (·.2.1.2.2))[n]? = some x := by rw [List.getElem?_map, hp]; rfl
            have HX := Lib.hid hxn
            have g1 : decide ((ps.length : Int) ≤ (n : Int)) = false := by rw [decide_eq_false_iff_not]; omega
            have g1' : decide (ps.length ≤ n) = false := by rw [decide_eq_false_iff_not]; omega
            have g2 : (n : Int) < (ps.length : Int) := by omega
            clear hx hp hxn hbl5
            by_cases e : x = s
            · have g3 := str_beq_true e
              have HE := Lib.hid e
              clear e
              go_wp2_with fail
              refine wp_region_sub [] (fun W => Below w2.heap.size w2 W) (by kernel_rfl) (by kernel_rfl) ((Below.refl _ _).drew) (fun _ => ?_)
              iterate 17 (refine mix_read (by kernel_rfl) (by rfl) (by rfl) (by rfl) (of_decide_eq_true (by kernel_rfl)) ?_; apply Exists.intro; apply Exists.intro; refine ⟨fun w' hw' K hK => ?_, ?_, ?_⟩; (obtain ⟨X, rfl⟩ := hw'; go_wp2_with fail; first | exact ⟨rfl, rfl⟩ | exact rfl); rfl)
              refine mix_nil ?_
              go_wp2_with fail
              go_roundg (gs.length - (k + 1))
              case measure => omega
              case rel => exact ⟨k + 1, by omega, rfl, by go_num, HV.out.2.2.drew, HI.out.2.next HP.out.1 (by rw [HFS.out]; exact stepP_some (by rw [HX.out, HE.out]))⟩
            · have g3 := str_beq_false e
              have HE := Lib.hid e
              clear e
              go_wp2_with fail
              refine wp_region_sub [] (fun W => Below w2.heap.size w2 W) (by kernel_rfl) (by kernel_rfl) ((Below.refl _ _).drew) (fun _ => ?_)
              iterate 17 (refine mix_read (by kernel_rfl) (by rfl) (by rfl) (by rfl) (of_decide_eq_true (by kernel_rfl)) ?_; apply Exists.intro; apply Exists.intro; refine ⟨fun w' hw' K hK => ?_, ?_, ?_⟩; (obtain ⟨X, rfl⟩ := hw'; go_wp2_with fail; first | exact ⟨rfl, rfl⟩ | exact rfl); rfl)
              refine mix_nil ?_
              go_wp2_with fail
              go_ret
              exact ⟨by rw [HI.out.2.stop HP.out.1 (by rw [HFS.out]; exact stepP_none (by rw [HX.out]; intro h; exact HE.out (Option.some.inj h)))]; rfl, HV.out.2.2.drew⟩
          · have g1 : decide ((ps.length : Int) ≤ (n : Int)) = true := by rw [decide_eq_true_iff]; omega
            have g1' : decide (ps.length ≤ n) = true := by rw [decide_eq_true_iff]; omega
            go_wp2_with fail
            refine wp_region_sub [] (fun W => Below w2.heap.size w2 W) (by kernel_rfl) (by kernel_rfl) ((Below.refl _ _).drew) (fun _ => ?_)
            iterate 5 (refine mix_read (by kernel_rfl) (by rfl) (by rfl) (by rfl) (of_decide_eq_true (by kernel_rfl)) ?_; apply Exists.intro; apply Exists.intro; refine ⟨fun w' hw' K hK => ?_, ?_, ?_⟩; (obtain ⟨X, rfl⟩ := hw'; go_wp2_with fail; first | exact ⟨rfl, rfl⟩ | exact rfl); rfl)
            iterate 11 (refine mix_skip (by kernel_rfl) ?_; simp only [Act.put, List.setIfInBounds_toArray, List.set_cons_succ, List.set_cons_zero])
            (refine mix_read (by kernel_rfl) (by rfl) (by rfl) (by rfl) (of_decide_eq_true (by kernel_rfl)) ?_; apply Exists.intro; apply Exists.intro; refine ⟨fun w' hw' K hK => ?_, ?_, ?_⟩; (obtain ⟨X, rfl⟩ := hw'; go_wp2_with fail; first | exact ⟨rfl, rfl⟩ | exact rfl); rfl)
            refine mix_nil ?_
            go_wp2_with fail
            go_ret
            exact ⟨by rw [HI.out.2.stop HP.out.1 (by rw [HFS.out]; exact stepP_none (by rw [List.getElem?_eq_none (by simp; omega)]; simp))]; rfl, HV.out.2.2.drew⟩
    · obtain rfl : i = gs.length := by omega
      go_wp2_with fail
      go_ret
      exact ⟨by rw [HI.out.2.fin]; rfl, HI.out.1⟩

end Go.Proofs.Ytkpfebgmfkaglaa
