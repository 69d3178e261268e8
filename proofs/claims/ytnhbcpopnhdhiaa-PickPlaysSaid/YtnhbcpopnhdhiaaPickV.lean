/- The reference's first. -/
import Derived.Test.YtnhbcpopnhdhiaaPickU
import Derived.BigQuiet
import Derived.WalkSmall
set_option linter.unusedSimpArgs false
set_option linter.unusedVariables false
namespace Go.Proofs.Ytnhbcpopnhdhiaa
open Go.RowKit Go.Shelf
attribute [local irreducible] wpMix

/-- Who is asked for, by mode (0: any) and by what. -/
def askR (mode what : Int) (c : Cv) : Bool := (!decide (0 < mode) || c.2.1 == mode) && ((what != 1 || c.2.2.1) && (what != 2 || c.2.2.2))
/-- at is the place of the first one so far. -/
def AtR (p : Cv → Bool) (l : List Cv) (r : Int) : Prop := (someP p l = none ∧ r = -1) ∨ ∃ (i : Nat) (c : Cv), r = i ∧ l[i]? = some c ∧ someP p l = some c
theorem someP_snoc (p : Cv → Bool) (l : List Cv) (c : Cv) : someP p (l ++ [c]) = better (fun x => countsF x && p x) (someP p l) c := by unfold someP firstP; rw [List.foldl_append]; rfl

theorem AtR.up {p : Cv → Bool} {l : List Cv} {k : Nat} {r : Int} {x : Cv} (h : AtR p (l.take k) r) (hx : l[k]? = some x) (hb : better (fun x => countsF x && p x) (someP p (l.take k)) x = someP p (l.take k)) : AtR p (l.take (k + 1)) r := by
  have et : l.take (k + 1) = l.take k ++ [x] := by rw [List.take_add_one, hx]; rfl
  unfold AtR
  rw [et, someP_snoc, hb]
  refine h.imp id ?_
  rintro ⟨i, c, h1, h2, h3⟩
  exact ⟨i, c, h1, by rw [List.getElem?_append_left (List.getElem?_eq_some_iff.1 h2).1]; exact h2, h3⟩
theorem AtR.new {p : Cv → Bool} {l : List Cv} {k : Nat} {x : Cv} (hx : l[k]? = some x) (hb : better (fun x => countsF x && p x) (someP p (l.take k)) x = some x) : AtR p (l.take (k + 1)) k := by
  have et : l.take (k + 1) = l.take k ++ [x] := by rw [List.take_add_one, hx]; rfl
  have hk := (List.getElem?_eq_some_iff.1 hx).1
  right
  refine ⟨k, x, rfl, by rw [List.getElem?_take_of_lt (by omega)]; exact hx, by rw [et, someP_snoc, hb]⟩

set_option maxRecDepth 100000 in
set_option maxHeartbeats 4000000 in
theorem rfirst_any (A : Option Addr) (cap : Nat) (l : List Cv) (mode what : Int) (w : World) (hcap : l.length ≤ cap ∧ cap ≤ maxLen) (hl : SlAt w 4 (.slice A l.length cap) l.length (l.flatMap cC)) (hnn : ∀ c ∈ l, 0 ≤ c.1) :
    Calls Try.prog 31 #[.slice A l.length cap, .int .i64 mode, .int .i64 what] w fun e w' => Below w.heap.size w w' ∧ ∃ r, e = .returned (.int .i64 r) ∧ AtR (askR mode what) l r := by
  obtain ⟨hcl, hcm⟩ := hcap
  unfold maxLen at hcm
  have HL := Lib.hid (And.intro hl hnn)
  clear hl hnn
  go_enter Try.func31, Try.ntmps31
  go_wp2_with fail
  go_loopg [7, 8] l.length (fun gk at' i wr => ∃ (k : Nat) (r : Int), k ≤ l.length ∧ l.length - k = gk ∧ i = .int .i64 (k : Nat) ∧ at' = .int .i64 r ∧ AtR (askR mode what) (l.take k) r ∧ Below w.heap.size w wr)
  case atStart => exact ⟨0, -1, by omega, rfl, rfl, rfl, .inl ⟨rfl, rfl⟩, Below.refl _ _⟩
  case round =>
    obtain ⟨k, r, hk, rfl, rfl, rfl, hat, hbr⟩ := hrel
    by_cases hlt : k < l.length
    · have hki : (k : Int) < (l.length : Int) := by omega
      obtain ⟨b, o, cap', he', hbl, _, _, hx⟩ := HL.out.1.some (by omega)
      cases he'
      obtain ⟨⟨n, m, vo, ol⟩, hp'⟩ : ∃ x, l[k]? = some x := ⟨_, List.getElem?_eq_getElem hlt⟩
      have hx' : ∀ j u, j < 4 → (cC (n, m, vo, ol))[j]? = some u → wr.cell? ⟨b, o + (k * 4 + j), none⟩ = some u := fun j u hm hu =>
        (hbr.cell (p := ⟨b, _, none⟩) hbl).trans (hx _ _ (by rw [flat_at cC 4 cC_len _ _ _ hm, hp']; exact hu))
      have e0 := hx' 0 _ (by omega) rfl
      have e1 := hx' 1 _ (by omega) rfl
      have e2 := hx' 2 _ (by omega) rfl
      have e3 := hx' 3 _ (by omega) rfl
      simp only [Nat.add_zero, ← Nat.add_assoc] at e0 e1 e2 e3
      have hnn := HL.out.2 (n, m, vo, ol) (List.mem_of_getElem? hp')
      dsimp only at hnn
      have et : l.take (k + 1) = l.take k ++ [(n, m, vo, ol)] := by rw [List.take_add_one, hp']; rfl
      -- what stands at the place so far
      have hprev : 0 ≤ r → ∃ (i : Nat) (c : Cv), r = i ∧ i < l.length ∧ someP (askR mode what) (l.take k) = some c ∧ wr.cell? ⟨b, o + i * 4, none⟩ = some (.int .u64 c.1) := by
        intro hr
        rcases hat with ⟨_, h⟩ | ⟨i, c, h1, h2, h3⟩
        · omega
        · have hik : i < k := by have := (List.getElem?_eq_some_iff.1 h2).1; rw [List.length_take] at this; omega
          have h4 : l[i]? = some c := by rw [List.getElem?_take_of_lt hik] at h2; exact h2
          refine ⟨i, c, h1, by omega, h3, (hbr.cell (p := ⟨b, _, none⟩) hbl).trans (hx _ _ ?_)⟩
          have := flat_at cC 4 cC_len l i 0 (by decide)
          rw [Nat.add_zero] at this
          rw [this, h4]; rfl
      have HK := Lib.hid (And.intro hat (And.intro hbr (And.intro et hp')))
      have HP := Lib.hid hprev
      have hbl' : b < wr.heap.size := Nat.lt_of_lt_of_le hbl hbr.size
      clear hx hx' hp' hat hbr et hprev
      go_upto_region 6 with fail
      have z := Blk.new wr 45 #[.int .u64 n, .int .i64 m, .bool vo, .bool ol]
      have hbx := (Below.refl wr.heap.size wr).alloc (Nat.le_refl _) (.cells #[.int .u64 n, .int .i64 m, .bool vo, .bool ol] 45)
      generalize hgx : wr.heap.size = gx at z ⊢
      generalize World.alloc _ _ = W1 at z hbx ⊢
      have c0 := z.cell 0
      have c1 := z.cell 1
      have c2 := z.cell 2
      have c3 := z.cell 3
      have hzl := z.lt
      simp only [List.getElem?_toArray, List.getElem?_cons_zero, List.getElem?_cons_succ] at c0 c1 c2 c3
      have HW := Lib.hid (And.intro hbx z)
      clear z hbx hgx e0 e1 e2 e3
      -- is it passed over?
      obtain ⟨sk, hsk⟩ : ∃ sk, (!(countsF (n, m, vo, ol) && askR mode what (n, m, vo, ol))) = sk := ⟨_, rfl⟩
      have HSK := Lib.hid hsk
      clear hsk
      go_cut [60] from 20 to 60 (fun x wx => x = .bool sk ∧ W1 = wx)
      case first => as_aux_lemma =>
        by_cases h1 : n = 0
        · have g1 : (n == 0) = true := beq_iff_eq.2 h1
          have hv := HSK.out.symm.trans (show _ = true by simp only [countsF]; rw [decide_eq_false (by omega)]; rfl)
          subst hv
          clear HSK
          go_wp2_with fail
          go_meet
          exact ⟨rfl, rfl⟩
        · have g1 : (n == 0) = false := beq_eq_false_iff_ne.2 h1
          by_cases h2 : m < 1
          · have g2 : decide (m < 1) = true := decide_eq_true h2
            have hv := HSK.out.symm.trans (show _ = true by simp only [countsF]; rw [decide_eq_false (by omega)]; rfl)
            subst hv
            clear HSK
            go_wp2_with fail
            go_meet
            exact ⟨rfl, rfl⟩
          · have g2 : decide (m < 1) = false := decide_eq_false h2
            by_cases h3 : 28 < m
            · have g3 : decide (28 < m) = true := decide_eq_true h3
              have hv := HSK.out.symm.trans (show _ = true by simp only [countsF]; rw [decide_eq_false (by omega)]; rfl)
              subst hv
              clear HSK
              go_wp2_with fail
              go_meet
              exact ⟨rfl, rfl⟩
            · have g3 : decide (28 < m) = false := decide_eq_false h3
              have hc : countsF (n, m, vo, ol) = true := decide_eq_true (by dsimp only; omega)
              by_cases h4 : 0 < mode
              · have g4 : decide (0 < mode) = true := decide_eq_true h4
                by_cases h7 : m = mode
                · subst h7
                  have ga : (!decide (0 < m) || m == m) = true := by simp
                  by_cases h5 : what = 1
                  · subst h5
                    cases vo with
                    | false =>
                      have hv := HSK.out.symm.trans (show _ = true by rw [hc]; simp [askR])
                      subst hv
                      clear HSK
                      go_wp2_with fail
                      go_meet
                      exact ⟨rfl, rfl⟩
                    | true =>
                      have hv := HSK.out.symm.trans (show _ = false by rw [hc]; simp [askR, ga])
                      subst hv
                      clear HSK
                      go_wp2_with fail
                      go_meet
                      exact ⟨rfl, rfl⟩
                  · have g5 : (what == 1) = false := beq_eq_false_iff_ne.2 h5
                    by_cases h6 : what = 2
                    · subst h6
                      cases ol with
                      | false =>
                        have hv := HSK.out.symm.trans (show _ = true by rw [hc]; simp [askR])
                        subst hv
                        clear HSK
                        go_wp2_with fail
                        go_meet
                        exact ⟨rfl, rfl⟩
                      | true =>
                        have hv := HSK.out.symm.trans (show _ = false by rw [hc]; simp [askR, ga])
                        subst hv
                        clear HSK
                        go_wp2_with fail
                        go_meet
                        exact ⟨rfl, rfl⟩
                    · have g6 : (what == 2) = false := beq_eq_false_iff_ne.2 h6
                      have hv := HSK.out.symm.trans (show _ = false by rw [hc]; simp [askR, ga, h5, h6])
                      subst hv
                      clear HSK
                      go_wp2_with fail
                      go_meet
                      exact ⟨rfl, rfl⟩
                · have g7 : (m == mode) = false := beq_eq_false_iff_ne.2 h7
                  have hv := HSK.out.symm.trans (show _ = true by rw [hc]; simp [askR, g4, g7])
                  subst hv
                  clear HSK
                  go_wp2_with fail
                  go_meet
                  exact ⟨rfl, rfl⟩
              · have g4 : decide (0 < mode) = false := decide_eq_false h4
                have ga : (!decide (0 < mode) || m == mode) = true := by rw [g4]; rfl
                by_cases h5 : what = 1
                · subst h5
                  cases vo with
                  | false =>
                    have hv := HSK.out.symm.trans (show _ = true by rw [hc]; simp [askR])
                    subst hv
                    clear HSK
                    go_wp2_with fail
                    go_meet
                    exact ⟨rfl, rfl⟩
                  | true =>
                    have hv := HSK.out.symm.trans (show _ = false by rw [hc]; simp [askR, ga])
                    subst hv
                    clear HSK
                    go_wp2_with fail
                    go_meet
                    exact ⟨rfl, rfl⟩
                · have g5 : (what == 1) = false := beq_eq_false_iff_ne.2 h5
                  by_cases h6 : what = 2
                  · subst h6
                    cases ol with
                    | false =>
                      have hv := HSK.out.symm.trans (show _ = true by rw [hc]; simp [askR])
                      subst hv
                      clear HSK
                      go_wp2_with fail
                      go_meet
                      exact ⟨rfl, rfl⟩
                    | true =>
                      have hv := HSK.out.symm.trans (show _ = false by rw [hc]; simp [askR, ga])
                      subst hv
                      clear HSK
                      go_wp2_with fail
                      go_meet
                      exact ⟨rfl, rfl⟩
                  · have g6 : (what == 2) = false := beq_eq_false_iff_ne.2 h6
                    have hv := HSK.out.symm.trans (show _ = false by rw [hc]; simp [askR, ga, h5, h6])
                    subst hv
                    clear HSK
                    go_wp2_with fail
                    go_meet
                    exact ⟨rfl, rfl⟩
      case rest =>
        obtain ⟨rfl, rfl⟩ := hcut
        obtain ⟨ok, hok⟩ : ∃ ok, (countsF (n, m, vo, ol) && askR mode what (n, m, vo, ol)) = ok := ⟨_, rfl⟩
        have hsk := HSK.out
        rw [hok] at hsk
        subst hsk
        have HO := Lib.hid hok
        clear HSK
        have hbw : Below w.heap.size w W1 := HK.out.2.1.trans (HW.out.1.mono HK.out.2.1.size)
        have HB := Lib.hid hbw
        clear hok hbw
        cases ok with
        | false =>
          go_wp2_with fail
          go_roundg (l.length - (k + 1))
          case measure => omega
          case rel => exact ⟨k + 1, r, by omega, rfl, by go_num, rfl, HK.out.1.up HK.out.2.2.2 (by unfold better; simp only; rw [HO.out, if_neg Bool.false_ne_true]), HB.out⟩
        | true =>
          go_upto_region 7 with fail
          by_cases hr : r < 0
          · have g1 : decide (r < 0) = true := decide_eq_true hr
            go_quiet (fail)
            go_wp2_with fail
            go_roundg (l.length - (k + 1))
            case measure => omega
            case rel =>
              refine ⟨k + 1, k, by omega, rfl, by go_num, rfl, .new HK.out.2.2.2 ?_, below_drewN HB.out _⟩
              have hn : someP (askR mode what) (l.take k) = none := by
                rcases HK.out.1 with ⟨h, _⟩ | ⟨i, c, h, _⟩
                · exact h
                · omega
              unfold better; simp only; rw [HO.out, if_pos rfl, hn]
          · have g1 : decide (r < 0) = false := decide_eq_false hr
            obtain ⟨i, c, rfl, hil, hsome, hcell⟩ := HP.out (by omega)
            have d0 := (HW.out.1.cell (p := ⟨b, _, none⟩) hbl').trans hcell
            have hii : (i : Int) < (l.length : Int) := by omega
            have hblW : b < W1.heap.size := Nat.lt_of_lt_of_le hbl' HW.out.1.size
            have HS := Lib.hid hsome
            clear hcell hsome
            obtain ⟨cn, ecn⟩ : ∃ cn, c.1 = cn := ⟨_, rfl⟩
            rw [ecn] at d0
            have HC := Lib.hid ecn
            clear ecn
            by_cases hlt2 : n < cn
            · have g2 : decide (n < cn) = true := decide_eq_true hlt2
              go_quiet (fail)
              go_wp2_with fail
              go_roundg (l.length - (k + 1))
              case measure => omega
              case rel =>
                refine ⟨k + 1, k, by omega, rfl, by go_num, rfl, .new HK.out.2.2.2 ?_, below_drewN HB.out _⟩
                unfold better; simp only; rw [HO.out, if_pos rfl, HS.out]
                simp only
                rw [if_pos (by rw [HC.out]; exact hlt2)]
            · have g2 : decide (n < cn) = false := decide_eq_false hlt2
              go_quiet (fail)
              go_wp2_with fail
              go_roundg (l.length - (k + 1))
              case measure => omega
              case rel =>
                refine ⟨k + 1, i, by omega, rfl, by go_num, rfl, HK.out.1.up HK.out.2.2.2 ?_, below_drewN HB.out _⟩
                unfold better; simp only; rw [HO.out, if_pos rfl, HS.out]
                simp only
                rw [if_neg (by rw [HC.out]; omega)]
    · obtain rfl : k = l.length := by omega
      have HK := Lib.hid (And.intro hat hbr)
      clear hat hbr
      go_wp2_with fail
      go_ret
      have h := HK.out.1
      rw [List.take_length] at h
      exact ⟨HK.out.2, _, rfl, h⟩

end Go.Proofs.Ytnhbcpopnhdhiaa
