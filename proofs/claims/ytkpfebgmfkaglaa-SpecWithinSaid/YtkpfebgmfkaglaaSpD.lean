/- The reference's lists: of a terminal and class; where bytes lie. -/
import Derived.Test.YtkpfebgmfkaglaaSpP
set_option linter.unusedSimpArgs false
set_option linter.unusedVariables false
namespace Go.Proofs.Ytkpfebgmfkaglaa
open Go.RowKit
attribute [local irreducible] wpMix

def isK (t c : Int) (p : Pk) : Bool := p.2.1.1 == t && p.2.1.2.1 == c
theorem isK_of (acc : List Pk) (t c : Int) : (acc.filter (isK t c)).map (·.2.1.2.2) = ofK (acc.map (·.2.1)) t c := by
  unfold ofK
  rw [List.filter_map, List.map_map]; rfl

theorem pk_info : (Try.prog.info? 38).map (fun i => (i.zero, i.size, i.bytes)) = some (some (.agg #[.int .u64 0, .int .i64 0, .int .i64 0, .string ByteArray.empty, .int .u64 0]), 5, 48) := by kernel_rfl

set_option maxRecDepth 100000 in
set_option maxHeartbeats 2000000 in
theorem of_ok (v : Value) (acc : List Pk) (t c : Int) (w : World) (hv : SlAt w 5 v acc.length (acc.flatMap pC)) (hn : acc.length ≤ 1000000) :
    Calls Try.prog 19 #[v, .int .i64 t, .int .i64 c] w fun e w' => Below w.heap.size w w' ∧ ∃ v', e = .returned v' ∧ SlAt w' 5 v' (acc.filter (isK t c)).length ((acc.filter (isK t c)).flatMap pC) := by
  obtain ⟨A, cap, rfl, hc, hm⟩ := hv.len
  unfold maxLen at hm
  have HV := Lib.hid hv
  obtain ⟨i0, hi, hz0, hz1, hz2⟩ := info_parts pk_info
  clear hv
  go_enter Try.func19, Try.ntmps19
  go_wp2_with fail
  go_loopg [7, 8] acc.length (fun gk q p wr => ∃ k ps, k ≤ acc.length ∧ acc.length - k = gk ∧ p = .int .i64 (k : Nat) ∧ Below w.heap.size w wr ∧ ps = (acc.take k).filter (isK t c) ∧ OwnsAt wr w.heap.size 38 5 q ps.length (ps.flatMap pC))
  case atStart => exact ⟨0, [], by omega, rfl, rfl, Below.refl _ _, by simp, OwnsAt.nil _ _ _ _⟩
  case round =>
    obtain ⟨k, ps, hk, rfl, rfl, hb, hps, ho⟩ := hrel
    obtain ⟨A2, cap2, rfl, hc2⟩ := ho.len
    have hpl : ps.length ≤ acc.length := by rw [hps]; exact Nat.le_trans (List.length_filter_le _ _) (by simp; omega)
    have HG := Lib.hid (And.intro hb (And.intro hps (And.intro ho hpl)))
    have hle := hb.size
    clear hb hps ho hpl
    by_cases hlt : k < acc.length
    · have hki : (k : Int) < (acc.length : Int) := by omega
      obtain ⟨b, o, cap', he, hbl, _, _, hx⟩ := HV.out.some (by omega)
      cases he
      obtain ⟨⟨no, ⟨tt, cc, s⟩, at_⟩, hp⟩ : ∃ p, acc[k]? = some p := ⟨_, List.getElem?_eq_getElem hlt⟩
      have hx' : ∀ m u, m < 5 → (pC (no, (tt, cc, s), at_))[m]? = some u → wr.cell? ⟨b, o + (k * 5 + m), none⟩ = some u := fun m u hm hu =>
        (HG.out.1.cell (p := ⟨b, _, none⟩) hbl).trans (hx _ _ (by rw [flat_at pC 5 pC_len _ _ _ hm, hp]; exact hu))
      have e0 := hx' 0 _ (by omega) rfl
      have e1 := hx' 1 _ (by omega) rfl
      have e2 := hx' 2 _ (by omega) rfl
      have e3 := hx' 3 _ (by omega) rfl
      have e4 := hx' 4 _ (by omega) rfl
      simp only [Nat.add_zero, ← Nat.add_assoc] at e0 e1 e2 e3 e4
      have htk : ∀ q : Pk → Bool, (acc.take (k + 1)).filter q = (acc.take k).filter q ++ if q (no, (tt, cc, s), at_) = true then [(no, (tt, cc, s), at_)] else [] := fun q => by
        rw [List.take_add_one, hp, Option.toList_some, List.filter_append]; congr 1
        cases hq : q (no, (tt, cc, s), at_) <;> simp [hq]
      have HT := Lib.hid htk
      clear hx hx' htk hp
      by_cases hq : tt = t ∧ cc = c
      · obtain ⟨rfl, rfl⟩ := hq
        have hbase := hle
        go_wp2_with (first
          | (at_builtin; refine wpList_append_new rfl (.tmp 31) (.tmp 36) 23 rfl w.heap.size 38 _ 5 48 pk_info Try.underlying23 rfl (by decide) (by decide) _ _ _ rfl HG.out.2.2.1 #[.int .u64 no, .int .i64 tt, .int .i64 cc, .string s, .int .u64 at_] _ rfl rfl rfl rfl hbase (Nat.le_trans HG.out.2.2.2 hn) ?_; intro v' w1 ho1 hg1 hv1; obtain ⟨A3, cap3, rfl, hcap3⟩ := ho1.len; have H1 := Lib.hid (And.intro ho1 hg1); clear ho1 hg1 hv1 hcap3))
        go_roundg (acc.length - (k + 1))
        case measure => omega
        case rel =>
          have hst := HT.out (isK tt cc)
          rw [if_pos (by simp [isK]), ← HG.out.2.1] at hst
          refine ⟨k + 1, ps ++ [(no, (tt, cc, s), at_)], by omega, rfl, by go_num, HG.out.1.trans (below_grown H1.out.2 (fun j hj => (HG.out.2.2.1.lt j hj).1) hle), hst.symm, ?_⟩
          rw [List.length_append, List.flatMap_append]
          exact H1.out.1
      · have hq' : isK t c (no, (tt, cc, s), at_) = false := by simpa [isK] using hq
        have hor : (tt == t) = false ∨ ((tt == t) = true ∧ (cc == c) = false) := by
          by_cases h : tt = t
          · right; exact ⟨by simpa using h, by simpa using fun e => hq ⟨h, e⟩⟩
          · left; simpa using h
        have HQ := Lib.hid hq'
        clear hq hq'
        rcases hor with g1 | ⟨g1, g2⟩
        all_goals
          go_wp2_with fail
          go_roundg (acc.length - (k + 1))
          case measure => omega
          case rel =>
            have hst := HT.out (isK t c)
            rw [if_neg (by rw [HQ.out]; simp), ← HG.out.2.1, List.append_nil] at hst
            exact ⟨k + 1, ps, by omega, rfl, by go_num, HG.out.1, hst.symm, HG.out.2.2.1⟩
    · obtain rfl : k = acc.length := by omega
      go_wp2_with fail
      go_ret
      refine ⟨HG.out.1, _, rfl, ?_⟩
      have e := HG.out.2.1
      rw [List.take_length] at e
      rw [← e]
      exact HG.out.2.2.1.sl

set_option maxRecDepth 100000 in
set_option maxHeartbeats 2000000 in
theorem find_ok (v : Value) (ps : List Pk) (from_ : Nat) (s : ByteArray) (w : World) (hv : SlAt w 5 v ps.length (ps.flatMap pC)) (hf : from_ ≤ ps.length) :
    Calls Try.prog 21 #[v, .int .i64 (from_ : Nat), .string s] w fun e w' => w = w' ∧ ((e = .returned (.int .i64 (-1)) ∧ stepW ((ps.map (·.2.1.2.2)).drop from_) s = none) ∨
      ∃ n : Nat, e = .returned (.int .i64 n) ∧ n < ps.length ∧ stepW ((ps.map (·.2.1.2.2)).drop from_) s = some ((ps.map (·.2.1.2.2)).drop (n + 1))) := by
  obtain ⟨A, cap, rfl, hc, hm⟩ := hv.len
  unfold maxLen at hm
  have HV := Lib.hid hv
  clear hv
  go_enter Try.func21, Try.ntmps21
  go_wp2_with fail
  go_loopg [7] (ps.length - from_) (fun gk p wr => ∃ k : Nat, from_ ≤ k ∧ k ≤ ps.length ∧ ps.length - k = gk ∧ p = .int .i64 (k : Nat) ∧ wr = w ∧ ∀ j, from_ ≤ j → j < k → (ps.map (·.2.1.2.2))[j]? ≠ some s)
  case atStart => exact ⟨from_, Nat.le_refl _, hf, rfl, rfl, rfl, fun j h1 h2 => by omega⟩
  case round =>
    obtain ⟨k, hfk, hk, rfl, rfl, rfl, hb⟩ := hrel
    have HB := Lib.hid hb
    clear hb
    by_cases hlt : k < ps.length
    · have hki : (k : Int) < (ps.length : Int) := by omega
      obtain ⟨b, o, cap', he, hbl, _, _, hx⟩ := HV.out.some (by omega)
      cases he
      obtain ⟨⟨no, ⟨tt, cc, x⟩, at_⟩, hp⟩ : ∃ p, ps[k]? = some p := ⟨_, List.getElem?_eq_getElem hlt⟩
      have e3 := hx (k * 5 + 3) (.string x) (by rw [flat_at pC 5 pC_len _ _ _ (by omega), hp]; rfl)
      rw [← Nat.add_assoc] at e3
      have HP := Lib.hid (show (ps.map (·.2.1.2.2))[k]? = some x by rw [List.getElem?_map, hp]; rfl)
      clear hx hp
      by_cases hq : x = s
      · have hd := str_beq_true hq
        have HQ := Lib.hid hq
        clear hq
        go_wp2_with fail
        go_ret
        exact ⟨rfl, .inr ⟨k, rfl, hlt, stepW_at hfk (by rw [HP.out, HQ.out]) HB.out⟩⟩
      · have hd := str_beq_false hq
        have HQ := Lib.hid hq
        clear hq
        go_wp2_with fail
        go_roundg (ps.length - (k + 1))
        case measure => omega
        case rel =>
          refine ⟨k + 1, by omega, by omega, rfl, by go_num, rfl, fun j h1 h2 => ?_⟩
          by_cases e : j = k
          · subst e; rw [HP.out]; intro h; exact HQ.out (Option.some.inj h)
          · exact HB.out j h1 (by omega)
    · obtain rfl : k = ps.length := by omega
      go_wp2_with fail
      go_ret
      refine ⟨rfl, .inl ⟨rfl, stepW_no fun j hj => ?_⟩⟩
      by_cases e : j < ps.length
      · exact HB.out j hj e
      · rw [List.getElem?_eq_none (by simp; omega)]; simp

end Go.Proofs.Ytkpfebgmfkaglaa
