/- Windows. -/
import Derived.Test.YtkpfebgmfkaglaaSpA
set_option linter.unusedSimpArgs false
set_option linter.unusedVariables false
namespace Go.Proofs.Ytkpfebgmfkaglaa
open Go.RowKit
attribute [local irreducible] wpMix

def smallF (n : Int) : Int := min (max n 0) 1073741824
theorem smallF_bd (n : Int) : 0 ≤ smallF n ∧ smallF n ≤ 1073741824 := by unfold smallF; omega

set_option maxHeartbeats 1000000 in
theorem small_ok (n : Int) (w : World) : Calls Try.prog 22 #[.int .i64 n] w fun e w' => e = .returned (.int .i64 (smallF n)) ∧ w = w' := by
  rcases (show n < 0 ∨ (0 ≤ n ∧ n ≤ 1073741824) ∨ (0 ≤ n ∧ 1073741824 < n) by omega) with h | ⟨h, h'⟩ | ⟨h, h'⟩
  · obtain ⟨x, hx⟩ : ∃ x, smallF n = x := ⟨_, rfl⟩
    have hx0 : x = 0 := by rw [← hx]; unfold smallF; omega
    rw [hx, hx0]
    clear hx hx0
    go_enter Try.func22, Try.ntmps22
    go_wp2_with fail
    all_goals first | (exfalso; omega) | (go_ret; exact ⟨rfl, rfl⟩)
  · obtain ⟨x, hx⟩ : ∃ x, smallF n = x := ⟨_, rfl⟩
    have hx0 : x = n := by rw [← hx]; unfold smallF; omega
    rw [hx, hx0]
    clear hx hx0
    have hne : ¬ n < 0 := by omega
    go_enter Try.func22, Try.ntmps22
    go_wp2_with fail
    all_goals first | (exfalso; rename_i hh; simp only [if_neg hne] at hh; omega) | (exfalso; omega) | (go_ret; exact ⟨rfl, rfl⟩)
  · obtain ⟨x, hx⟩ : ∃ x, smallF n = x := ⟨_, rfl⟩
    have hx0 : x = 1073741824 := by rw [← hx]; unfold smallF; omega
    rw [hx, hx0]
    clear hx hx0
    have hne : ¬ n < 0 := by omega
    go_enter Try.func22, Try.ntmps22
    go_wp2_with fail
    all_goals first | (exfalso; rename_i hh; simp only [if_neg hne] at hh; omega) | (exfalso; omega) | (go_ret; exact ⟨rfl, rfl⟩)

set_option maxHeartbeats 1000000 in
theorem rsmall_ok (n : Int) (w : World) : Calls Try.prog 23 #[.int .i64 n] w fun e w' => e = .returned (.int .i64 (smallF n)) ∧ w = w' := by
  rcases (show n < 0 ∨ (0 ≤ n ∧ n ≤ 1073741824) ∨ (0 ≤ n ∧ 1073741824 < n) by omega) with h | ⟨h, h'⟩ | ⟨h, h'⟩
  · obtain ⟨x, hx⟩ : ∃ x, smallF n = x := ⟨_, rfl⟩
    have hx0 : x = 0 := by rw [← hx]; unfold smallF; omega
    rw [hx, hx0]
    clear hx hx0
    go_enter Try.func23, Try.ntmps23
    go_wp2_with fail
    all_goals first | (exfalso; omega) | (go_ret; exact ⟨rfl, rfl⟩)
  · obtain ⟨x, hx⟩ : ∃ x, smallF n = x := ⟨_, rfl⟩
    have hx0 : x = n := by rw [← hx]; unfold smallF; omega
    rw [hx, hx0]
    clear hx hx0
    have hne : ¬ n < 0 := by omega
    go_enter Try.func23, Try.ntmps23
    go_wp2_with fail
    all_goals first | (exfalso; rename_i hh; simp only [if_neg hne] at hh; omega) | (exfalso; omega) | (go_ret; exact ⟨rfl, rfl⟩)
  · obtain ⟨x, hx⟩ : ∃ x, smallF n = x := ⟨_, rfl⟩
    have hx0 : x = 1073741824 := by rw [← hx]; unfold smallF; omega
    rw [hx, hx0]
    clear hx hx0
    have hne : ¬ n < 0 := by omega
    go_enter Try.func23, Try.ntmps23
    go_wp2_with fail
    all_goals first | (exfalso; rename_i hh; simp only [if_neg hne] at hh; omega) | (exfalso; omega) | (go_ret; exact ⟨rfl, rfl⟩)


/-- The worst window that ends ahead of place i. -/
def wst (l : List Int) (r : Int) : Nat → Int
  | 0 => 0
  | i + 1 => max (wst l r i) 0 + smallF (l.getD i 0) - r
theorem wst_bd (l : List Int) (r : Int) (hr : 0 ≤ r ∧ r ≤ 1073741824) : ∀ i, -1073741824 ≤ wst l r i ∧ wst l r i ≤ (i : Int) * 1073741824
  | 0 => by simp [wst]
  | i + 1 => by
    have h := wst_bd l r hr i
    have h2 := smallF_bd (l.getD i 0)
    have e : ((i + 1 : Nat) : Int) * 1073741824 = (i : Int) * 1073741824 + 1073741824 := by omega
    rw [e]
    generalize (i : Int) * 1073741824 = m at *
    simp only [wst]
    generalize wst l r i = a at *
    generalize smallF (l.getD i 0) = b at *
    omega
def winR (l : List Int) (d r : Int) : Int := match (List.range l.length).find? (fun i => decide (d < wst l r (i + 1))) with | some i => (i : Int) | none => -1
theorem winR_at {l : List Int} {d r : Int} {i : Nat} (hi : i < l.length) (h : d < wst l r (i + 1)) (hb : ∀ j, j < i → wst l r (j + 1) ≤ d) : winR l d r = (i : Int) := by
  have : (List.range l.length).find? (fun i => decide (d < wst l r (i + 1))) = some i := by
    rw [List.find?_range_eq_some]
    exact ⟨by simpa using h, by simpa using hi, fun j hj => by simpa using hb j hj⟩
  rw [winR, this]
theorem winR_no {l : List Int} {d r : Int} (hb : ∀ j, j < l.length → wst l r (j + 1) ≤ d) : winR l d r = -1 := by
  have : (List.range l.length).find? (fun i => decide (d < wst l r (i + 1))) = none := by
    rw [List.find?_range_eq_none]
    exact fun j hj => by simpa using hb j hj
  rw [winR, this]

set_option maxRecDepth 100000 in
set_option maxHeartbeats 2000000 in
theorem windows_ok (v : Value) (l : List Int) (d r : Int) (w : World) (hv : SlAt w 1 v l.length (l.map (Value.int .i64))) (hn : l.length ≤ 1000000) :
    Calls Try.prog 12 #[v, .int .i64 d, .int .i64 r] w fun e w' => e = .returned (.int .i64 (winR l (smallF d) (smallF r))) ∧ w = w' := by
  obtain ⟨A, cap, rfl, hc, hm⟩ := hv.len
  unfold maxLen at hm
  have HV := Lib.hid hv
  have HD := Lib.hid (small_ok d w)
  have HR := Lib.hid (small_ok r w)
  have hd := smallF_bd d
  have hr := smallF_bd r
  generalize smallF d = d' at *
  generalize smallF r = r' at *
  obtain ⟨hd0, hd1⟩ := hd
  clear hv
  go_enter Try.func12, Try.ntmps12
  go_wp2_with fail
  refine HD.out.mono ?_
  rintro e w1 ⟨rfl, rfl⟩
  go_wp2_with fail
  refine HR.out.mono ?_
  rintro e w1 ⟨rfl, rfl⟩
  go_wp2_with fail
  go_loopg [7, 16] l.length (fun gk q p wr => ∃ k : Nat, k ≤ l.length ∧ l.length - k = gk ∧ p = .int .i64 (k : Nat) ∧ q = .int .i64 (wst l r' k) ∧ wr = w ∧ ∀ j, j < k → wst l r' (j + 1) ≤ d')
  case atStart => exact ⟨0, by omega, rfl, rfl, rfl, rfl, fun j hj => by omega⟩
  case round =>
    obtain ⟨k, hk, rfl, rfl, rfl, rfl, hb⟩ := hrel
    have HB := Lib.hid hb
    clear hb
    by_cases hlt : k < l.length
    · have hki : (k : Int) < (l.length : Int) := by omega
      obtain ⟨b, o, cap', he, hbl, _, _, hx⟩ := HV.out.some (by omega)
      cases he
      obtain ⟨n, hp⟩ : ∃ n, l[k]? = some n := ⟨_, List.getElem?_eq_getElem hlt⟩
      have c0 := hx k (.int .i64 n) (by simp [hp])
      have hw := wst_bd l r' hr k
      have hws : wst l r' (k + 1) = max (wst l r' k) 0 + smallF n - r' := by rw [wst, List.getD_eq_getElem?_getD, hp]; rfl
      have hw2 : wst l r' k ≤ 1073741824000000 := by have := hw.2; omega
      have hw1 := hw.1
      have HW := Lib.hid hws
      have hs := smallF_bd n
      have HS := Lib.hid (small_ok n wr)
      clear hx hp hw hws
      obtain ⟨a, ha⟩ : ∃ a, wst l r' k = a := ⟨_, rfl⟩
      have HA := Lib.hid ha
      rw [ha] at hw1 hw2
      rw [ha]
      clear ha
      generalize smallF n = s at *
      obtain ⟨m, hm'⟩ : ∃ m, max a 0 + s - r' = m := ⟨_, rfl⟩
      have HM := Lib.hid hm'
      have hor : (a < 0 ∧ s - r' = m) ∨ (0 ≤ a ∧ a + s - r' = m) := by omega
      obtain ⟨hs0, hs1⟩ := hs
      obtain ⟨hr0, hr1⟩ := hr
      have hfin : wst l r' (k + 1) = m := by rw [HW.out, HA.out, HM.out]
      have HF := Lib.hid hfin
      clear hm' hfin
      rcases hor with ⟨h1, h2⟩ | ⟨h1, h2⟩
      all_goals
        go_wp2_with fail
        refine HS.out.mono ?_
        rintro e w1 ⟨rfl, rfl⟩
        by_cases hq : d' < m
        · have hqd : decide (d' < m) = true := decide_eq_true hq
          have HQ := Lib.hid hq
          go_wp2_with fail
          go_ret
          exact ⟨by rw [winR_at hlt (by rw [HF.out]; exact HQ.out) HB.out]; rfl, rfl⟩
        · have hqd : decide (d' < m) = false := decide_eq_false hq
          have HQ := Lib.hid hq
          go_wp2_with fail
          go_roundg (l.length - (k + 1))
          case measure => omega
          case rel =>
            refine ⟨k + 1, by omega, rfl, by go_num, by rw [HF.out], rfl, fun j hj => ?_⟩
            by_cases e : j = k
            · subst e; rw [HF.out]; exact HQ.out
            · exact HB.out j (by omega)
    · obtain rfl : k = l.length := by omega
      go_wp2_with fail
      go_ret
      exact ⟨by rw [winR_no HB.out]; rfl, rfl⟩

/-- The last m numbers, up to place i. -/
def sb (l : List Int) (i : Nat) : Nat → Int
  | 0 => 0
  | m + 1 => sb l i m + smallF (l.getD (i - m) 0)
theorem sb_bd (l : List Int) (i : Nat) : ∀ m, 0 ≤ sb l i m ∧ sb l i m ≤ (m : Int) * 1073741824
  | 0 => by simp [sb]
  | m + 1 => by
    have h := sb_bd l i m
    have h2 := smallF_bd (l.getD (i - m) 0)
    have e : ((m + 1 : Nat) : Int) * 1073741824 = (m : Int) * 1073741824 + 1073741824 := by omega
    rw [e]
    simp only [sb]
    omega
theorem sb_up (l : List Int) (i : Nat) : ∀ m, sb l (i + 1) (m + 1) = smallF (l.getD (i + 1) 0) + sb l i m
  | 0 => by simp [sb]
  | m + 1 => by
    rw [sb, sb_up l i m, sb, show i + 1 - (m + 1) = i - m by omega]
    omega
theorem mul_up (m : Nat) (r : Int) : ((m + 1 : Nat) : Int) * r = (m : Int) * r + r := by
  rw [Int.natCast_add, Int.add_mul]; simp
theorem wst_ge (l : List Int) (r : Int) : ∀ i m, m ≤ i → sb l i (m + 1) - ((m + 1 : Nat) : Int) * r ≤ wst l r (i + 1)
  | 0, m, hm => by
    obtain rfl : m = 0 := by omega
    simp only [sb, wst]
    simp
  | i + 1, 0, _ => by
    simp only [sb, wst, Nat.sub_zero]
    have e : ((0 + 1 : Nat) : Int) * r = r := by simp
    rw [e]
    omega
  | i + 1, m + 1, hm => by
    have ih := wst_ge l r i m (by omega)
    rw [sb_up, mul_up (m + 1) r, wst]
    omega
theorem wst_is (l : List Int) (r : Int) : ∀ i, ∃ m, m ≤ i ∧ wst l r (i + 1) = sb l i (m + 1) - ((m + 1 : Nat) : Int) * r
  | 0 => ⟨0, by omega, by simp [sb, wst]⟩
  | i + 1 => by
    obtain ⟨m, hm, h⟩ := wst_is l r i
    by_cases hp : 0 ≤ wst l r (i + 1)
    · refine ⟨m + 1, by omega, ?_⟩
      rw [sb_up, mul_up (m + 1) r, wst]
      omega
    · refine ⟨0, by omega, ?_⟩
      rw [sb_up, wst]
      have e : ((0 + 1 : Nat) : Int) * r = r := by simp
      rw [e]
      simp only [sb]
      omega
theorem wst_yes {l : List Int} {d r : Int} {i m : Nat} (hm : m ≤ i) (h : d + ((m + 1 : Nat) : Int) * r < sb l i (m + 1)) : d < wst l r (i + 1) := by
  have := wst_ge l r i m hm; omega
theorem wst_no {l : List Int} {d r : Int} {i : Nat} (h : ∀ m, m ≤ i → sb l i (m + 1) ≤ d + ((m + 1 : Nat) : Int) * r) : wst l r (i + 1) ≤ d := by
  obtain ⟨m, hm, e⟩ := wst_is l r i
  have := h m hm; omega

set_option maxRecDepth 100000 in
set_option maxHeartbeats 4000000 in
theorem rwindows_ok (v : Value) (l : List Int) (d r : Int) (w : World) (hv : SlAt w 1 v l.length (l.map (Value.int .i64))) (hn : l.length ≤ 1000000) :
    Calls Try.prog 13 #[v, .int .i64 d, .int .i64 r] w fun e w' => e = .returned (.int .i64 (winR l (smallF d) (smallF r))) ∧ w = w' := by
  obtain ⟨A, cap, rfl, hc, hm⟩ := hv.len
  unfold maxLen at hm
  have HV := Lib.hid hv
  have HD := Lib.hid (fun w => rsmall_ok d w)
  have HR := Lib.hid (fun w => rsmall_ok r w)
  have hd := smallF_bd d
  have hr := smallF_bd r
  generalize smallF d = d' at *
  generalize smallF r = r' at *
  obtain ⟨hd0, hd1⟩ := hd
  obtain ⟨hr0, hr1⟩ := hr
  clear hv
  go_enter Try.func13, Try.ntmps13
  go_wp2_with fail
  go_loopg [7] l.length (fun gk p wr => ∃ i : Nat, i ≤ l.length ∧ l.length - i = gk ∧ p = .int .i64 (i : Nat) ∧ wr = w ∧ ∀ j, j < i → wst l r' (j + 1) ≤ d')
  case atStart => exact ⟨0, by omega, rfl, rfl, rfl, fun j hj => by omega⟩
  case round =>
    obtain ⟨i, hi, rfl, rfl, rfl, hb⟩ := hrel
    have HB := Lib.hid hb
    clear hb
    by_cases hlt : i < l.length
    · have hki : (i : Int) < (l.length : Int) := by omega
      go_wp2_with fail
      go_loopg [8, 9] (i + 1) (fun gk q p wr' => ∃ k : Nat, k ≤ i + 1 ∧ k = gk ∧ p = .int .i64 ((k : Int) - 1) ∧ q = .int .i64 (sb l i (i + 1 - k)) ∧ wr' = wr ∧ ∀ m, m < i + 1 - k → sb l i (m + 1) ≤ d' + ((m + 1 : Nat) : Int) * r')
      case atStart => exact ⟨i + 1, Nat.le_refl _, rfl, by go_num, by simp [sb], rfl, fun m hm => by omega⟩
      case round =>
        obtain ⟨k, hk, rfl, rfl, rfl, rfl, hb⟩ := hrel
        have HB2 := Lib.hid hb
        clear hb
        cases k with
        | zero =>
          have g0 : ((0 : Nat) : Int) - 1 = -1 := rfl
          rw [g0]
          go_wp2_with fail
          go_roundg (l.length - (i + 1))
          case measure => omega
          case rel =>
            refine ⟨i + 1, by omega, rfl, by go_num, rfl, fun j hj => ?_⟩
            by_cases e : j = i
            · subst e; exact wst_no fun m hm => HB2.out m (by omega)
            · exact HB.out j (by omega)
        | succ k =>
          have g0 : ((k + 1 : Nat) : Int) - 1 = (k : Int) := by omega
          rw [g0]
          obtain ⟨b, o, cap', he, hbl, _, _, hx⟩ := HV.out.some (by omega)
          cases he
          obtain ⟨n, hp⟩ : ∃ n, l[k]? = some n := ⟨_, List.getElem?_eq_getElem (by omega)⟩
          have c0 := hx k (.int .i64 n) (by simp [hp])
          obtain ⟨m, hm'⟩ : ∃ m, i - k = m := ⟨_, rfl⟩
          have hmm : i + 1 - (k + 1) = m := by omega
          have hsb : sb l i (m + 1) = sb l i m + smallF n := by rw [sb, show i - m = k by omega, List.getD_eq_getElem?_getD, hp]; rfl
          have hbd := sb_bd l i m
          have hsn := smallF_bd n
          have hmi : (m : Int) ≤ 1000000 := by omega
          have hbd1 : sb l i m ≤ 1073741824000000 := by have := hbd.2; omega
          have hbd0 := hbd.1
          have hik : (i : Int) - (k : Int) + 1 = ((m + 1 : Nat) : Int) := by omega
          have hpr0 : 0 ≤ ((m + 1 : Nat) : Int) * r' := Int.mul_nonneg (by omega) hr0
          have hpr1 : ((m + 1 : Nat) : Int) * r' ≤ 1000001 * 1073741824 := Int.mul_le_mul (by omega) hr1 hr0 (by omega)
          rw [hmm]
          have HS := Lib.hid (rsmall_ok n wr)
          have HX := Lib.hid (And.intro hsb (And.intro hmm hm'))
          generalize smallF n = s at *
          clear hx hp hsb hbd hmm hm'
          obtain ⟨hs0, hs1⟩ := hsn
          obtain ⟨a, ha⟩ : ∃ a, sb l i m = a := ⟨_, rfl⟩
          have HA := Lib.hid ha
          rw [ha] at hbd0 hbd1
          rw [ha]
          clear ha
          obtain ⟨M, hM⟩ : ∃ M : Int, ((m + 1 : Nat) : Int) = M := ⟨_, rfl⟩
          rw [hM] at hik hpr0 hpr1
          obtain ⟨P, hP⟩ : ∃ P : Int, M * r' = P := ⟨_, rfl⟩
          rw [hP] at hpr0 hpr1
          have hMb : 0 ≤ M ∧ M ≤ 1000001 := by omega
          obtain ⟨hM0, hM1⟩ := hMb
          have HM := Lib.hid (show ((m + 1 : Nat) : Int) * r' = P by rw [hM, hP])
          clear hM
          go_upto_region 9 with (first | (refine HS.out.mono ?_; rintro e w1 ⟨rfl, rfl⟩))
          go_wp2_with fail
          refine (HD.out wr).mono ?_
          rintro e w1 ⟨rfl, rfl⟩
          go_wp2_with fail
          refine (HR.out wr).mono ?_
          rintro e w1 ⟨rfl, rfl⟩
          have hsum : sb l i (m + 1) = a + s := by rw [HX.out.1, HA.out]
          by_cases hq : d' + P < a + s
          · have hqd : decide (d' + P < a + s) = true := decide_eq_true hq
            have HQ := Lib.hid (show d' < wst l r' (i + 1) from wst_yes (m := m) (by have := HX.out.2.2; omega) (by rw [HM.out, hsum]; exact hq))
            clear hq hsum
            go_wp2_with fail
            go_ret
            exact ⟨by rw [winR_at (by omega) HQ.out HB.out]; rfl, rfl⟩
          · have hqd : decide (d' + P < a + s) = false := decide_eq_false hq
            have HQ := Lib.hid (And.intro hsum (show a + s ≤ d' + P by omega))
            clear hq hsum
            go_wp2_with fail
            go_roundg k
            case measure => omega
            case rel =>
              have hmk : i + 1 - k = m + 1 := by have := HX.out.2.1; omega
              refine ⟨k, by omega, rfl, by go_num, by rw [hmk, HQ.out.1], rfl, fun m' hm' => ?_⟩
              rw [hmk] at hm'
              by_cases e : m' = m
              · subst e; rw [HM.out, HQ.out.1]; exact HQ.out.2
              · exact HB2.out m' (by rw [HX.out.2.1]; omega)
    · obtain rfl : i = l.length := by omega
      go_wp2_with fail
      go_ret
      exact ⟨by rw [winR_no HB.out]; rfl, rfl⟩

end Go.Proofs.Ytkpfebgmfkaglaa
