/- The first of the candidates. -/
import Derived.Test.YtnhbcpopnhdhiaaPickA
set_option linter.unusedSimpArgs false
set_option linter.unusedVariables false
namespace Go.Proofs.Ytnhbcpopnhdhiaa
open Go.RowKit Go.Shelf
attribute [local irreducible] wpMix

def better (p : Cv → Bool) (acc : Option Cv) (x : Cv) : Option Cv :=
  if p x then (match acc with | none => some x | some y => if x.1 < y.1 then some x else some y) else acc
def firstP (p : Cv → Bool) (l : List Cv) : Option Cv := l.foldl (better p) none
theorem firstP_snoc (p : Cv → Bool) (l : List Cv) (x : Cv) : firstP p (l ++ [x]) = better p (firstP p l) x := by unfold firstP; rw [List.foldl_append]; rfl
def cA (c : Cv) : Array Value := #[.int .u64 c.1, .int .i64 c.2.1, .bool c.2.2.1, .bool c.2.2.2]

set_option maxRecDepth 100000 in
set_option maxHeartbeats 2000000 in
theorem first_any (v vi : Value) (p : Cv → Bool) (l : List Cv) (w : World) (hv : SlAt w 4 v l.length (l.flatMap cC)) (hp : FnC w vi p) :
    Calls Try.prog 18 #[v, vi, .func (.func 21) #[] #[]] w fun e w' => e = .returned (.tuple #[.agg (cA ((firstP p l).getD noCand)), .bool (firstP p l).isSome]) ∧ Below w.heap.size w w' := by
  obtain ⟨A, cap, rfl, hc, hm⟩ := hv.len
  unfold maxLen at hm
  obtain ⟨K, fs, fc, rfl, he, hcall⟩ := hp
  have HV := Lib.hid (And.intro hv hcall)
  clear hv hcall
  go_enter Try.func18, Try.ntmps18
  go_wp2_with fail
  go_loopg [7, 12] l.length (fun gk q p' wr => ∃ (k : Nat) (acc : Option Cv), k ≤ l.length ∧ l.length - k = gk ∧ p' = .int .i64 (k : Nat) ∧ q = .bool acc.isSome ∧ acc = firstP p (l.take k) ∧ Below w.heap.size w wr ∧ Blk wr w.heap.size 45 (cA (acc.getD noCand)))
  case atStart => exact ⟨0, none, by omega, rfl, rfl, rfl, by simp [firstP], (Below.refl _ _).alloc (Nat.le_refl _) _, Blk.new _ _ _⟩
  case round =>
    obtain ⟨k, acc, hk, rfl, rfl, rfl, hacc, hb, hB⟩ := hrel
    have HK := Lib.hid (And.intro hacc (And.intro hb hB))
    have hle := hb.size
    have hBl := hB.lt
    clear hacc hb hB
    by_cases hlt : k < l.length
    · have hki : (k : Int) < (l.length : Int) := by omega
      obtain ⟨b, o, cap', he', hbl, _, _, hx⟩ := HV.out.1.some (by omega)
      cases he'
      obtain ⟨⟨n, m, vo, ol⟩, hp'⟩ : ∃ x, l[k]? = some x := ⟨_, List.getElem?_eq_getElem hlt⟩
      have hx' : ∀ j u, j < 4 → (cC (n, m, vo, ol))[j]? = some u → wr.cell? ⟨b, o + (k * 4 + j), none⟩ = some u := fun j u hm hu =>
        (HK.out.2.1.cell (p := ⟨b, _, none⟩) hbl).trans (hx _ _ (by rw [flat_at cC 4 cC_len _ _ _ hm, hp']; exact hu))
      have e0 := hx' 0 _ (by omega) rfl
      have e1 := hx' 1 _ (by omega) rfl
      have e2 := hx' 2 _ (by omega) rfl
      have e3 := hx' 3 _ (by omega) rfl
      simp only [Nat.add_zero, ← Nat.add_assoc] at e0 e1 e2 e3
      have hst : firstP p (l.take (k + 1)) = better p acc (n, m, vo, ol) := by rw [List.take_add_one, hp', Option.toList_some, firstP_snoc, ← HK.out.1]
      have HST := Lib.hid hst
      clear hx hx' hp' hst
      go_wp2_with fail
      refine (HV.out.2 _ (HK.out.2.1.alloc hle _) (n, m, vo, ol)).mono ?_
      rintro e w2 ⟨rfl, hb⟩
      have hb2 : Below wr.heap.size wr w2 := ((Below.refl _ _).alloc (Nat.le_refl _) _).trans (hb.mono (by simp))
      have z := (Blk.new wr 45 #[.int .u64 n, .int .i64 m, .bool vo, .bool ol]).below hb (by simp)
      have zr := HK.out.2.2.below hb2 hBl
      have H2 := Lib.hid (And.intro z (And.intro zr (HK.out.2.1.trans (hb2.mono hle))))
      have hs2 : wr.heap.size < w2.heap.size := z.lt
      clear hb hb2 zr e0 e1 e2 e3
      cases hpx : p (n, m, vo, ol) with
      | false =>
        have HB := Lib.hid (show better p acc (n, m, vo, ol) = acc by unfold better; rw [if_neg (by rw [hpx]; exact Bool.false_ne_true)])
        clear hpx z
        go_wp2_with fail
        go_roundg (l.length - (k + 1))
        case measure => omega
        case rel => exact ⟨k + 1, acc, by omega, rfl, by go_num, rfl, by rw [HST.out, HB.out], H2.out.2.2, H2.out.2.1⟩
      | true =>
        have d0 := z.cell 0
        have d1 := z.cell 1
        have d2 := z.cell 2
        have d3 := z.cell 3
        have f0 := H2.out.2.1.frozen 0
        have f1 := H2.out.2.1.frozen 1
        have f2 := H2.out.2.1.frozen 2
        have f3 := H2.out.2.1.frozen 3
        cases acc with
        | none =>
          have HB := Lib.hid (show better p none (n, m, vo, ol) = some (n, m, vo, ol) by unfold better; rw [if_pos hpx])
          have c0 := H2.out.2.1.cell 0
          have c1 := H2.out.2.1.cell 1
          have c2 := H2.out.2.1.cell 2
          have c3 := H2.out.2.1.cell 3
          simp only [cA, Option.getD_none] at c0 c1 c2 c3
          clear hpx z
          simp only [Option.isSome_none]
          go_wp2_with fail
          have hw4 : ∀ (W : World), Blk W w.heap.size 45 (cA noCand) → Below w.heap.size w W → Blk ((((W.setCell ⟨w.heap.size, 0, none⟩ (.int .u64 n)).setCell ⟨w.heap.size, 1, none⟩ (.int .i64 m)).setCell ⟨w.heap.size, 2, none⟩ (.bool vo)).setCell ⟨w.heap.size, 3, none⟩ (.bool ol)) w.heap.size 45 (cA (n, m, vo, ol)) ∧
              Below w.heap.size w ((((W.setCell ⟨w.heap.size, 0, none⟩ (.int .u64 n)).setCell ⟨w.heap.size, 1, none⟩ (.int .i64 m)).setCell ⟨w.heap.size, 2, none⟩ (.bool vo)).setCell ⟨w.heap.size, 3, none⟩ (.bool ol)) := fun W hB hb =>
            ⟨(((hB.set_ 0 _).set_ 1 _).set_ 2 _).set_ 3 _, (((hb.setCell (p := ⟨w.heap.size, 0, none⟩) (Nat.le_refl _) _).setCell (p := ⟨w.heap.size, 1, none⟩) (Nat.le_refl _) _).setCell (p := ⟨w.heap.size, 2, none⟩) (Nat.le_refl _) _).setCell (p := ⟨w.heap.size, 3, none⟩) (Nat.le_refl _) _⟩
          go_roundg (l.length - (k + 1))
          case measure => omega
          case rel => exact ⟨k + 1, some (n, m, vo, ol), by omega, rfl, by go_num, rfl, by rw [HST.out, HB.out], (hw4 _ H2.out.2.1 H2.out.2.2).2, (hw4 _ H2.out.2.1 H2.out.2.2).1⟩
        | some y =>
          obtain ⟨yn, ym, yv, yo⟩ := y
          have c0 := H2.out.2.1.cell 0
          have c1 := H2.out.2.1.cell 1
          have c2 := H2.out.2.1.cell 2
          have c3 := H2.out.2.1.cell 3
          simp only [cA, Option.getD_some] at c0 c1 c2 c3
          have HPX := Lib.hid hpx
          clear hpx
          simp only [Option.isSome_some]
          go_wp2_with fail
          refine (elder_any (n, m, vo, ol) (yn, ym, yv, yo) w2).mono ?_
          rintro e w3 ⟨rfl, hb3⟩
          have z3 := z.below hb3 z.lt
          have zr3 := H2.out.2.1.below hb3 H2.out.2.1.lt
          have H3 := Lib.hid (And.intro zr3 (H2.out.2.2.trans (hb3.mono H2.out.2.2.size)))
          clear d0 d1 d2 d3 f0 f1 f2 f3 c0 c1 c2 c3 z hb3 zr3
          by_cases hyn : n < yn
          · have g : decide (n < yn) = true := decide_eq_true hyn
            have HB := Lib.hid (show better p (some (yn, ym, yv, yo)) (n, m, vo, ol) = some (n, m, vo, ol) by unfold better; rw [if_pos HPX.out]; simp only; rw [if_pos hyn])
            have d0 := z3.cell 0
            have d1 := z3.cell 1
            have d2 := z3.cell 2
            have d3 := z3.cell 3
            have f0 := H3.out.1.frozen 0
            have f1 := H3.out.1.frozen 1
            have f2 := H3.out.1.frozen 2
            have f3 := H3.out.1.frozen 3
            have c0 := H3.out.1.cell 0
            have c1 := H3.out.1.cell 1
            have c2 := H3.out.1.cell 2
            have c3 := H3.out.1.cell 3
            simp only [cA, Option.getD_some] at c0 c1 c2 c3
            clear hyn
            go_wp2_with fail
            have hw4 : ∀ (W : World), Blk W w.heap.size 45 (cA (yn, ym, yv, yo)) → Below w.heap.size w W → Blk ((((W.setCell ⟨w.heap.size, 0, none⟩ (.int .u64 n)).setCell ⟨w.heap.size, 1, none⟩ (.int .i64 m)).setCell ⟨w.heap.size, 2, none⟩ (.bool vo)).setCell ⟨w.heap.size, 3, none⟩ (.bool ol)) w.heap.size 45 (cA (n, m, vo, ol)) ∧
                Below w.heap.size w ((((W.setCell ⟨w.heap.size, 0, none⟩ (.int .u64 n)).setCell ⟨w.heap.size, 1, none⟩ (.int .i64 m)).setCell ⟨w.heap.size, 2, none⟩ (.bool vo)).setCell ⟨w.heap.size, 3, none⟩ (.bool ol)) := fun W hB hb =>
              ⟨(((hB.set_ 0 _).set_ 1 _).set_ 2 _).set_ 3 _, (((hb.setCell (p := ⟨w.heap.size, 0, none⟩) (Nat.le_refl _) _).setCell (p := ⟨w.heap.size, 1, none⟩) (Nat.le_refl _) _).setCell (p := ⟨w.heap.size, 2, none⟩) (Nat.le_refl _) _).setCell (p := ⟨w.heap.size, 3, none⟩) (Nat.le_refl _) _⟩
            go_roundg (l.length - (k + 1))
            case measure => omega
            case rel => exact ⟨k + 1, some (n, m, vo, ol), by omega, rfl, by go_num, rfl, by rw [HST.out, HB.out], (hw4 _ H3.out.1 H3.out.2).2, (hw4 _ H3.out.1 H3.out.2).1⟩
          · have g : decide (n < yn) = false := decide_eq_false hyn
            have HB := Lib.hid (show better p (some (yn, ym, yv, yo)) (n, m, vo, ol) = some (yn, ym, yv, yo) by unfold better; rw [if_pos HPX.out]; simp only; rw [if_neg hyn])
            clear hyn
            go_wp2_with fail
            go_roundg (l.length - (k + 1))
            case measure => omega
            case rel => exact ⟨k + 1, some (yn, ym, yv, yo), by omega, rfl, by go_num, rfl, by rw [HST.out, HB.out], H3.out.2, H3.out.1⟩
    · obtain rfl : k = l.length := by omega
      have hacc := HK.out.1
      rw [List.take_length] at hacc
      have f0 := HK.out.2.2.frozen 0
      have f1 := HK.out.2.2.frozen 1
      have f2 := HK.out.2.2.frozen 2
      have f3 := HK.out.2.2.frozen 3
      have HY := Lib.hid hacc
      clear hacc
      obtain ⟨⟨yn, ym, yv, yo⟩, hy⟩ : ∃ y, acc.getD noCand = y := ⟨_, rfl⟩
      have hB := HK.out.2.2
      rw [hy] at hB
      have HYY := Lib.hid hy
      have c0 := hB.cell 0
      have c1 := hB.cell 1
      have c2 := hB.cell 2
      have c3 := hB.cell 3
      simp only [cA] at c0 c1 c2 c3
      have HB := Lib.hid hB
      clear hB hy
      go_wp2_with fail
      have hfin := (((HB.out.set_ 0 (.int .u64 yn)).set_ 1 (.int .i64 ym)).set_ 2 (.bool yv)).set_ 3 (.bool yo)
      refine bodyPost_ret (res_cell_tmp rfl _ _ w.heap.size 45 _ _ rfl hfin Try.underlying45 rfl (by kernel_rfl)) rfl ⟨?_, ?_⟩
      · rw [← HY.out, HYY.out]; rfl
      · exact (((HK.out.2.1.setCell (p := ⟨w.heap.size, 0, none⟩) (Nat.le_refl _) _).setCell (p := ⟨w.heap.size, 1, none⟩) (Nat.le_refl _) _).setCell (p := ⟨w.heap.size, 2, none⟩) (Nat.le_refl _) _).setCell (p := ⟨w.heap.size, 3, none⟩) (Nat.le_refl _) _

end Go.Proofs.Ytnhbcpopnhdhiaa
