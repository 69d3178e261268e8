/- The first thing that is wrong; Put's questions. -/
import Derived.Test.YtkeiafiembfaeaaQuC
set_option linter.unusedSimpArgs false
set_option linter.unusedVariables false
namespace Go.Proofs.Ytkeiafiembfaeaa
open Go.RowKit
attribute [local irreducible] wpMix

def unlQ (is : Bool) (e : Int) : Int := if is then 0 else e
theorem unless_any (is : Bool) (e : Int) (w : World) : Calls Try.prog 29 #[.bool is, .int .i64 e] w fun r w' => r = .returned (.int .i64 (unlQ is e)) ∧ w = w' := by
  cases is
  · go_enter Try.func29, Try.ntmps29
    go_wp2_with fail
    go_ret
    exact ⟨rfl, rfl⟩
  · go_enter Try.func29, Try.ntmps29
    go_wp2_with fail
    go_ret
    exact ⟨rfl, rfl⟩
def wIn (n lo hi : Int) : Bool := decide (lo ≤ n) && decide (n ≤ hi)
theorem within_any (n lo hi : Int) (w : World) : Calls Try.prog 23 #[.int .i64 n, .int .i64 lo, .int .i64 hi] w fun r w' => r = .returned (.bool (wIn n lo hi)) ∧ w = w' := by
  by_cases h1 : lo ≤ n
  · by_cases h2 : n ≤ hi
    · have h : wIn n lo hi = true := by simp [wIn, h1, h2]
      rw [h]
      clear h
      go_enter Try.func23, Try.ntmps23
      go_wp2_with fail
      go_ret
      exact ⟨rfl, rfl⟩
    · have h : wIn n lo hi = false := by simp [wIn, h1, h2]
      rw [h]
      clear h
      go_enter Try.func23, Try.ntmps23
      go_wp2_with fail
      go_ret
      exact ⟨rfl, rfl⟩
  · have h : wIn n lo hi = false := by simp [wIn, h1]
    rw [h]
    clear h
    go_enter Try.func23, Try.ntmps23
    go_wp2_with fail
    go_ret
    exact ⟨rfl, rfl⟩

/-- One question of a row: it tells 0 and the next one follows, or what is wrong. -/
def Asked (I : World → Prop) (R : Int → World → Prop) (e : Ending) (w' : World) : Prop := ∃ x : Int, e = .returned (.int .i64 x) ∧ ((x = 0 ∧ I w') ∨ (x ≠ 0 ∧ R x w'))
def Told (R : Int → World → Prop) (e : Ending) (w' : World) : Prop := ∃ x : Int, e = .returned (.int .i64 x) ∧ R x w'
set_option maxHeartbeats 1000000 in
theorem firstWrong_any (fs : List (Nat × Array Value)) (g : Nat) (cap : Nat) (I : Nat → World → Prop) (R : Int → World → Prop) (w : World)
    (hlen : fs.length ≤ 100)
    (hc : ∀ i W, i < fs.length → I i W → ∀ j K cs, fs[j]? = some (K, cs) → W.cell? ⟨g, j, none⟩ = some (.func (.func K) #[] cs))
    (he : ∀ K cs, (K, cs) ∈ fs → ∀ args w, (callFunc K args).run Try.prog w = .ok (.enter K args) w)
    (step : ∀ i K cs W, fs[i]? = some (K, cs) → I i W → Calls Try.prog K cs W (Asked (I (i + 1)) R))
    (fin : ∀ W, I fs.length W → R 0 W) (h0 : I 0 w) :
    Calls Try.prog 27 #[.slice (some ⟨g, 0, none⟩) fs.length cap] w (Told R) := by
  have HC := Lib.hid (And.intro hc (And.intro he (And.intro step fin)))
  have H0 := Lib.hid h0
  clear hc he step fin h0
  go_enter Try.func27, Try.ntmps27
  go_wp2_with fail
  go_loopw [8] (fun i wr => ∃ k : Nat, k ≤ fs.length ∧ i = .int .i64 k ∧ Hid (I k wr)) (fun i _ => fs.length - (intOf i).toNat)
  case atStart => exact ⟨0, Nat.zero_le _, rfl, H0⟩
  case round =>
    obtain ⟨k, hk, rfl, hI⟩ := hrel
    by_cases hlt : k < fs.length
    · obtain ⟨⟨K, cs⟩, hf⟩ : ∃ p, fs[k]? = some p := ⟨_, List.getElem?_eq_getElem hlt⟩
      have hcell := HC.out.1 k _ hlt hI.out k K cs hf
      have hent := HC.out.2.1 K cs (List.mem_of_getElem? hf)
      have HS := Lib.hid (HC.out.2.2.1 k K cs _ hf hI.out)
      clear hf
      go_wp2_with fail
      refine HS.out.mono ?_
      rintro e w1 ⟨x, rfl, hx⟩
      have HX := Lib.hid hx
      clear hx
      by_cases hx0 : x = 0
      · subst hx0
        go_wp2_with fail
        go_roundw
        case rel => exact ⟨k + 1, hlt, by go_num, Lib.hid (by rcases HX.out with ⟨_, h⟩ | ⟨h, _⟩; exact h; exact absurd rfl h)⟩
        case measure => simp [intOf]; omega
      · have hb : (x != 0) = true := by simp [hx0]
        go_wp2_with fail
        go_ret
        exact ⟨x, rfl, by rcases HX.out with ⟨h, _⟩ | ⟨_, h⟩; exact absurd h hx0; exact h⟩
    · obtain rfl : k = fs.length := by omega
      go_wp2_with fail
      go_ret
      exact ⟨0, rfl, HC.out.2.2.2 _ hI.out⟩

end Go.Proofs.Ytkeiafiembfaeaa
