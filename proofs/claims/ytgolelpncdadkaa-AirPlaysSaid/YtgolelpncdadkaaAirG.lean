/- The air as one of the things that lie apart; the chapter's rows. -/
import Derived.Test.YtgolelpncdadkaaAirF
import Derived.Test.YtgolelpncdadkaaSep
set_option linter.unusedSimpArgs false
set_option linter.unusedVariables false
namespace Go.Proofs.Ytgolelpncdadkaa
open Go.RowKit Go.Shelf
attribute [local irreducible] wpMix

def AirT (b n : Nat) (ms : List Int) (ts : List (Int × Int)) : Thing := fun w F => AirInv w F b n ms ts
theorem AirT.loc (b n : Nat) (ms : List Int) (ts : List (Int × Int)) : Local (AirT b n ms ts) := ⟨fun _ _ h => AirInv.lt h, fun _ _ _ _ h hb hS => AirInv.but h hb hS⟩

theorem Sep.look {B : Nat} {w0 w : World} {L : List Thing} (h : Sep B w0 w L) (i : Nat) {T : Thing} (hi : L[i]? = some T) : ∃ F, T w F := by
  obtain ⟨_, ⟨Fs, h1, _⟩, _⟩ := h
  exact ⟨Fs i, h1 i T hi⟩
theorem Sep.same {B : Nat} {w0 w : World} {L L' : List Thing} (h : Sep B w0 w L) (e : L = L') : Sep B w0 w L' := e ▸ h

section
variable {B : Nat} {w0 w : World} {L : List Thing} {b n : Nat} {ms : List Int} {ts : List (Int × Int)}

theorem sNew (h : Sep B w0 w L) (n : Nat) (hn : 1 ≤ n ∧ n ≤ 8) : Calls Try.prog 7 #[.int .i64 (n : Int)] w fun e w' => e = .returned (.pointer (some ⟨w.heap.size, 0, none⟩)) ∧ Sep B w0 w' (L ++ [AirT w.heap.size n [] []]) :=
  (New_yes n w hn).mono fun e w' ⟨he, hb, hi⟩ => ⟨he, h.new (AirT.loc _ _ _ _) (T' := AirT w.heap.size n [] []) hi (fun k hk => by omega) hb⟩
theorem sErase (h : Sep B w0 w L) (i : Nat) (hi : L[i]? = some (AirT b n ms ts)) (hn : 1 ≤ n ∧ n ≤ 8) (mask : Int) (h0 : 0 ≤ mask) (hm : mask < 2 ^ n) (hl : ms.length < 4096) :
    Calls Try.prog 10 #[.pointer (some ⟨b, 0, none⟩), .int .i64 mask] w fun e w' => e = .returned (.int .i64 0) ∧ Sep B w0 w' (L.set i (AirT b n (ms ++ [mask]) ts)) :=
  h.call i (R := fun e => e = .returned (.int .i64 0)) hi (AirT.loc _ _ _ _) fun F hF => Erase_ok F b n ms ts mask w hF hn h0 hm hl
theorem sEraseBad (h : Sep B w0 w L) (i : Nat) (hi : L[i]? = some (AirT b n ms ts)) (hn : 1 ≤ n ∧ n ≤ 8) (mask : Int) (hm : mask < 0 ∨ 2 ^ n ≤ mask) :
    Calls Try.prog 10 #[.pointer (some ⟨b, 0, none⟩), .int .i64 mask] w fun e w' => e = .returned (.int .i64 2) ∧ Sep B w0 w' L := by
  obtain ⟨F, hF⟩ := h.look i hi
  exact (Erase_bad F b n ms ts mask w hF hn hm).mono fun e w' ⟨he, hb⟩ => ⟨he, h.below hb⟩
theorem sTurn (h : Sep B w0 w L) (i : Nat) (hi : L[i]? = some (AirT b n ms ts)) (at_ mask : Int) (h1 : 0 ≤ at_ ∧ at_ ≤ 72) (h2 : 0 < mask ∧ mask < 256) (hl : ts.length < 4096) :
    Calls Try.prog 12 #[.pointer (some ⟨b, 0, none⟩), .int .i64 at_, .int .i64 mask] w fun e w' => e = .returned (.int .i64 0) ∧ Sep B w0 w' (L.set i (AirT b n ms (ts ++ [(at_, mask)]))) :=
  h.call i (R := fun e => e = .returned (.int .i64 0)) hi (AirT.loc _ _ _ _) fun F hF => Turn_ok F b n ms ts at_ mask w hF h1 h2 hl
theorem sTurnBad (h : Sep B w0 w L) (b : Nat) (at_ mask : Int) (hb : ¬ ((0 ≤ at_ ∧ at_ ≤ 72) ∧ (0 < mask ∧ mask < 256))) :
    Calls Try.prog 12 #[.pointer (some ⟨b, 0, none⟩), .int .i64 at_, .int .i64 mask] w fun e w' => e = .returned (.int .i64 2) ∧ Sep B w0 w' L :=
  (Turn_bad b at_ mask w hb).mono fun e w' ⟨he, hb⟩ => ⟨he, h.below hb⟩
theorem sPass (h : Sep B w0 w L) (i : Nat) (hi : L[i]? = some (AirT b n ms ts)) (hlm : ms.length ≤ 4096) (hlt : ts.length ≤ 4096) (ht : TurnsOk ts) (s : ByteArray) :
    Calls Try.prog 14 #[.pointer (some ⟨b, 0, none⟩), .string s] w fun e w' =>
      e = .returned (.tuple #[.string (passOut s ts), .int .i64 (ms.headD 0), .bool (!ts.isEmpty)]) ∧ Sep B w0 w' (L.set i (AirT b n ms.tail ts.tail)) :=
  h.call i (R := fun e => e = .returned (.tuple #[.string (passOut s ts), .int .i64 (ms.headD 0), .bool (!ts.isEmpty)])) hi (AirT.loc _ _ _ _) fun F hF =>
    (Pass_ok hF hlm hlt ht s).mono fun e w' ⟨he, hi', hb⟩ => ⟨he, F, hi', hb.mono (Nat.le_refl _) (fun k _ hk => hk ▸ (by obtain ⟨v1, v2, _, _, _, _, _, _, hFF⟩ := hF; exact (hFF b).2 (.inl rfl))), fun k hk => .inl hk⟩
theorem sPasses (h : Sep B w0 w L) (i : Nat) (hi : L[i]? = some (AirT b n ms ts)) (hlm : ms.length ≤ 4096) (hlt : ts.length ≤ 4096) (ht : TurnsOk ts) (s s' : ByteArray) (x : Int) (t : Bool)
    (hs : passOut s ts = s') (hx : ms.headD 0 = x) (htt : (!ts.isEmpty) = t) :
    Calls Try.prog 16 #[.pointer (some ⟨b, 0, none⟩), .string s, .string s', .int .i64 x, .bool t] w fun e w' => e = .returned (.bool true) ∧ Sep B w0 w' (L.set i (AirT b n ms.tail ts.tail)) := by
  have hp := sPass h i hi hlm hlt ht s
  rw [hs, hx, htt] at hp
  have HP := Lib.hid hp
  clear hp hs hx htt ht h hi hlm hlt
  go_enter Try.func16, Try.ntmps16
  go_wp2_with fail
  refine HP.out.mono ?_
  rintro e w1 ⟨rfl, hS⟩
  have HS := Lib.hid hS
  clear hS HP
  go_wp2_with fail
  go_ret
  exact ⟨by simp, HS.out⟩
end

theorem works_yes (w : World) : Calls Try.prog 9 #[] w fun e w' => e = .returned (.bool true) ∧ Below w.heap.size w w' := by
  go_enter Try.func9, Try.ntmps9
  go_wp2_with fail
  refine (sNew (Sep.nil w) 2 (by decide)).mono ?_
  rintro e w1 ⟨rfl, h1⟩
  have H1 := Lib.hid h1
  clear h1
  go_wp2_with fail
  refine (sErase H1.out 0 rfl (by decide) 2 (by decide) (by decide) (by decide)).mono ?_
  rintro e w2 ⟨rfl, h2⟩
  have H2 := Lib.hid h2
  clear h2
  go_wp2_with fail
  refine (sErase H2.out 0 rfl (by decide) 0 (by decide) (by decide) (by decide)).mono ?_
  rintro e w3 ⟨rfl, h3⟩
  have H3 := Lib.hid h3
  clear h3
  go_wp2_with fail
  refine (sEraseBad H3.out 0 rfl (by decide) 4 (by decide)).mono ?_
  rintro e w4 ⟨rfl, h4⟩
  have H4 := Lib.hid h4
  clear h4
  go_wp2_with fail
  refine (sTurn H4.out 0 rfl 4 3 (by decide) (by decide) (by decide)).mono ?_
  rintro e w5 ⟨rfl, h5⟩
  have H5 := Lib.hid h5
  clear h5
  go_wp2_with fail
  refine (sTurnBad H5.out _ 73 1 (by decide)).mono ?_
  rintro e w6 ⟨rfl, h6⟩
  have H6 := Lib.hid h6
  clear h6
  go_wp2_with fail
  refine (sPasses H6.out 0 rfl (by decide) (by decide) (by intro t ht; simp at ht; subst ht; decide) _ _ _ _ (by decide +kernel) rfl rfl).mono ?_
  rintro e w7 ⟨rfl, h7⟩
  have H7 := Lib.hid h7
  clear h7
  go_wp2_with fail
  refine (sPasses H7.out 0 rfl (by decide) (by decide) (by intro t ht; simp at ht) _ _ _ _ (by decide +kernel) rfl rfl).mono ?_
  rintro e w8 ⟨rfl, h8⟩
  have H8 := Lib.hid h8
  clear h8
  go_wp2_with fail
  refine (sPasses H8.out 0 rfl (by decide) (by decide) (by intro t ht; simp at ht) _ _ _ _ (by decide +kernel) rfl rfl).mono ?_
  rintro e w9 ⟨rfl, h9⟩
  have H9 := Lib.hid h9
  clear h9
  go_wp2_with fail
  go_ret
  exact ⟨rfl, H9.out.world⟩

end Go.Proofs.Ytgolelpncdadkaa
