/- AirKnown: the chapter's examples. -/
import Derived.Test.YtgolelpncdadkaaAirH
set_option linter.unusedSimpArgs false
set_option linter.unusedVariables false
namespace Go.Proofs.Ytgolelpncdadkaa
open Go.RowKit Go.Shelf
attribute [local irreducible] wpMix

def msK (k : Nat) : List Int := (List.range k).map fun (i : Nat) => (i : Int) % 256
def tsK (k : Nat) : List (Int × Int) := (List.range k).map fun (i : Nat) => ((i : Int) % 73, 1 + (i : Int) % 255)
theorem msK_len (k : Nat) : (msK k).length = k := by simp [msK]
theorem tsK_len (k : Nat) : (tsK k).length = k := by simp [tsK]
theorem msK_succ (k : Nat) : msK (k + 1) = msK k ++ [(k : Int) % 256] := by simp [msK, List.range_succ]
theorem tsK_succ (k : Nat) : tsK (k + 1) = tsK k ++ [((k : Int) % 73, 1 + (k : Int) % 255)] := by simp [tsK, List.range_succ]
theorem tsK_ok (k : Nat) : TurnsOk (tsK k) := by
  intro t ht
  simp only [tsK, List.mem_map] at ht
  obtain ⟨i, _, rfl⟩ := ht
  simp only
  omega
theorem msK_two : ∃ r, msK 4096 = 0 :: 1 :: r ∧ r.length = 4094 := by
  refine ⟨(List.range 4094).map (fun (i : Nat) => ((i : Int) + 1 + 1) % 256), ?_, by simp⟩
  rw [msK, show (4096 : Nat) = 4094 + 1 + 1 from rfl, List.range_succ_eq_map, List.range_succ_eq_map]
  simp [List.map_map, Function.comp_def]
theorem tsK_two : ∃ r, tsK 4096 = (0, 1) :: (1, 2) :: r ∧ r.length = 4094 := by
  refine ⟨(List.range 4094).map (fun (i : Nat) => (((i : Int) + 1 + 1) % 73, 1 + ((i : Int) + 1 + 1) % 255)), ?_, by simp⟩
  rw [tsK, show (4096 : Nat) = 4094 + 1 + 1 from rfl, List.range_succ_eq_map, List.range_succ_eq_map]
  simp [List.map_map, Function.comp_def]
theorem TurnsOk.tail {t : Int × Int} {l : List (Int × Int)} (h : TurnsOk (t :: l)) : TurnsOk l := fun x hx => h x (List.mem_cons_of_mem _ hx)
theorem TurnsOk.snoc {t : Int × Int} {l : List (Int × Int)} (h : TurnsOk l) (ht : (0 ≤ t.1 ∧ t.1 ≤ 72) ∧ (1 ≤ t.2 ∧ t.2 ≤ 255)) : TurnsOk (l ++ [t]) := fun x hx => by
  rcases List.mem_append.1 hx with h' | h'
  · exact h x h'
  · rw [List.mem_singleton.1 h']; exact ht
theorem po1 : passOut ⟨#[1]⟩ [(0, 1)] = ⟨#[129]⟩ := by decide +kernel
theorem po2 : passOut ⟨#[]⟩ [(1, 2)] = ⟨#[]⟩ := by decide +kernel

set_option maxRecDepth 1000000 in
set_option maxHeartbeats 4000000 in
theorem AirKnown_walk (w : World) : Calls Try.prog 6 #[] w fun e w' => e = .returned (.bool true) ∧ Below w.heap.size w w' := by
  go_enter Try.func6, Try.ntmps6
  go_wp2_with fail
  refine (sNew (Sep.nil w) 8 (by decide)).mono ?_
  rintro e w1 ⟨rfl, h1⟩
  simp only [List.nil_append] at h1
  have H1 := Lib.hid h1
  clear h1
  go_wp2_with fail
  go_loopw [3] (fun p wr => ∃ k : Nat, k ≤ 4096 ∧ p = .int .i64 k ∧ Sep w.heap.size w wr [AirT w.heap.size 8 (msK k) (tsK k)])
    (fun p wr => 4096 - (intOf p).toNat)
  case atStart => exact ⟨0, by omega, rfl, H1.out⟩
  case round =>
    obtain ⟨k, hkl, rfl, hS⟩ := hrel
    have HS := Lib.hid hS
    clear hS
    by_cases hlt : k < 4096
    · have h28 : (2 : Int) ^ 8 = 256 := by decide
      have hm := sErase HS.out 0 rfl (by decide) ((k : Int) % 256) (by omega) (by rw [h28]; omega) (by rw [msK_len]; omega)
      clear h28
      have HM := Lib.hid hm
      clear hm
      go_wp2_with fail
      refine HM.out.mono ?_
      rintro e w2 ⟨rfl, h2⟩
      have hm := sTurn h2 0 rfl ((k : Int) % 73) (1 + (k : Int) % 255) (by omega) (by omega) (by rw [tsK_len]; omega)
      have HT := Lib.hid hm
      clear h2 hm
      go_wp2_with fail
      refine HT.out.mono ?_
      rintro e w3 ⟨rfl, h3⟩
      have H3 := Lib.hid h3
      clear h3
      go_wp2_with fail
      go_roundw
      case rel => exact ⟨k + 1, by omega, by go_num, by rw [msK_succ, tsK_succ]; exact H3.out⟩
      case measure => simp [intOf]; omega
    · obtain rfl : k = 4096 := by omega
      obtain ⟨mr, hm1, hm2⟩ := msK_two
      obtain ⟨tr, ht1, ht2⟩ := tsK_two
      have hok := tsK_ok 4096
      have hS := HS.out
      rw [hm1, ht1] at hS
      rw [ht1] at hok
      have H2 := Lib.hid hS
      have hml : ((0 : Int) :: 1 :: mr).length = 4096 := by simp [hm2]
      have htl : (((0 : Int), (1 : Int)) :: (1, 2) :: tr).length = 4096 := by simp [ht2]
      have HL := Lib.hid (And.intro hml (And.intro htl (And.intro hok (And.intro hm2 ht2))))
      clear hS hm1 ht1 hm2 ht2 HS hml htl hok
      go_wp2_with fail
      refine (sEraseFull H2.out 0 rfl (by decide) 0 (by decide) (by decide) HL.out.1).mono ?_
      rintro e w3 ⟨rfl, h3⟩
      have H3 := Lib.hid h3
      clear h3
      go_wp2_with fail
      refine (sTurnFull H3.out 0 rfl 0 1 (by decide) (by decide) HL.out.2.1).mono ?_
      rintro e w4 ⟨rfl, h4⟩
      have H4 := Lib.hid h4
      clear h4
      go_wp2_with fail
      refine (sEraseBad H4.out 0 rfl (by decide) 256 (by decide)).mono ?_
      rintro e w5 ⟨rfl, h5⟩
      have H5 := Lib.hid h5
      clear h5
      go_wp2_with fail
      refine (sTurnBad H5.out _ 0 256 (by decide)).mono ?_
      rintro e w6 ⟨rfl, h6⟩
      have H6 := Lib.hid h6
      clear h6
      go_wp2_with fail
      refine (sPasses H6.out 0 rfl (by rw [HL.out.1]; decide) (by rw [HL.out.2.1]; decide) HL.out.2.2.1 _ _ _ _ po1 rfl rfl).mono ?_
      rintro e w7 ⟨rfl, h7⟩
      have H7 := Lib.hid h7
      clear h7
      go_wp2_with fail
      refine (sErase H7.out 0 rfl (by decide) 7 (by decide) (by decide) (by simp [HL.out.2.2.2.1])).mono ?_
      rintro e w8 ⟨rfl, h8⟩
      have H8 := Lib.hid h8
      clear h8
      go_wp2_with fail
      refine (sEraseFull H8.out 0 rfl (by decide) 7 (by decide) (by decide) (by simp [HL.out.2.2.2.1])).mono ?_
      rintro e w9 ⟨rfl, h9⟩
      have H9 := Lib.hid h9
      clear h9
      go_wp2_with fail
      refine (sTurn H9.out 0 rfl 1 1 (by decide) (by decide) (by simp [HL.out.2.2.2.2])).mono ?_
      rintro e w10 ⟨rfl, h10⟩
      have H10 := Lib.hid h10
      clear h10
      go_wp2_with fail
      refine (sPasses H10.out 0 rfl (by simp [HL.out.2.2.2.1]) (by simp [HL.out.2.2.2.2]) (HL.out.2.2.1.tail.snoc (by decide)) _ _ _ _ po2 rfl rfl).mono ?_
      rintro e w11 ⟨rfl, h11⟩
      have H11 := Lib.hid h11
      clear h11
      go_wp2_with fail
      refine (sNew H11.out 1 (by decide)).mono ?_
      rintro e w12 ⟨rfl, h12⟩
      have H12 := Lib.hid h12
      clear h12
      go_wp2_with fail
      refine (works_yes _).mono ?_
      rintro e w13 ⟨rfl, h13⟩
      have H13 := Lib.hid (H12.out.below h13)
      clear h13
      go_wp2_with fail
      refine (New_no 0 _ (by decide)).mono ?_
      rintro e _w14 ⟨rfl, rfl⟩
      go_wp2_with fail
      refine (New_no 9 _ (by decide)).mono ?_
      rintro e _w14 ⟨rfl, rfl⟩
      go_wp2_with fail
      refine (sErase H13.out 1 rfl (by decide) 1 (by decide) (by decide) (by decide)).mono ?_
      rintro e w15 ⟨rfl, h15⟩
      have H15 := Lib.hid h15
      clear h15
      go_wp2_with fail
      refine (sEraseBad H15.out 1 rfl (by decide) 2 (by decide)).mono ?_
      rintro e w16 ⟨rfl, h16⟩
      have H16 := Lib.hid h16
      clear h16
      go_wp2_with fail
      refine (sEraseBad H16.out 1 rfl (by decide) (-1) (by decide)).mono ?_
      rintro e w17 ⟨rfl, h17⟩
      have H17 := Lib.hid h17
      clear h17
      go_wp2_with fail
      refine (sTurnBad H17.out _ (-1) 1 (by decide)).mono ?_
      rintro e w18 ⟨rfl, h18⟩
      have H18 := Lib.hid h18
      clear h18
      go_wp2_with fail
      refine (sTurn H18.out 1 rfl 72 255 (by decide) (by decide) (by decide)).mono ?_
      rintro e w19 ⟨rfl, h19⟩
      have H19 := Lib.hid h19
      clear h19
      go_wp2_with fail
      refine (sTurnBad H19.out _ 0 0 (by decide)).mono ?_
      rintro e w20 ⟨rfl, h20⟩
      have H20 := Lib.hid h20
      clear h20
      go_wp2_with fail
      refine (sPasses H20.out 1 rfl (by decide) (by decide) (by intro t ht; simp at ht; subst ht; decide) _ _ _ _ (by decide +kernel) rfl rfl).mono ?_
      rintro e w21 ⟨rfl, h21⟩
      have H21 := Lib.hid h21
      clear h21
      go_wp2_with fail
      refine (Erase_nil 0 _).mono ?_
      rintro e w22 ⟨rfl, h22⟩
      have H22 := Lib.hid (H21.out.below h22)
      clear h22
      go_wp2_with fail
      refine (Turn_nil 0 1 _).mono ?_
      rintro e w23 ⟨rfl, h23⟩
      have H23 := Lib.hid (H22.out.below h23)
      clear h23
      go_wp2_with fail
      refine (passes_nil _ _).mono ?_
      rintro e w24 ⟨rfl, h24⟩
      have H24 := Lib.hid (H23.out.below h24)
      clear h24
      go_wp2_with fail
      go_ret
      exact ⟨rfl, H24.out.world⟩

end Go.Proofs.Ytgolelpncdadkaa
