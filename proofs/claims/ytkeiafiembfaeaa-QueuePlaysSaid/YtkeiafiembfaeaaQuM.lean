/- works. -/
import Derived.Test.YtkeiafiembfaeaaQuL
import Derived.Laws.EntriesVeiled
set_option linter.unusedSimpArgs false
set_option linter.unusedVariables false
namespace Go.Proofs.Ytkeiafiembfaeaa
open Go.RowKit Go.Shelf
attribute [local irreducible] wpMix

section
variable {w0 w : World} {B b : Nat} {n most room last : Int} {L : List Pk} {Ts : List Thing} {i : Nat} {t c : Int} {s : ByteArray}
set_option maxHeartbeats 1000000 in
theorem lput {want e last' : Int} {L' : List Pk} (h : Sep B w0 w Ts) (hi : Ts[i]? = some (QsT b n most room last L)) (ok : QsOk n most room last L) (wt : (Lit.int .i64 t).wf = true) (wc : (Lit.int .i64 c).wf = true) (hm : s.size ≤ maxLen)
    (he : putErr n most room L t c s = e) (hw : (if e = 0 then last + 1 else 0) = want) (hN : putN n most room last L t c s = last') (hL : putL n most room last L t c s 7 = L') :
    Calls Try.prog 25 #[ptr b, .int .i64 t, .int .i64 c, .string s, .int .u64 want, .int .i64 e] w fun r w' => r = .returned (.bool true) ∧ Sep B w0 w' (Ts.set i (QsT b n most room last' L')) := by
  have hp := sPut (ti := 7) h hi ok wt wc hm
  unfold putV at hp
  rw [he, hw, hN, hL] at hp
  have HP := Lib.hid hp
  clear hp h hi ok wt wc hm he hw hN hL
  go_enter Try.func25, Try.ntmps25
  go_wp2_with fail
  refine HP.out.mono ?_
  rintro r w1 ⟨rfl, hs⟩
  have HS := Lib.hid hs
  clear hs
  go_wp2_with fail
  go_ret
  exact ⟨rfl, HS.out⟩
end

def bs (l : List UInt8) : ByteArray := { data := l.toArray }
abbrev W0 : List Pk := []
abbrev p1 : Pk := (1, (0, 1, { data := #[97, 98, 99] }), 7)
abbrev p2 : Pk := (2, (1, 0, { data := #[100, 101] }), 7)
abbrev p3 : Pk := (3, (0, 1, { data := #[102] }), 7)
theorem ok0 : QsOk 2 2 10 0 [] := QsOk.nil (by omega) (by omega) (by omega)
theorem ok1 : QsOk 2 2 10 1 [p1] := ok0.put (t := 0) (c := 1) (s := { data := #[97, 98, 99] }) (ti := 7) (by kernel_rfl) (by omega)
theorem ok2 : QsOk 2 2 10 2 [p1, p2] := ok1.put (t := 1) (c := 0) (s := { data := #[100, 101] }) (ti := 7) (by kernel_rfl) (by omega)
theorem ok3 : QsOk 2 2 10 3 [p1, p2, p3] := ok2.put (t := 0) (c := 1) (s := { data := #[102] }) (ti := 7) (by kernel_rfl) (by omega)
theorem ok4 : QsOk 2 2 10 3 [p2, p3] := ok3.take 0 1

set_option maxRecDepth 100000 in
set_option maxHeartbeats 4000000 in
theorem works_yes (w : World) : Calls Try.prog 10 #[] w fun e w' => e = .returned (.bool true) ∧ Below w.heap.size w w' := by
  obtain ⟨w0, rfl⟩ : ∃ w0, w0 = w := ⟨w, rfl⟩
  go_enter Try.func10, Try.ntmps10
  go_wp2_with fail
  refine (sNew 2 (Sep.nil w0) (by omega) (by omega) (by omega)).mono ?_
  rintro e w1 ⟨b, rfl, hs, _⟩
  have S1 := Lib.hid hs
  clear hs
  go_wp2_with fail
  refine (lput (i := 0) (want := 1) (e := 0) (last' := 1) (L' := [p1]) S1.out rfl ok0 (by go_wf) (by go_wf) (by unfold maxLen; decide) (by kernel_rfl) (by kernel_rfl) (by kernel_rfl) (by kernel_rfl)).mono ?_
  rintro e w2 ⟨rfl, hs⟩
  have S2 := Lib.hid hs
  clear hs S1
  go_wp2_with fail
  refine (lput (i := 0) (want := 2) (e := 0) (last' := 2) (L' := [p1, p2]) S2.out rfl ok1 (by go_wf) (by go_wf) (by unfold maxLen; decide) (by kernel_rfl) (by kernel_rfl) (by kernel_rfl) (by kernel_rfl)).mono ?_
  rintro e w3 ⟨rfl, hs⟩
  have S3 := Lib.hid hs
  clear hs S2
  go_wp2_with fail
  refine (lput (i := 0) (want := 0) (e := 7) (last' := 2) (L' := [p1, p2]) S3.out rfl ok2 (by go_wf) (by go_wf) (by unfold maxLen; decide) (by kernel_rfl) (by kernel_rfl) (by kernel_rfl) (by kernel_rfl)).mono ?_
  rintro e w4 ⟨rfl, hs⟩
  have S4 := Lib.hid hs
  clear hs S3
  go_wp2_with fail
  refine (lput (i := 0) (want := 3) (e := 0) (last' := 3) (L' := [p1, p2, p3]) S4.out rfl ok2 (by go_wf) (by go_wf) (by unfold maxLen; decide) (by kernel_rfl) (by kernel_rfl) (by kernel_rfl) (by kernel_rfl)).mono ?_
  rintro e w5 ⟨rfl, hs⟩
  have S5 := Lib.hid hs
  clear hs S4
  go_wp2_with fail
  refine (lput (i := 0) (want := 0) (e := 6) (last' := 3) (L' := [p1, p2, p3]) S5.out rfl ok3 (by go_wf) (by go_wf) (by unfold maxLen; decide) (by kernel_rfl) (by kernel_rfl) (by kernel_rfl) (by kernel_rfl)).mono ?_
  rintro e w6 ⟨rfl, hs⟩
  have S6 := Lib.hid hs
  clear hs S5
  go_wp2_with fail
  refine (sHeads (i := 0) S6.out rfl ok3 (by decide)).mono ?_
  rintro e w7 ⟨x, rfl, ho, hs, _⟩
  rw [show heads [p1, p2, p3] = [p1, p2] by kernel_rfl] at ho
  have S7 := Lib.hid (And.intro hs ho.sl)
  obtain ⟨bx, ox, cx, rfl, _⟩ := ho.sl.some (by decide)
  clear hs S6 ho
  go_wp2_with fail
  refine (sLen (i := 0) (t := 0) (c := 1) S7.out.1 rfl ok3 (by go_wf) (by go_wf)).mono ?_
  rintro e w8 ⟨rfl, hs, hb8⟩
  obtain ⟨bx', ox', cx', he', hbx, _, _, hx⟩ := (S7.out.2.below hb8).some (by decide)
  cases he'
  have x0 := hx 0 _ rfl
  have x5 := hx 5 _ rfl
  simp only [Nat.add_zero] at x0
  rw [show ((qof [p1, p2, p3] 0 1).length : Int) = 2 by kernel_rfl, show (qb (qof [p1, p2, p3] 0 1) : Int) = 4 by kernel_rfl]
  have S8 := Lib.hid hs
  clear hs S7 hx hb8
  go_wp2_with fail
  refine (sTake (i := 0) (t := 0) (c := 1) S8.out rfl ok3 (by go_wf) (by go_wf)).mono ?_
  rintro e w9 ⟨rfl, hs⟩
  rw [show hd (qof [p1, p2, p3] 0 1) = .tuple #[pV p1, .bool true] by kernel_rfl]
  rw [show qdrop [p1, p2, p3] 0 1 = [p2, p3] by kernel_rfl] at hs
  have S9 := Lib.hid hs
  clear hs S8 x0 x5
  go_wp2_with fail
  generalize hW : World.alloc _ _ = W9
  have y9 : Blk W9 w9.heap.size 37 #[.int .u64 1, .int .i64 0, .int .i64 1, .string { data := #[97, 98, 99] }, .int .u64 7] := by rw [← hW]; exact Blk.new _ _ _
  have S10 := Lib.hid (And.intro y9 (S9.out.below (w' := W9) (by rw [← hW]; exact (Below.refl _ _).alloc (Nat.le_refl _) _)))
  clear hW y9 S9
  refine (sHead (i := 0) (t := 0) (c := 1) S10.out.2 rfl ok4 (by go_wf) (by go_wf)).mono ?_
  rintro e w10 ⟨rfl, hs, hb10⟩
  rw [show hd (qof [p2, p3] 0 1) = .tuple #[pV p3, .bool true] by kernel_rfl]
  have y10 := S10.out.1.below hb10 S10.out.1.lt
  have z0 := y10.cell 0
  have z1 := y10.cell 1
  have z2 := y10.cell 2
  have z3 := y10.cell 3
  have z4 := y10.cell 4
  have hz := y10.lt
  have S11 := Lib.hid (And.intro y10 hs)
  clear hs hb10 y10 S10
  go_wp2_with fail
  generalize hW : World.alloc _ _ = W11
  have S12 := Lib.hid (S11.out.2.below (w' := W11) (by rw [← hW]; exact (Below.refl _ _).alloc (Nat.le_refl _) _))
  clear hW z0 z1 z2 z3 z4 hz S11
  refine (sWaits (i := 0) S12.out rfl ok4 (by decide)).mono ?_
  rintro e w12 ⟨rfl, hs, _⟩
  have S13 := Lib.hid hs
  clear hs S12
  go_wp2_with fail
  refine (lput (i := 0) (want := 0) (e := 9) (last' := 3) (L' := [p2, p3]) S13.out rfl ok4 (by go_wf) (by go_wf) (by unfold maxLen; decide) (by kernel_rfl) (by kernel_rfl) (by kernel_rfl) (by kernel_rfl)).mono ?_
  rintro e w13 ⟨rfl, hs⟩
  have S14 := Lib.hid hs
  clear hs S13
  go_wp2_with fail
  refine (lput (i := 0) (want := 0) (e := 2) (last' := 3) (L' := [p2, p3]) S14.out rfl ok4 (by go_wf) (by go_wf) (by unfold maxLen; decide) (by kernel_rfl) (by kernel_rfl) (by kernel_rfl) (by kernel_rfl)).mono ?_
  rintro e w14 ⟨rfl, hs⟩
  have S15 := Lib.hid hs
  clear hs S14
  go_wp2_with fail
  refine (lput (i := 0) (want := 0) (e := 8) (last' := 3) (L' := [p2, p3]) S15.out rfl ok4 (by go_wf) (by go_wf) (by unfold maxLen; decide) (by kernel_rfl) (by kernel_rfl) (by kernel_rfl) (by kernel_rfl)).mono ?_
  rintro e w15 ⟨rfl, hs⟩
  have S16 := Lib.hid hs
  clear hs S15
  go_wp2_with fail
  go_ret
  exact ⟨rfl, S16.out.world⟩

end Go.Proofs.Ytkeiafiembfaeaa
