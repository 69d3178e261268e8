/- Waits. -/
import Derived.Test.YtkeiafiembfaeaaQuI
set_option linter.unusedSimpArgs false
set_option linter.unusedVariables false
namespace Go.Proofs.Ytkeiafiembfaeaa
open Go.RowKit
attribute [local irreducible] wpMix

open Classical in
/-- Those of L whose queue has come. -/
noncomputable def come (L : List Pk) (done : List Value) : List Pk := L.filter fun p => decide (kv p.2.1.1 p.2.1.2.1 ∈ done)
theorem come_nil (L : List Pk) : come L [] = [] := by unfold come; rw [List.filter_eq_nil_iff]; intro p _ h; simp at h
theorem come_snoc (L : List Pk) (done : List Value) (t c : Int) (h : kv t c ∉ done) : (come L (done ++ [kv t c])).length = (come L done).length + (qof L t c).length := by
  unfold come qof
  induction L with
  | nil => rfl
  | cons p L ih =>
    have e : kv p.2.1.1 p.2.1.2.1 = kv t c ↔ inq t c p = true := by
      simp only [inq, Bool.and_eq_true, beq_iff_eq]
      constructor
      · intro hh
        unfold kv at hh
        simp only [Value.agg.injEq, Array.mk.injEq, List.cons.injEq, Value.int.injEq, true_and, and_true] at hh
        exact hh
      · rintro ⟨h1, h2⟩; rw [h1, h2]
    rw [List.filter_cons, List.filter_cons, List.filter_cons]
    by_cases h1 : kv p.2.1.1 p.2.1.2.1 ∈ done
    · have h2 : ¬ inq t c p = true := fun hh => h ((e.2 hh) ▸ h1)
      rw [if_pos (by simp [h1]), if_pos (by simp [h1]), if_neg h2, List.length_cons, List.length_cons, ih]; omega
    · by_cases h2 : inq t c p = true
      · rw [if_pos (by simp [e.2 h2]), if_neg (by simp [h1]), if_pos h2, List.length_cons, List.length_cons, ih]; omega
      · rw [if_neg (by simp only [List.mem_append, List.mem_singleton, decide_eq_true_eq]; rintro (hh | hh); exact h1 hh; exact h2 (e.1 hh)), if_neg (by simp [h1]), if_neg h2, ih]
theorem come_all (L : List Pk) (done : List Value) (h : ∀ p ∈ L, kv p.2.1.1 p.2.1.2.1 ∈ done) : come L done = L := by
  unfold come
  rw [List.filter_eq_self]
  intro p hp
  simp [h p hp]
theorem come_le (L : List Pk) (done : List Value) : (come L done).length ≤ L.length := List.length_filter_le _ _

section
variable {w w' : World} {b : Nat} {n most room last : Int} {L : List Pk} {mb : Nat} {f : Value → Option Value} {ob rb : Int → Int → Nat} {v : Int → Int → Value} {col : Nat → Int} {F : Nat → Prop}

theorem waits_nil (w : World) : Calls Try.prog 19 #[.pointer none] w fun e w' => e = .returned (.int .i64 0) ∧ w = w' := by
  go_enter Try.func19, Try.ntmps19
  go_wp2_with fail
  go_ret
  exact ⟨rfl, rfl⟩

set_option maxHeartbeats 1000000 in
theorem waits_any (h : QsIs w b n most room last L mb f ob rb v col F) (ok : QsOk n most room last L) (hL : L.length < 1000000000) :
    Calls Try.prog 19 #[ptr b] w fun e w' => e = .returned (.int .i64 L.length) ∧ Below w.heap.size w w' := by
  obtain ⟨m, hm⟩ := h.map
  have c0 := h.blk.cell 0
  have HQ := Lib.hid (And.intro h (And.intro ok hm))
  clear h ok hm
  obtain ⟨w0, rfl⟩ : ∃ w0, w0 = w := ⟨w, rfl⟩
  go_enter Try.func19, Try.ntmps19
  go_wp2_with (refine wpList_range_is rfl (.tmp 12) 58 61 rfl Try.underlying58 rfl HQ.out.2.2 ?_; intro w1 hr1 hb1)
  have HR := Lib.hid (And.intro hr1 hb1)
  clear hr1 hb1 c0
  (simp only [Act.put, List.setIfInBounds_toArray, List.set_cons_succ, List.set_cons_zero])
  go_loopg [3] m (fun gk x wr => ∃ done : List Value, m - done.length = gk ∧ x = .int .i64 (come L done).length ∧ Hid (RangeIs Try.prog 67 wr mb w0.heap.size m f done ∧ Below w0.heap.size w0 wr))
  case atStart => exact ⟨[], by simp, by rw [come_nil]; rfl, Lib.hid ⟨HR.out.1, HR.out.2⟩⟩
  case round =>
    obtain ⟨done, hg, rfl, hD⟩ := hrel
    clear HR
    go_wp2_with (refine wpList_next_is rfl (.tmp 13) rfl rfl hD.out.1 ?_ ?_)
    · intro hall
      have hcm : come L done = L := come_all L done fun p hp => hall _ _ (HQ.out.1.key _ _ (HQ.out.2.1.inR p hp))
      rw [hcm]
      clear hall hcm
      go_wp2_with fail
      go_ret
      exact ⟨rfl, hD.out.2⟩
    · intro k x w2 hfk hnd hr2 hb2 hs2 hent
      obtain ⟨t, c, hR, rfl⟩ := HQ.out.1.keys k x hfk
      obtain rfl : x = ptr (ob t c) := by have := HQ.out.1.key t c hR; rw [hfk] at this; cases this; rfl
      have hb02 : Below w0.heap.size w0 w2 := hD.out.2.trans (hb2.below (fun j hj e => by omega) hD.out.2.size)
      have h2 := HQ.out.1.below hb02
      have ho := h2.one t c hR
      have o0 := ho.cell 0
      have hcs := come_snoc L done t c hnd
      have hcl := come_le L (done ++ [kv t c])
      have hdl := hr2.le
      have hlen := ringLen _ _ _ _ _ (h2.ring t c hR)
      have hcn : (come L done).length + (qof L t c).length < 1000000000 := by omega
      have HX := Lib.hid (And.intro hr2 (And.intro hb02 (And.intro hlen (And.intro hcs hdl))))
      clear hr2 hb02 hlen hcs hdl hcl h2 ho hb2 hs2 hnd hfk hD
      go_wp2_with fail
      refine HX.out.2.2.1.mono ?_
      rintro e w3 ⟨rfl, rfl⟩
      clear o0
      go_wp2_with fail
      go_roundg (m - (done ++ [kv t c]).length)
      case measure => have := HX.out.2.2.2.2; simp at this ⊢; omega
      case rel => exact ⟨done ++ [kv t c], rfl, by rw [HX.out.2.2.2.1]; go_num, Lib.hid ⟨HX.out.1, HX.out.2.1⟩⟩
end

end Go.Proofs.Ytkeiafiembfaeaa
