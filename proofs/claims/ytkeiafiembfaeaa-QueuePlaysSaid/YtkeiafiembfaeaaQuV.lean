/- The document's queues: Head, Same. -/
import Derived.Test.YtkeiafiembfaeaaQuU
set_option linter.unusedSimpArgs false
set_option linter.unusedVariables false
namespace Go.Proofs.Ytkeiafiembfaeaa
open Go.RowKit Go.Shelf
attribute [local irreducible] wpMix

section
variable {w w' : World} {b : Nat} {n most room last : Int} {v : Value} {L : List Pk} {t c ti : Int} {s : ByteArray}
theorem place_none (h : ∀ q ∈ L, ¬ inq t c q = true) : qof L t c = [] ∧ qdrop L t c = L := by
  have h1 : qof L t c = [] := by unfold qof; rw [List.filter_eq_nil_iff]; exact h
  exact ⟨h1, qdrop_nil h1⟩
theorem place_some {l1 l2 : List Pk} {p : Pk} (h1 : ∀ q ∈ l1, ¬ inq t c q = true) (hp : inq t c p = true) :
    (∃ m, qof (l1 ++ p :: l2) t c = p :: m) ∧ qdrop (l1 ++ p :: l2) t c = l1 ++ l2 := by
  constructor
  · refine ⟨qof l2 t c, ?_⟩
    unfold qof
    rw [List.filter_append, List.filter_eq_nil_iff.2 h1, List.nil_append, List.filter_cons, if_pos hp]
  · unfold qdrop
    rw [List.eraseP_append_right _ h1, List.eraseP_cons_of_pos hp]

set_option maxHeartbeats 1000000 in
theorem rHead (h : RqIs w b n most room last v L) (hL : L.length < 1000000000) :
    Calls Try.prog 16 #[ptr b, .int .i64 t, .int .i64 c] w fun e w' => e = .returned (hd (qof L t c)) ∧ Below w.heap.size w w' := by
  have H1 := Lib.hid (fun o => rplace (t := t) (c := c) (h.below (w' := w.alloc o) ((Below.refl _ _).alloc (Nat.le_refl _) _)) hL)
  have H0 := Lib.hid h
  clear h
  go_enter Try.func16, Try.ntmps16
  go_wp2_with fail
  refine (H1.out _).mono ?_
  rintro e w' ⟨r, hr, rfl, rfl⟩
  generalize hW : World.alloc _ _ = W1
  have bw : Below w.heap.size w W1 := by rw [← hW]; exact (Below.refl _ _).alloc (Nat.le_refl _) _
  have z2 : Blk W1 w.heap.size 37 #[.int .u64 0, .int .i64 0, .int .i64 0, .string ByteArray.empty, .int .u64 0] := by rw [← hW]; exact Blk.new _ _ _
  have z0 := z2.cell 0
  have z1 := z2.cell 1
  have z3 := z2.cell 2
  have z4 := z2.cell 3
  have z5 := z2.cell 4
  have k0 := z2.frozen
  have hl2 := z2.lt
  have H2 := Lib.hid (And.intro z2 bw)
  clear z2 bw hW
  rcases hr with ⟨l1, p, l2, rfl, hl1, hp, rfl⟩ | ⟨hno, rfl⟩
  · have hR := H0.out.below H2.out.2
    obtain ⟨A, cap, rfl, hcap⟩ := hR.sl.len
    have c3 := hR.blk.cell 3
    obtain ⟨g, off, hA⟩ : ∃ g off, A = some ⟨g, off, none⟩ := by
      obtain ⟨b', o', c', e, _⟩ := hR.sl.sl.some (by rw [List.length_append, List.length_cons]; omega)
      cases e; exact ⟨b', o', rfl⟩
    subst hA
    have hx : (l1 ++ p :: l2)[l1.length]? = some p := by simp
    obtain ⟨e0, e1, e2, e3, e4⟩ := pk_at hR.sl.sl hx
    obtain ⟨m, hq⟩ := (place_some (l2 := l2) hl1 hp).1
    have hlen : (l1.length : Int) < (l1 ++ p :: l2).length := by rw [List.length_append, List.length_cons]; omega
    have hlen' : l1.length < (l1 ++ p :: l2).length := by rw [List.length_append, List.length_cons]; omega
    have HQ := Lib.hid hq
    clear hq hx hR hl1 hp
    generalize (l1 ++ p :: l2).length = N at *
    obtain ⟨no, ⟨pt, pc, ps⟩, pat⟩ := p
    simp only at e0 e1 e2 e3 e4
    go_wp2_with fail
    have zf := (((((H2.out.1.set_ 0 (.int .u64 no)).set_ 1 (.int .i64 pt)).set_ 2 (.int .i64 pc)).set_ 3 (.string ps)).set_ 4 (.int .u64 pat)).same (cs' := #[.int .u64 no, .int .i64 pt, .int .i64 pc, .string ps, .int .u64 pat]) (by simp only [List.setIfInBounds_toArray, List.set_cons_succ, List.set_cons_zero])
    refine bodyPost_ret (res_cell_tmp rfl _ _ w.heap.size 37 _ _ rfl zf Try.underlying37 rfl (by kernel_rfl)) rfl ⟨?_, ?_⟩
    · rw [HQ.out]; rfl
    · exact ((((H2.out.2.setCell (p := ⟨w.heap.size, 0, none⟩) (Nat.le_refl _) _).setCell (p := ⟨w.heap.size, 1, none⟩) (Nat.le_refl _) _).setCell (p := ⟨w.heap.size, 2, none⟩) (Nat.le_refl _) _).setCell (p := ⟨w.heap.size, 3, none⟩) (Nat.le_refl _) _).setCell (p := ⟨w.heap.size, 4, none⟩) (Nat.le_refl _) _
  · have HQ := Lib.hid (place_none hno).1
    clear hno
    go_wp2_with fail
    have zf := (((((H2.out.1.set_ 0 (.int .u64 0)).set_ 1 (.int .i64 0)).set_ 2 (.int .i64 0)).set_ 3 (.string { data := #[] })).set_ 4 (.int .u64 0)).same (cs' := #[.int .u64 0, .int .i64 0, .int .i64 0, .string { data := #[] }, .int .u64 0]) (by simp only [List.setIfInBounds_toArray, List.set_cons_succ, List.set_cons_zero])
    refine bodyPost_ret (res_cell_tmp rfl _ _ w.heap.size 37 _ _ rfl zf Try.underlying37 rfl (by kernel_rfl)) rfl ⟨?_, ?_⟩
    · rw [HQ.out]; rfl
    · exact ((((H2.out.2.setCell (p := ⟨w.heap.size, 0, none⟩) (Nat.le_refl _) _).setCell (p := ⟨w.heap.size, 1, none⟩) (Nat.le_refl _) _).setCell (p := ⟨w.heap.size, 2, none⟩) (Nat.le_refl _) _).setCell (p := ⟨w.heap.size, 3, none⟩) (Nat.le_refl _) _).setCell (p := ⟨w.heap.size, 4, none⟩) (Nat.le_refl _) _

/-- Same, of two rows that are alike. -/
theorem same_yes {v1 v2 : Value} {l : List Pk} (h1 : SlAt w 5 v1 l.length (l.flatMap pC)) (h2 : SlAt w 5 v2 l.length (l.flatMap pC)) (hl : l.length < 1000000000) :
    Calls Try.prog 20 #[v1, v2] w fun e w' => e = .returned (.bool true) ∧ Below w.heap.size w w' := by
  obtain ⟨A1, cap1, rfl, hc1, _⟩ := h1.len
  obtain ⟨A2, cap2, rfl, hc2, _⟩ := h2.len
  have HS := Lib.hid (And.intro h1 h2)
  clear h1 h2
  obtain ⟨w0, rfl⟩ : ∃ w0, w0 = w := ⟨w, rfl⟩
  go_enter Try.func20, Try.ntmps20
  go_wp2_with fail
  go_loopg [5] l.length (fun gk z wr => ∃ k : Nat, k ≤ l.length ∧ l.length - k = gk ∧ z = .int .i64 k ∧ Hid (Below w0.heap.size w0 wr))
  case atStart => exact ⟨0, by omega, rfl, rfl, Lib.hid (Below.refl _ _)⟩
  case round =>
    obtain ⟨k, hk, hg, rfl, hB⟩ := hrel
    by_cases hlt : k < l.length
    · have hlt' : (k : Int) < l.length := by omega
      obtain ⟨p, hp⟩ : ∃ p, l[k]? = some p := ⟨_, List.getElem?_eq_getElem hlt⟩
      obtain ⟨g1, o1, hA⟩ : ∃ g off, A1 = some ⟨g, off, none⟩ := by
        obtain ⟨b', o', c', e, _⟩ := HS.out.1.some (by omega)
        cases e; exact ⟨b', o', rfl⟩
      subst hA
      obtain ⟨g2, o2, hA⟩ : ∃ g off, A2 = some ⟨g, off, none⟩ := by
        obtain ⟨b', o', c', e, _⟩ := HS.out.2.some (by omega)
        cases e; exact ⟨b', o', rfl⟩
      subst hA
      obtain ⟨e0, e1, e2, e3, e4⟩ := pk_at (HS.out.1.below hB.out) hp
      obtain ⟨f0, f1, f2, f3, f4⟩ := pk_at (HS.out.2.below hB.out) hp
      obtain ⟨no, ⟨pt, pc, ps⟩, pat⟩ := p
      simp only at e0 e1 e2 e3 e4 f0 f1 f2 f3 f4
      clear hp
      go_upto_region 6 with fail
      go_quiet (fail)
      go_wp2_with fail
      go_roundg (l.length - (k + 1))
      case measure => omega
      case rel => exact ⟨k + 1, by omega, rfl, by go_num, Lib.hid (hB.out.trans ((below_drewN (Below.refl _ _) _).mono hB.out.size))⟩
    · obtain rfl : k = l.length := by omega
      go_wp2_with fail
      go_ret
      exact ⟨rfl, hB.out⟩
end

end Go.Proofs.Ytkeiafiembfaeaa
