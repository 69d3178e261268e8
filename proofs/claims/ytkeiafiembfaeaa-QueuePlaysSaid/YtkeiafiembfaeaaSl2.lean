/- A slice inside an argument: its elements opened one by one. Plain theorems, any program. -/
import Derived.Test.YtkeiafiembfaeaaSl
import Derived.Deep.MidRow
set_option linter.unusedSimpArgs false
set_option linter.unusedVariables false
namespace Go.Proofs.Ytkeiafiembfaeaa
open Go.RowKit

theorem Tr.list {P : Program} {w : World} {t e : TypeId} {cs : List Value} {s : Nat} (ht : P.underlying t = some (.slice e)) (he : P.cellsOf e = s) (hs : 0 < s) (h : Tr P w t cs) {α : Type} (F : α → List Value) (hF : ∀ x, (F x).length = s) (ok : α → Prop)
    (op : ∀ cs, Tr P w e cs → ∃ x, cs = F x ∧ ok x) : ∃ (v : Value) (l : List α), cs = [v] ∧ SlAt w s v l.length (l.flatMap F) ∧ ∀ x ∈ l, ok x := by
  obtain ⟨A, len, cap, vs, rfl, hlc, hcm, hA, hvl, hrd, hel⟩ := Tr.slice ht (by rw [he]; exact hs) h
  rw [he] at hvl hel
  have key : ∀ (n : Nat) (vs : List Value), vs.length = n * s → (∀ i, i < n → Tr P w e ((vs.drop (i * s)).take s)) → ∃ l : List α, l.length = n ∧ vs = l.flatMap F ∧ ∀ x ∈ l, ok x := by
    intro n
    induction n with
    | zero => exact fun vs hv _ => ⟨[], rfl, List.eq_nil_of_length_eq_zero (by simpa using hv), by simp⟩
    | succ n ih =>
      intro vs hv hel
      obtain ⟨x, hx, hok⟩ := op _ (hel 0 (by omega))
      rw [Nat.zero_mul, List.drop_zero] at hx
      obtain ⟨l, hl, hvs, hall⟩ := ih (vs.drop s) (by rw [List.length_drop, hv, Nat.add_mul]; omega) (fun i hi => by
        have := hel (i + 1) (by omega)
        rwa [Nat.add_mul, Nat.one_mul, Nat.add_comm, ← List.drop_drop] at this)
      refine ⟨x :: l, by simp [hl], ?_, fun y hy => ?_⟩
      · rw [List.flatMap_cons, ← hvs, ← hx, List.take_append_drop]
      · rcases List.mem_cons.1 hy with rfl | hy
        · exact hok
        · exact hall y hy
  obtain ⟨l, hl, hvs, hall⟩ := key len vs hvl hel
  refine ⟨_, l, rfl, ?_, hall⟩
  rw [hl, ← hvs]
  refine ⟨hvl, A, cap, rfl, hlc, hcm, ?_⟩
  rcases Nat.eq_zero_or_pos len with h0 | h0
  · exact .inl h0
  · right
    rcases hrd with rfl | ⟨b, o, hA, hb, hx⟩
    · have := Nat.mul_pos h0 hs; simp at hvl; omega
    · exact ⟨b, o, hA, hb, hx⟩

/-! An element of one's own slice is put. -/
theorem setCells_grown (g : Nat) : ∀ (vs : List Value) (o : Nat) (w : World), w.grownBy (w.setCells g o vs) (some g)
  | [], _, _ => ⟨rfl, rfl, rfl, Nat.le_refl _, fun _ _ _ => rfl⟩
  | u :: vs, o, w => by
    have h' := setCells_grown g vs (o + 1) (w.setCell ⟨g, o, none⟩ u)
    exact ⟨h'.os, h'.tape, h'.output, Nat.le_trans (by simp [World.setCell]) h'.size, fun k hk hne => (h'.block k (by simpa [World.setCell] using hk) hne).trans (Below.heap_setCell _ _ _ _ (by rintro rfl; exact hne rfl))⟩
theorem setCells_blk {g : Nat} {e : TypeId} : ∀ (vs : List Value) (o : Nat) (w : World) (cs : Array Value), Blk w g e cs → o + vs.length ≤ cs.size →
    ∃ cs', Blk (w.setCells g o vs) g e cs' ∧ cs'.size = cs.size ∧ (∀ j, j < o ∨ o + vs.length ≤ j → cs'[j]? = cs[j]?) ∧ ∀ j u, vs[j]? = some u → cs'[o + j]? = some u
  | [], _, _, cs, hW, _ => ⟨cs, hW, rfl, fun _ _ => rfl, fun j u hj => by simp at hj⟩
  | u :: vs, o', W, cs, hW, hlen => by
    simp only [List.length_cons] at hlen
    obtain ⟨cs', k1, k2, k3, k4⟩ := setCells_blk vs (o' + 1) _ _ (hW.set_ o' u) (by simp; omega)
    refine ⟨cs', k1, by rw [k2]; simp, fun j hj => ?_, fun j x hj => ?_⟩
    · simp only [List.length_cons] at hj
      rw [k3 j (by omega), Array.getElem?_setIfInBounds, if_neg (by omega)]
    · cases j with
      | zero =>
        simp at hj; subst hj
        rw [Nat.add_zero, k3 o' (by omega), Array.getElem?_setIfInBounds, if_pos rfl, if_pos (by omega)]
      | succ j =>
        have := k4 j x (by simpa using hj)
        rwa [show o' + (j + 1) = o' + 1 + j by omega]
theorem OwnsAt.room {w : World} {base size n g off cap : Nat} {e : TypeId} {xs : List Value} (h : OwnsAt w base e size (.slice (some ⟨g, off, none⟩) n cap) n xs) {i : Nat} (hi : i < n) : w.there g (off + i * size) size := by
  obtain ⟨hl, ⟨h, _⟩ | ⟨g', off', cap', cur, he, hb, hB, hn, hm, hs, hx⟩⟩ := h
  · cases h
  · cases he
    intro j hj
    have h1 : (i + 1) * size ≤ cap * size := Nat.mul_le_mul_right _ (by omega)
    rw [Nat.add_mul, Nat.one_mul] at h1
    exact ⟨by rw [hB.cell, Array.getElem?_eq_getElem (by omega)]; rfl, hB.frozen _⟩
theorem OwnsAt.put {w : World} {base size n g off cap : Nat} {e : TypeId} {xs : List Value} (h : OwnsAt w base e size (.slice (some ⟨g, off, none⟩) n cap) n xs) {i : Nat} (hi : i < n) {vs : List Value} (hv : vs.length = size) :
    OwnsAt (w.setCells g (off + i * size) vs) base e size (.slice (some ⟨g, off, none⟩) n cap) n (xs.take (i * size) ++ vs ++ xs.drop (i * size + size)) := by
  obtain ⟨hl, ⟨h, _⟩ | ⟨g', off', cap', cur, he, hb, hB, hn, hm, hs, hx⟩⟩ := h
  · cases h
  · cases he
    have h1 : (i + 1) * size ≤ cap * size := Nat.mul_le_mul_right _ (by omega)
    have h2 : (i + 1) * size ≤ n * size := Nat.mul_le_mul_right _ (by omega)
    rw [Nat.add_mul, Nat.one_mul] at h1 h2
    obtain ⟨cs', k1, k2, k3, k4⟩ := setCells_blk vs (off + i * size) w cur hB (by omega)
    refine ⟨by rw [List.length_append, List.length_append, List.length_take, List.length_drop, hl, hv]; omega, .inr ⟨g, off, cap, cs', rfl, hb, k1, hn, hm, by omega, fun j u hj => ?_⟩⟩
    have ht : (xs.take (i * size)).length = i * size := by rw [List.length_take]; omega
    rcases Nat.lt_or_ge j (i * size) with hlt | hge
    · rw [List.append_assoc, List.getElem?_append_left (by omega), List.getElem?_take_of_lt hlt] at hj
      rw [k3 _ (.inl (by omega))]; exact hx j u hj
    · rw [List.append_assoc, List.getElem?_append_right (by omega), ht] at hj
      rcases Nat.lt_or_ge (j - i * size) size with h3 | h3
      · rw [List.getElem?_append_left (by omega)] at hj
        have := k4 _ u hj
        rwa [show off + i * size + (j - i * size) = off + j by omega] at this
      · rw [List.getElem?_append_right (by omega), List.getElem?_drop, hv, show i * size + size + (j - i * size - size) = j by omega] at hj
        rw [k3 _ (.inr (by omega))]; exact hx j u hj
theorem flat_set {α : Type} (F : α → List Value) (s : Nat) (hF : ∀ x, (F x).length = s) (y : α) : ∀ (l : List α) (i : Nat), i < l.length → (l.set i y).flatMap F = (l.flatMap F).take (i * s) ++ F y ++ (l.flatMap F).drop (i * s + s)
  | [], i, h => by simp at h
  | x :: l, 0, _ => by
    rw [List.set_cons_zero, List.flatMap_cons, List.flatMap_cons, Nat.zero_mul, List.take_zero, List.nil_append, Nat.zero_add, List.drop_append, hF, List.drop_eq_nil_of_le (by rw [hF]; exact Nat.le_refl _), Nat.sub_self, List.drop_zero, List.nil_append]
  | x :: l, i + 1, h => by
    rw [List.set_cons_succ, List.flatMap_cons, List.flatMap_cons, flat_set F s hF y l i (by simpa using h), List.take_append, List.take_of_length_le (l := F x) (by rw [hF, Nat.add_mul]; omega), hF, List.drop_append, List.drop_eq_nil_of_le (as := F x) (by rw [hF, Nat.add_mul]; omega), hF, List.nil_append]
    rw [show (i + 1) * s - s = i * s by rw [Nat.add_mul]; omega, show (i + 1) * s + s - s = i * s + s by rw [Nat.add_mul]; omega]
    simp [List.append_assoc]
theorem OwnsAt.putF {α : Type} {F : α → List Value} {s : Nat} (hF : ∀ x, (F x).length = s) {w : World} {base g off cap : Nat} {e : TypeId} {l : List α} (h : OwnsAt w base e s (.slice (some ⟨g, off, none⟩) l.length cap) l.length (l.flatMap F)) {i : Nat} (hi : i < l.length) (y : α) :
    OwnsAt (w.setCells g (off + i * s) (F y)) base e s (.slice (some ⟨g, off, none⟩) (l.set i y).length cap) (l.set i y).length ((l.set i y).flatMap F) := by
  rw [flat_set F s hF y l i hi, List.length_set]
  exact h.put hi (hF y)

end Go.Proofs.Ytkeiafiembfaeaa
