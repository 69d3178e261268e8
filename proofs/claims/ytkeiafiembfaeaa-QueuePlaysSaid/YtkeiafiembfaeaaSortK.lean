/- slices.SortFunc over elements of k cells: the row of one's own slice, ahead of the sort and behind it. Plain theorems, any program. -/
import Derived.Test.YtkeiafiembfaeaaOwn
import Derived.Test.YtkeiafiembfaeaaSl
import Derived.Shelf.SlSortCmp.WholeK
set_option linter.unusedSimpArgs false
set_option linter.unusedVariables false
namespace Go.Proofs.Ytkeiafiembfaeaa
open Go.RowKit Go.Sort Go.Shelf

section
variable {α : Type} [Inhabited α] {enc : α → List Value} {k : Nat}
theorem flatK_at (hk : ∀ x, (enc x).length = k) (k0 : 0 < k) (l : List α) (t : Nat) (ht : t < l.length * k) : (l.flatMap enc)[t]? = some ((flatK enc k l.toArray)[t]!) := by
  have hd : t / k < l.length := Nat.div_lt_of_lt_mul (by rwa [Nat.mul_comm] at ht)
  have hm : t % k < k := Nat.mod_lt _ k0
  have ht' : t = t / k * k + t % k := by rw [Nat.mul_comm]; exact (Nat.div_add_mod t k).symm
  rw [get_flatK _ _ _ _ (by simpa using ht)]
  conv => lhs; rw [ht']
  rw [flat_at enc k hk l (t / k) (t % k) hm, List.getElem?_eq_getElem hd, Option.bind_some]
  have hl : t % k < (enc l[t / k]).length := by rw [hk]; exact hm
  rw [List.getElem?_eq_getElem hl]
  congr 1
  simp [hd, hl]
theorem OwnsAt.holdsK (hk : ∀ x, (enc x).length = k) (k0 : 0 < k) {w : World} {base g off cap : Nat} {e : TypeId} {l : List α} (h : OwnsAt w base e k (.slice (some ⟨g, off, none⟩) l.length cap) l.length (l.flatMap enc)) : HoldsK enc k w g off l.toArray := by
  intro j hj
  have hj' : j < l.length * k := by simpa using hj
  have hv := flatK_at hk k0 l j hj'
  refine ⟨h.cell j _ hv, ?_⟩
  obtain ⟨hl, ⟨hh, _⟩ | ⟨g', off', cap', cur, hh, _, hB, _⟩⟩ := h
  · cases hh
  · cases hh; exact hB.frozen _

theorem sortK_heap (w : World) (g off n : Nat) (d : Array α) (os : Array Obj) : But (fun j => j = g) w.heap.size w (sortWorldK enc k w g off n d os) := by
  refine ⟨rfl, rfl, rfl, ?_, fun j hj hne => ?_⟩
  · unfold sortWorldK grow putRowK putRow mapBlock Sort.ahead; simp
  · unfold sortWorldK
    rw [heap_grow_old _ _ (by simpa [putRowK, putRow, mapBlock, Sort.ahead] using hj)]
    simp [putRowK, putRow, mapBlock, Sort.ahead, Array.getElem?_modify, Ne.symm hne]
theorem OwnsAt.sortK (hk : ∀ x, (enc x).length = k) (k0 : 0 < k) {w : World} {base g off cap m n : Nat} {e : TypeId} {xs : List Value} {l' : List α} {os : Array Obj} (h : OwnsAt w base e k (.slice (some ⟨g, off, none⟩) m cap) m xs) (hl' : l'.length = m) :
    OwnsAt (sortWorldK enc k w g off n l'.toArray os) base e k (.slice (some ⟨g, off, none⟩) m cap) m (l'.flatMap enc) := by
  obtain ⟨hl, ⟨hh, _⟩ | ⟨g', off', cap', cur, hh, hb, hB, hn, hm, hs, hx⟩⟩ := h
  · cases hh
  · cases hh
    refine ⟨by rw [flat_len enc k hk, hl'], .inr ⟨g, off, cap, putCells id off (flatK enc k l'.toArray) cur, rfl, hb, ?_, hn, hm, by simp [putCells]; exact hs, fun j u hj => ?_⟩⟩
    · unfold Blk sortWorldK
      rw [heap_grow_old _ _ (by simpa [putRowK, putRow, mapBlock, Sort.ahead] using hB.lt)]
      unfold Blk at hB
      simp [putRowK, putRow, mapBlock, Sort.ahead, Array.getElem?_modify, hB, onCells]
    · have hj' : j < l'.length * k := by have := (List.getElem?_eq_some_iff.1 hj).1; rwa [flat_len enc k hk] at this
      have hmul : l'.length * k ≤ cap * k := Nat.mul_le_mul_right _ (by omega)
      rw [flatK_at hk k0 l' j hj'] at hj
      simp only [putCells, Array.getElem?_mapIdx]
      rw [Array.getElem?_eq_getElem (by omega), Option.map_some, if_pos ⟨by omega, by simp; omega⟩, show off + j - off = j by omega]
      exact hj
end

/-- Two rows that rise, of the same elements, are one. -/
theorem rise_ext {α : Type} (key : α → Int) : ∀ {l m : List α}, l.Pairwise (fun a b => key a < key b) → m.Pairwise (fun a b => key a < key b) → (∀ x, x ∈ l ↔ x ∈ m) → l = m
  | [], [], _, _, _ => rfl
  | [], b :: m, _, _, h => absurd ((h b).2 (by simp)) (by simp)
  | a :: l, [], _, _, h => absurd ((h a).1 (by simp)) (by simp)
  | a :: l, b :: m, hl, hm, h => by
    rw [List.pairwise_cons] at hl hm
    have hab : a = b := by
      rcases List.mem_cons.1 ((h a).1 (by simp)) with e | e
      · exact e
      · rcases List.mem_cons.1 ((h b).2 (by simp)) with e' | e'
        · exact e'.symm
        · have := hm.1 a e; have := hl.1 b e'; omega
    subst hab
    rw [rise_ext key hl.2 hm.2 fun x => ?_]
    constructor
    · intro hx
      rcases List.mem_cons.1 ((h x).1 (List.mem_cons_of_mem _ hx)) with rfl | e
      · exact absurd (hl.1 x hx) (by omega)
      · exact e
    · intro hx
      rcases List.mem_cons.1 ((h x).2 (List.mem_cons_of_mem _ hx)) with rfl | e
      · exact absurd (hm.1 x hx) (by omega)
      · exact e

end Go.Proofs.Ytkeiafiembfaeaa
