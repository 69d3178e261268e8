/- A range over a map, told by the keys that have come. Plain theorems, any program. -/
import Derived.Test.YtkeiafiembfaeaaMap
import Derived.Maps.RangeWalk
set_option linter.unusedSimpArgs false
set_option linter.unusedVariables false
namespace Go.Proofs.Ytkeiafiembfaeaa
open Go.RowKit Go.ChangeShapes Go.WideShapes Go.MapKept
open Go.Maps (Keyed)
open Go.ChangeMaps (setBlock modify_eq_set)

theorem nodup_len {α : Type} [DecidableEq α] : ∀ {l m : List α}, l.Nodup → (∀ x ∈ l, x ∈ m) → l.length ≤ m.length
  | [], m, _, _ => Nat.zero_le _
  | a :: l, m, hn, hs => by
    obtain ⟨h1, h2⟩ := List.nodup_cons.1 hn
    have ha := hs a (by simp)
    have h3 := nodup_len (m := m.erase a) h2 fun x hx => (List.mem_erase_of_ne (fun e => h1 (by rw [← e]; exact hx))).2 (hs x (by simp [hx]))
    rw [List.length_erase_of_mem ha] at h3
    have := List.length_pos_of_mem ha
    simp only [List.length_cons]; omega

/-- Block r is an iterator over the map of block b, which holds f; the keys of done have come. -/
def RangeIs (P : Program) (K : TypeId) (w : World) (b r n : Nat) (f : Value → Option Value) (done : List Value) : Prop :=
  ∃ es clock since seen c0, (w.heap[b]? = some (.map es clock) ∧ es.size = n ∧ (∀ e ∈ es.toList, ∃ l, keyOf P K e.key = some l) ∧ Stamped es clock ∧ ∀ k v, f k = some v ↔ ∃ e ∈ es.toList, e.key = k ∧ e.val = v) ∧
    w.heap[r]? = some (.mapIter (some b) since seen c0) ∧ (∀ x ∈ es.toList, x.born < since) ∧ since ≤ c0 ∧ since ≤ clock ∧ b ≠ r ∧ done.Nodup ∧ (∀ x ∈ es.toList, seen.contains x.born = true ↔ x.key ∈ done) ∧ ∀ k ∈ done, ∃ x ∈ es.toList, x.key = k

section
variable {P : Program} {K t e : TypeId} {w w' : World} {b r n : Nat} {f : Value → Option Value} {done : List Value}

theorem RangeIs.is (h : RangeIs P K w b r n f done) : MapIs P K w b n f := by
  obtain ⟨es, clock, _, _, _, h, _⟩ := h
  exact ⟨es, clock, h⟩
theorem RangeIs.keep (h : RangeIs P K w b r n f done) (hb : w'.heap[b]? = w.heap[b]?) (hr : w'.heap[r]? = w.heap[r]?) : RangeIs P K w' b r n f done := by
  obtain ⟨es, clock, since, seen, c0, ⟨h1, h2⟩, h3, h4⟩ := h
  exact ⟨es, clock, since, seen, c0, ⟨hb.trans h1, h2⟩, hr.trans h3, h4⟩
theorem RangeIs.lt (h : RangeIs P K w b r n f done) : b < w.heap.size ∧ r < w.heap.size ∧ b ≠ r := by
  obtain ⟨es, clock, since, seen, c0, ⟨h1, _⟩, h3, _, _, _, hne, _⟩ := h
  exact ⟨(Array.getElem?_eq_some_iff.1 h1).1, (Array.getElem?_eq_some_iff.1 h3).1, hne⟩
theorem RangeIs.below (h : RangeIs P K w b r n f done) (hb : Below w.heap.size w w') : RangeIs P K w' b r n f done := h.keep (hb.block b h.lt.1) (hb.block r h.lt.2.1)
theorem RangeIs.but {S : Nat → Prop} (h : RangeIs P K w b r n f done) (hb : But S w.heap.size w w') (h1 : ¬ S b) (h2 : ¬ S r) : RangeIs P K w' b r n f done := h.keep (hb.block b h.lt.1 h1) (hb.block r h.lt.2.1 h2)
/-- No more have come than there are. -/
theorem RangeIs.le (h : RangeIs P K w b r n f done) : done.length ≤ n := by
  obtain ⟨es, clock, since, seen, c0, ⟨_, h2, _, hst, _⟩, _, _, _, _, _, hnd, _, hsub⟩ := h
  have hs : done ⊆ es.toList.map (·.key) := fun k hk => by
    obtain ⟨x, hx, hxk⟩ := hsub k hk
    exact List.mem_map.2 ⟨x, hx, hxk⟩
  have := @nodup_len _ (fun a b => Classical.propDecidable (a = b)) _ _ hnd hs
  simpa [h2] using this
theorem RangeIs.all (h : RangeIs P K w b r n f done) (hlt : ∀ k v, f k = some v → k ∈ done) : done.length = n := by
  refine Nat.le_antisymm h.le ?_
  obtain ⟨es, clock, since, seen, c0, ⟨_, h2, _, hst, hf⟩, _, _, _, _, _, hnd, _, hsub⟩ := h
  have hpw := ((stamped_iff _ _).1 hst).2.2
  have hn2 : (es.toList.map (·.key)).Nodup := List.pairwise_map.2 hpw
  have hs : es.toList.map (·.key) ⊆ done := fun k hk => by
    obtain ⟨x, hx, hxk⟩ := List.mem_map.1 hk
    exact hlt k x.val ((hf k x.val).2 ⟨x, hx, hxk, rfl⟩)
  have := @nodup_len _ (fun a b => Classical.propDecidable (a = b)) _ _ hn2 hs
  simpa [h2] using this

theorem MapIs.run_range (h : MapIs P K w b n f) (ht : P.underlying t = some (.map K e)) :
    ∃ w', (Instr.range t (.map (some b))).run P w = .ok (.pointer (some ⟨w.heap.size, 0, none⟩)) w' ∧ RangeIs P K w' b w.heap.size n f [] ∧ Below w.heap.size w w' := by
  have hlt := h.lt
  obtain ⟨es, clock, hb, h1, h2, hst, hf⟩ := h
  refine ⟨_, run_range_map w t K e b es clock ht hb, ⟨es, clock, clock, #[], clock, ⟨((MapKept.heap_alloc w _).2 b hlt).trans hb, h1, h2, hst, hf⟩, (MapKept.heap_alloc w _).1, ((stamped_iff _ _).1 hst).1, Nat.le_refl _, Nat.le_refl _, by omega, List.nodup_nil, by simp, by simp⟩, (Below.refl _ _).alloc (Nat.le_refl _) _⟩

/-- THE STEP. -/
theorem RangeIs.run_next (h : RangeIs P K w b r n f done) (ty : TypeId) :
    ((∀ k v, f k = some v → k ∈ done) ∧ (Instr.next (.pointer (some ⟨r, 0, none⟩)) false ty).run P w = .ok (.tuple #[.bool false]) w) ∨
    ∃ k v w', f k = some v ∧ k ∉ done ∧ (Instr.next (.pointer (some ⟨r, 0, none⟩)) false ty).run P w = .ok (.tuple #[.bool true, k, v]) w' ∧ RangeIs P K w' b r n f (done ++ [k]) ∧ But (fun j => j = r) w.heap.size w w' ∧ w'.heap.size = w.heap.size ∧
      (Instr.entry (.pointer (some ⟨r, 0, none⟩))).run P w' = .ok (.tuple #[k, v]) w' := by
  obtain ⟨es, clock, since, seen, c0, ⟨hb, h1, h2, hst, hf⟩, hr, hold, hsc, hsk, hne, hnd, hseen, hsub⟩ := h
  have hst' := (stamped_iff es clock).1 hst
  rcases run_next_at (P := P) w ty r b since c0 seen es clock hr hb hold hsc with ⟨h0, hrun⟩ | ⟨x, hx, w1, hal, hrun⟩
  · refine .inl ⟨fun k v hk => ?_, hrun⟩
    obtain ⟨y, hy, rfl, _⟩ := (hf k v).1 hk
    exact (hseen y hy).1 (all_seen es seen h0 y hy)
  · obtain ⟨hxm, hxs⟩ := mem_left hx
    have hr1 : w1.heap[r]? = some (.mapIter (some b) since seen c0) := by rcases hal with rfl | rfl <;> exact hr
    have hb1 : w1.heap[b]? = some (.map es clock) := by rcases hal with rfl | rfl <;> exact hb
    have hset := heap_set (o' := .mapIter (some b) since (seen.push x.born) clock) hr1
    have hb' : (setBlock w1 r (.mapIter (some b) since (seen.push x.born) clock)).heap[b]? = some (.map es clock) := (hset.2 b hne).trans hb1
    have hnot : x.key ∉ done := fun hk => by have := (hseen x hxm).2 hk; rw [hxs] at this; cases this
    have hinj : ∀ y ∈ es.toList, (y.born = x.born ↔ y.key = x.key) := fun y hy => ⟨fun he => by rw [born_inj hst'.2.1 hy hxm he], fun he => by rw [entry_eq_of_key hst'.2.2 hy hxm he]⟩
    refine .inr ⟨x.key, x.val, _, (hf _ _).2 ⟨x, hxm, rfl, rfl⟩, hnot, hrun, ⟨es, clock, since, seen.push x.born, clock, ⟨hb', h1, h2, hst, hf⟩, hset.1, hold, hsk, hsk, hne, ?_, ?_, ?_⟩, ?_, ?_, run_entry_at _ r b since seen es clock x hset.1 hb' hxm hst'.2.1⟩
    · exact List.nodup_append.2 ⟨hnd, by simp, fun a ha c hc => by simp at hc; subst hc; rintro rfl; exact hnot ha⟩
    · intro y hy
      rw [contains_push, Bool.or_eq_true, hseen y hy, List.mem_append, List.mem_singleton, beq_iff_eq, hinj y hy]
    · intro k hk
      rcases List.mem_append.1 hk with hk | hk
      · exact hsub k hk
      · obtain rfl := List.mem_singleton.1 hk; exact ⟨x, hxm, rfl⟩
    · rcases hal with rfl | rfl <;> exact ⟨rfl, rfl, rfl, by simp [setBlock], fun i _ hi => hset.2 i hi⟩
    · rcases hal with rfl | rfl <;> simp [setBlock]

variable {ops : Array Oper} {rest : List Oper} {o : Oper} {a : Act} {Q : Exit → Act → World → Prop}
/-- range m -/
theorem wpList_range_is (hg : o.guard = none) (m : Operand) (t e : TypeId) (hop : o.op = Op.range t m) (ht : P.underlying t = some (.map K e)) (hm : a.eval m = .map (some b)) (h : MapIs P K w b n f)
    (hK : ∀ w', RangeIs P K w' b w.heap.size n f [] → Below w.heap.size w w' → wpList P ops Q rest (a.put o.dst (.pointer (some ⟨w.heap.size, 0, none⟩))) w') : wpList P ops Q (o :: rest) a w := by
  refine wpList_plain hg fun K' hK' => ?_
  obtain ⟨w', hrun, r1, r2⟩ := h.run_range ht
  unfold Oper.wp
  simp [execOp, hop, hm, hrun, Result.andThen]
  exact hK' _ _ (hK w' r1 r2)
theorem wpList_next_is (hg : o.guard = none) (it : Operand) (hop : o.op = Op.next it false) (hit : a.eval it = .pointer (some ⟨r, 0, none⟩)) (h : RangeIs P K w b r n f done)
    (hDone : (∀ k v, f k = some v → k ∈ done) → wpList P ops Q rest (a.put o.dst (.tuple #[.bool false])) w)
    (hMore : ∀ k v w', f k = some v → k ∉ done → RangeIs P K w' b r n f (done ++ [k]) → But (fun j => j = r) w.heap.size w w' → w'.heap.size = w.heap.size → (Instr.entry (.pointer (some ⟨r, 0, none⟩))).run P w' = .ok (.tuple #[k, v]) w' → wpList P ops Q rest (a.put o.dst (.tuple #[.bool true, k, v])) w') :
    wpList P ops Q (o :: rest) a w := by
  refine wpList_plain hg fun K' hK' => ?_
  unfold Oper.wp
  rcases h.run_next o.type with ⟨hl, hrun⟩ | ⟨k, v, w', h1, h2, hrun, h3, h4, h5, h6⟩
  · simp [execOp, hop, hit, hrun, Result.andThen]
    exact hK' _ _ (hDone hl)
  · simp [execOp, hop, hit, hrun, Result.andThen]
    exact hK' _ _ (hMore k v w' h1 h2 h3 h4 h5 h6)
end

end Go.Proofs.Ytkeiafiembfaeaa
