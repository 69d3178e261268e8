/- Maps as what they hold: a map's block as a partial function from keys to elements. Plain theorems, any program. -/
import Derived.Test.YtkeiafiembfaeaaMem
import Derived.Maps.OwnSet
import Derived.Maps.OwnOps
import Derived.WideKeyPair
import Derived.ProofKit
set_option linter.unusedSimpArgs false
set_option linter.unusedVariables false
namespace Go.Proofs.Ytkeiafiembfaeaa
open Go.RowKit Go.ChangeShapes Go.WideShapes Go.MapKept
open Go.Maps (Keyed)
open Go.ChangeMaps (setBlock modify_eq_set)

/-- Block b is a map keyed by type K, of n entries, that holds f. -/
def MapIs (P : Program) (K : TypeId) (w : World) (b n : Nat) (f : Value → Option Value) : Prop :=
  ∃ es clock, w.heap[b]? = some (.map es clock) ∧ es.size = n ∧ (∀ e ∈ es.toList, ∃ l, keyOf P K e.key = some l) ∧ Stamped es clock ∧ ∀ k v, f k = some v ↔ ∃ e ∈ es.toList, e.key = k ∧ e.val = v

section
variable {P : Program} {K t e : TypeId} {w w' : World} {b n : Nat} {f f' : Value → Option Value} {k v z : Value} {l : Lit}

theorem MapIs.lt (h : MapIs P K w b n f) : b < w.heap.size := by
  obtain ⟨es, c, hh, _⟩ := h
  exact (Array.getElem?_eq_some_iff.1 hh).1
theorem MapIs.keep (h : MapIs P K w b n f) (hk : w'.heap[b]? = w.heap[b]?) : MapIs P K w' b n f := by
  obtain ⟨es, c, hh, hr⟩ := h
  exact ⟨es, c, hk.trans hh, hr⟩
theorem MapIs.but {S : Nat → Prop} {B : Nat} (h : MapIs P K w b n f) (hb : But S B w w') (hlt : b < B) (hs : ¬ S b) : MapIs P K w' b n f := h.keep (hb.block b hlt hs)
theorem MapIs.below (h : MapIs P K w b n f) (hb : Below w.heap.size w w') : MapIs P K w' b n f := h.keep (hb.block b h.lt)
theorem MapIs.new (w : World) (c : Nat) : MapIs P K (w.alloc (.map #[] c)) w.heap.size 0 (fun _ => none) :=
  ⟨#[], c, by show (w.heap.push _)[w.heap.size]? = _; simp, rfl, by simp, stamped_empty c, by simp⟩
theorem MapIs.same (h : MapIs P K w b n f) (hf : ∀ k, f' k = f k) : MapIs P K w b n f' := by
  obtain ⟨es, c, hh, h1, h2, h3, h4⟩ := h
  exact ⟨es, c, hh, h1, h2, h3, fun k v => by rw [hf]; exact h4 k v⟩
/-- What is there is a key. -/
theorem MapIs.key (h : MapIs P K w b n f) (hk : f k = some v) : ∃ l, keyOf P K k = some l := by
  obtain ⟨es, c, hh, h1, h2, h3, h4⟩ := h
  obtain ⟨e, he, rfl, _⟩ := (h4 k v).1 hk
  exact h2 e he

theorem MapIs.run_lookup (h : MapIs P K w b n f) (KK : Keyed P K) (ht : P.underlying t = some (.map K e)) (hz : (zeroValue e).run P w = .ok z w) (hk : keyOf P K k = some l) (c : Bool) :
    (Instr.lookup t (.map (some b)) k c).run P w = .ok (if c then .tuple #[(f k).getD z, .bool (f k).isSome] else (f k).getD z) w := by
  obtain ⟨es, cl, hb, h1, h2, h3, h4⟩ := h
  rcases KK.find w hk es.toList h2 with ⟨g1, g2⟩ | ⟨j, e0, g1, g2, g3⟩
  · have hf : f k = none := by
      cases hq : f k with
      | none => rfl
      | some v => obtain ⟨e', he', hk', _⟩ := (h4 k v).1 hq; exact absurd hk' (g2 e' he')
    rw [hf]
    simp [Instr.lookup, run_underlying ht, MapKept.run_getObj_map hb, KK.check w _ hk, g1, hz, Result.andThen]
  · have hf : f k = some e0.val := (h4 k _).2 ⟨e0, List.mem_of_getElem? g2, g3, rfl⟩
    rw [hf]
    simp [Instr.lookup, run_underlying ht, MapKept.run_getObj_map hb, KK.check w _ hk, g1, Result.andThen]

theorem setBlock_heap (w : World) (b : Nat) (o : Obj) (h : b < w.heap.size) : (setBlock w b o).heap[b]? = some o := by
  simp [setBlock, h]
theorem setBlock_but (w : World) (b B : Nat) (o : Obj) : But (fun j => j = b) B w (setBlock w b o) :=
  ⟨rfl, rfl, rfl, by simp [setBlock], fun j _ hs => by simp [setBlock, Array.getElem?_setIfInBounds_ne (fun e => hs e.symm)]⟩

/-- m[k] = v. -/
theorem MapIs.run_update (h : MapIs P K w b n f) (KK : Keyed P K) (ht : P.underlying t = some (.map K e)) (hk : keyOf P K k = some l) (v : Value) :
    ∃ w', (Instr.mapUpdate t (.map (some b)) k v).run P w = .ok () w' ∧ But (fun j => j = b) w.heap.size w w' ∧ w'.heap.size = w.heap.size ∧
      ∀ f', f' k = some v → (∀ k', k' ≠ k → f' k' = f k') → MapIs P K w' b (if (f k).isSome then n else n + 1) f' := by
  obtain ⟨es, cl, hb, h1, h2, hst, h4⟩ := h
  have h3 := ((stamped_iff _ _).1 hst).2.2
  have hlt : b < w.heap.size := (Array.getElem?_eq_some_iff.1 hb).1
  rcases KK.find w hk es.toList h2 with ⟨g1, g2⟩ | ⟨j, e0, g1, g2, g3⟩
  · have hf : f k = none := by
      cases hq : f k with
      | none => rfl
      | some v => obtain ⟨e', he', hk', _⟩ := (h4 k v).1 hq; exact absurd hk' (g2 e' he')
    refine ⟨setBlock w b (.map (es.push ⟨k, v, cl⟩) (cl + 1)), ?_, setBlock_but _ _ _ _, by simp [setBlock], fun f' hf1 hf2 => ⟨_, _, setBlock_heap _ _ _ hlt, by simp [hf, h1], ?_, ?_, ?_⟩⟩
    · simp [Instr.mapUpdate, run_underlying ht, MapKept.run_getObj_map hb, KK.check w false hk, g1, MapKept.run_setObj_map _ hb, Result.andThen, setBlock]
    · intro x hx
      simp only [Array.toList_push, List.mem_append, List.mem_singleton] at hx
      rcases hx with hx | rfl
      · exact h2 x hx
      · exact ⟨_, hk⟩
    · exact stamped_push hst g2
    · intro k' v'
      simp only [Array.toList_push, List.mem_append, List.mem_singleton]
      by_cases hkk : k' = k
      · subst hkk
        rw [hf1]
        constructor
        · rintro h; cases h; exact ⟨_, .inr rfl, rfl, rfl⟩
        · rintro ⟨x, hx | rfl, hx1, hx2⟩
          · exact absurd hx1 (g2 x hx)
          · exact congrArg some hx2
      · rw [hf2 _ hkk, h4]
        constructor
        · rintro ⟨x, hx, hx1, hx2⟩; exact ⟨x, .inl hx, hx1, hx2⟩
        · rintro ⟨x, hx | rfl, hx1, hx2⟩
          · exact ⟨x, hx, hx1, hx2⟩
          · exact absurd hx1.symm hkk
  · have hj : es[j]? = some e0 := by simpa using g2
    have hjl : j < es.toList.length := (List.getElem?_eq_some_iff.1 g2).1
    have hf : f k = some e0.val := (h4 k _).2 ⟨e0, List.mem_of_getElem? g2, g3, rfl⟩
    have hlist : (es.modify j (fun e' => { e' with key := k, val := v })).toList = es.toList.set j { e0 with key := k, val := v } := by rw [Array.toList_modify, modify_eq_set _ _ _ _ g2]
    have hst' : Stamped (es.modify j fun e' => { e' with key := k, val := v }) cl := stamped_modify hst _ _ (fun _ _ => rfl) (fun e' _ he' => by rw [hj] at he'; cases he'; exact g3.symm)
    have who : ∀ x ∈ es.toList.set j { e0 with key := k, val := v }, x.key = k → x = { e0 with key := k, val := v } := by
      intro x hx hxk
      obtain ⟨i, hi, ex⟩ := List.getElem_of_mem hx
      by_cases hij : i = j
      · subst hij; rw [List.getElem_set_self] at ex; exact ex.symm
      · exfalso
        have hi' : i < es.toList.length := by simpa using hi
        rw [List.getElem_set_ne (Ne.symm hij)] at ex
        have e1 : es.toList[i].key = es.toList[j].key := by
          have : es.toList[j] = e0 := by have := List.getElem?_eq_some_iff.1 g2; exact this.2
          rw [this, g3, ex, hxk]
        rcases Nat.lt_or_gt_of_ne hij with hlt' | hgt
        · exact List.pairwise_iff_getElem.1 h3 i j hi' hjl hlt' e1
        · exact List.pairwise_iff_getElem.1 h3 j i hjl hi' hgt e1.symm
    have oth : ∀ x, x.key ≠ k → (x ∈ es.toList.set j { e0 with key := k, val := v } ↔ x ∈ es.toList) := by
      intro x hxk
      constructor
      · intro hx
        rcases List.mem_or_eq_of_mem_set hx with h | rfl
        · exact h
        · exact absurd rfl hxk
      · intro hx
        obtain ⟨i, hi, ex⟩ := List.getElem_of_mem hx
        have hij : i ≠ j := by
          rintro rfl
          have : es.toList[i] = e0 := (List.getElem?_eq_some_iff.1 g2).2
          rw [← ex, this] at hxk
          exact hxk g3
        exact List.mem_iff_getElem.2 ⟨i, by simpa using hi, by rw [List.getElem_set_ne (Ne.symm hij)]; exact ex⟩
    have hin : ({ e0 with key := k, val := v } : MapEntry) ∈ es.toList.set j { e0 with key := k, val := v } := List.mem_iff_getElem.2 ⟨j, by simpa using hjl, by simp⟩
    refine ⟨setBlock w b (.map (es.modify j fun e' => { e' with key := k, val := v }) cl), ?_, setBlock_but _ _ _ _, by simp [setBlock], fun f' hf1 hf2 => ⟨_, _, setBlock_heap _ _ _ hlt, by simp [hf, h1], ?_, hst', ?_⟩⟩
    · simp [Instr.mapUpdate, run_underlying ht, MapKept.run_getObj_map hb, KK.check w false hk, g1, hj, g3, KK.stays w hk, MapKept.run_setObj_map _ hb, Result.andThen, setBlock]
    · intro x hx
      rw [hlist] at hx
      rcases List.mem_or_eq_of_mem_set hx with h | rfl
      · exact h2 x h
      · exact ⟨_, hk⟩
    · intro k' v'
      rw [hlist]
      by_cases hkk : k' = k
      · subst hkk
        rw [hf1]
        constructor
        · rintro h; cases h; exact ⟨_, hin, rfl, rfl⟩
        · rintro ⟨x, hx, hx1, hx2⟩
          rw [who x hx hx1] at hx2
          exact congrArg some hx2
      · rw [hf2 _ hkk, h4]
        constructor
        · rintro ⟨x, hx, hx1, hx2⟩; exact ⟨x, (oth x (by rw [hx1]; exact hkk)).2 hx, hx1, hx2⟩
        · rintro ⟨x, hx, hx1, hx2⟩; exact ⟨x, (oth x (by rw [hx1]; exact hkk)).1 hx, hx1, hx2⟩

/-- delete(m, k). -/
theorem MapIs.run_delete {ty : TypeId} (h : MapIs P K w b n f) (KK : Keyed P K) (ht : P.underlying t = some (.map K e)) (hk : keyOf P K k = some l) :
    ∃ w', (Builtin.delete_ #[t, K] ty #[.map (some b), k]).run P w = .ok (.tuple #[]) w' ∧ But (fun j => j = b) w.heap.size w w' ∧ w'.heap.size = w.heap.size ∧
      ∀ f', f' k = none → (∀ k', k' ≠ k → f' k' = f k') → MapIs P K w' b (if (f k).isSome then n - 1 else n) f' := by
  obtain ⟨es, cl, hb, h1, h2, hst, h4⟩ := h
  have h3 := ((stamped_iff _ _).1 hst).2.2
  have hlt : b < w.heap.size := (Array.getElem?_eq_some_iff.1 hb).1
  rcases KK.find w hk es.toList h2 with ⟨g1, g2⟩ | ⟨j, e0, g1, g2, g3⟩
  · have hf : f k = none := by
      cases hq : f k with
      | none => rfl
      | some v => obtain ⟨e', he', hk', _⟩ := (h4 k v).1 hq; exact absurd hk' (g2 e' he')
    refine ⟨setBlock w b (.map es cl), ?_, setBlock_but _ _ _ _, by simp [setBlock], fun f' hf1 hf2 => ⟨es, cl, setBlock_heap _ _ _ hlt, by simp [hf, h1], h2, hst, fun k' v' => ?_⟩⟩
    · simp [Builtin.delete_, run_underlying ht, MapKept.run_getObj_map hb, KK.check w _ hk, g1, MapKept.run_setObj_map _ hb, Result.andThen, setBlock]
    · by_cases hkk : k' = k
      · subst hkk; rw [hf1, ← hf]; exact h4 k' v'
      · rw [hf2 _ hkk]; exact h4 k' v'
  · have hf : f k = some e0.val := (h4 k _).2 ⟨e0, List.mem_of_getElem? g2, g3, rfl⟩
    have hjl : j < es.toList.length := (List.getElem?_eq_some_iff.1 g2).1
    have hjs : j < es.size := by simpa using hjl
    have hsub : (es.eraseIdxIfInBounds j).toList = es.toList.eraseIdx j := by
      unfold Array.eraseIdxIfInBounds
      rw [dif_pos hjs]
      simp
    refine ⟨setBlock w b (.map (es.eraseIdxIfInBounds j) cl), ?_, setBlock_but _ _ _ _, by simp [setBlock], fun f' hf1 hf2 => ⟨_, _, setBlock_heap _ _ _ hlt, ?_, ?_, ?_, fun k' v' => ?_⟩⟩
    · simp [Builtin.delete_, run_underlying ht, MapKept.run_getObj_map hb, KK.check w _ hk, g1, MapKept.run_setObj_map _ hb, Result.andThen, setBlock]
    · simp only [hf, Option.isSome_some, if_true, ← h1, ← Array.length_toList, hsub, List.length_eraseIdx, if_pos hjl]
    · intro x hx
      rw [hsub] at hx
      exact h2 x ((List.eraseIdx_sublist _ _).subset hx)
    · exact stamped_erase hst j
    · rw [hsub]
      have hmem : ∀ x, x ∈ es.toList.eraseIdx j ↔ x ∈ es.toList ∧ x.key ≠ k := by
        intro x
        rw [List.mem_eraseIdx_iff_getElem?]
        constructor
        · rintro ⟨i, hij, hi⟩
          refine ⟨List.mem_of_getElem? hi, fun hxk => ?_⟩
          obtain ⟨hil, hie⟩ := List.getElem?_eq_some_iff.1 hi
          have e1 : es.toList[i].key = es.toList[j].key := by
            have : es.toList[j] = e0 := (List.getElem?_eq_some_iff.1 g2).2
            rw [this, g3, hie, hxk]
          rcases Nat.lt_or_gt_of_ne hij with hlt' | hgt
          · exact List.pairwise_iff_getElem.1 h3 i j hil hjl hlt' e1
          · exact List.pairwise_iff_getElem.1 h3 j i hjl hil hgt e1.symm
        · rintro ⟨hx, hxk⟩
          obtain ⟨i, hi, ex⟩ := List.getElem_of_mem hx
          refine ⟨i, ?_, by rw [List.getElem?_eq_getElem hi, ex]⟩
          rintro rfl
          have : es.toList[i] = e0 := (List.getElem?_eq_some_iff.1 g2).2
          rw [← ex, this] at hxk
          exact hxk g3
      by_cases hkk : k' = k
      · subst hkk
        rw [hf1]
        constructor
        · intro h; cases h
        · rintro ⟨x, hx, hx1, _⟩; exact absurd hx1 ((hmem x).1 hx).2
      · rw [hf2 _ hkk, h4]
        constructor
        · rintro ⟨x, hx, hx1, hx2⟩; exact ⟨x, (hmem x).2 ⟨hx, by rw [hx1]; exact hkk⟩, hx1, hx2⟩
        · rintro ⟨x, hx, hx1, hx2⟩; exact ⟨x, ((hmem x).1 hx).1, hx1, hx2⟩

/-- As MapIs, and the entry at k bears the stamp born. -/
def EntryIs (P : Program) (K : TypeId) (w : World) (b n : Nat) (f : Value → Option Value) (k : Value) (born : Nat) : Prop :=
  ∃ es clock, w.heap[b]? = some (.map es clock) ∧ es.size = n ∧ (∀ e ∈ es.toList, ∃ l, keyOf P K e.key = some l) ∧ Stamped es clock ∧ (∀ k v, f k = some v ↔ ∃ e ∈ es.toList, e.key = k ∧ e.val = v) ∧ ∃ (i : Nat) (e0 : MapEntry), es[i]? = some e0 ∧ e0.key = k ∧ e0.born = born
theorem EntryIs.is {born : Nat} (h : EntryIs P K w b n f k born) : MapIs P K w b n f := by
  obtain ⟨es, c, h1, h2, h3, h4, h5, _⟩ := h
  exact ⟨es, c, h1, h2, h3, h4, h5⟩
theorem EntryIs.keep {born : Nat} (h : EntryIs P K w b n f k born) (hk : w'.heap[b]? = w.heap[b]?) : EntryIs P K w' b n f k born := by
  obtain ⟨es, c, hh, hr⟩ := h
  exact ⟨es, c, hk.trans hh, hr⟩

theorem modify_same {es : Array MapEntry} {j : Nat} {e0 : MapEntry} (hj : es[j]? = some e0) (h : e0.key = k) : (es.modify j fun e => { e with key := k }) = es := by
  apply Array.ext_getElem?
  intro i
  rw [Array.getElem?_modify]
  by_cases e : j = i
  · subst e; rw [if_pos rfl, hj]; subst h; rfl
  · rw [if_neg e]

/-- The entry at k, laid if it is not there. -/
theorem MapIs.run_entry (h : MapIs P K w b n f) (KK : Keyed P K) (ht : P.underlying t = some (.map K e)) (hz : (zeroValue e).run P w = .ok z w) (hk : keyOf P K k = some l) :
    ∃ w' born, (Instr.mapEntry t (.map (some b)) k).run P w = .ok (.tuple #[(f k).getD z, .int .i64 (born : Nat)]) w' ∧ But (fun j => j = b) w.heap.size w w' ∧ w'.heap.size = w.heap.size ∧
      ∀ f', f' k = some ((f k).getD z) → (∀ k', k' ≠ k → f' k' = f k') → EntryIs P K w' b (if (f k).isSome then n else n + 1) f' k born := by
  obtain ⟨es, cl, hb, h1, h2, hst, h4⟩ := h
  have hlt : b < w.heap.size := (Array.getElem?_eq_some_iff.1 hb).1
  rcases KK.find w hk es.toList h2 with ⟨g1, g2⟩ | ⟨j, e0, g1, g2, g3⟩
  · have hf : f k = none := by
      cases hq : f k with
      | none => rfl
      | some v => obtain ⟨e', he', hk', _⟩ := (h4 k v).1 hq; exact absurd hk' (g2 e' he')
    refine ⟨setBlock w b (.map (es.push ⟨k, z, cl⟩) (cl + 1)), cl, ?_, setBlock_but _ _ _ _, by simp [setBlock], fun f' hf1 hf2 => ⟨_, _, setBlock_heap _ _ _ hlt, by simp [hf, h1], ?_, stamped_push hst g2, ?_, es.size, ⟨k, z, cl⟩, by simp, rfl, rfl⟩⟩
    · simp [Instr.mapEntry, run_underlying ht, MapKept.run_getObj_map hb, KK.check w false hk, g1, hz, hf, MapKept.run_setObj_map _ hb, Result.andThen, setBlock, goInt]
    · intro x hx
      simp only [Array.toList_push, List.mem_append, List.mem_singleton] at hx
      rcases hx with hx | rfl
      · exact h2 x hx
      · exact ⟨_, hk⟩
    · intro k' v'
      simp only [Array.toList_push, List.mem_append, List.mem_singleton]
      by_cases hkk : k' = k
      · subst hkk
        rw [hf1, hf]
        constructor
        · rintro h; cases h; exact ⟨_, .inr rfl, rfl, rfl⟩
        · rintro ⟨x, hx | rfl, hx1, hx2⟩
          · exact absurd hx1 (g2 x hx)
          · exact congrArg some hx2
      · rw [hf2 _ hkk, h4]
        constructor
        · rintro ⟨x, hx, hx1, hx2⟩; exact ⟨x, .inl hx, hx1, hx2⟩
        · rintro ⟨x, hx | rfl, hx1, hx2⟩
          · exact ⟨x, hx, hx1, hx2⟩
          · exact absurd hx1.symm hkk
  · have hj : es[j]? = some e0 := by simpa using g2
    have hf : f k = some e0.val := (h4 k _).2 ⟨e0, List.mem_of_getElem? g2, g3, rfl⟩
    refine ⟨setBlock w b (.map es cl), e0.born, ?_, setBlock_but _ _ _ _, by simp [setBlock], fun f' hf1 hf2 => ⟨es, cl, setBlock_heap _ _ _ hlt, by simp [hf, h1], h2, hst, fun k' v' => ?_, j, e0, hj, g3, rfl⟩⟩
    · simp [Instr.mapEntry, run_underlying ht, MapKept.run_getObj_map hb, KK.check w false hk, g1, hj, g3, hf, KK.stays w hk, MapKept.run_setObj_map _ hb, Result.andThen, setBlock, goInt, modify_same hj g3]
    · by_cases hkk : k' = k
      · subst hkk; rw [hf1, hf]; have := h4 k' v'; rw [hf] at this; exact this
      · rw [hf2 _ hkk]; exact h4 k' v'

theorem EntryIs.run_store {born : Nat} (h : EntryIs P K w b n f k born) (ty : TypeId) (v : Value) :
    ∃ w', (Instr.entryStore ty (.map (some b)) (.int .i64 (born : Nat)) v).run P w = .ok () w' ∧ But (fun j => j = b) w.heap.size w w' ∧ w'.heap.size = w.heap.size ∧
      ∀ f', f' k = some v → (∀ k', k' ≠ k → f' k' = f k') → MapIs P K w' b n f' := by
  obtain ⟨es, cl, hb, h1, h2, hst, h4, j, e0, hj, rfl, rfl⟩ := h
  have hlt : b < w.heap.size := (Array.getElem?_eq_some_iff.1 hb).1
  have hjs : j < es.size := (Array.getElem?_eq_some_iff.1 hj).1
  have hj2 : es.toList[j]? = some e0 := by simpa using hj
  have h3 := ((stamped_iff _ _).1 hst).2.2
  have hje : es[j] = e0 := (Array.getElem?_eq_some_iff.1 hj).2
  have hfind : es.findIdx? (fun e => (e.born : Int) == (e0.born : Int)) = some j := by
    rw [Array.findIdx?_eq_some_iff_getElem]
    refine ⟨hjs, by simp [hje], fun i hij => ?_⟩
    simp only [beq_iff_eq, Int.ofNat_inj]
    intro hc
    have hnd := ((stamped_iff _ _).1 hst).2.1
    have hil : i < es.size := by omega
    exact List.pairwise_iff_getElem.1 hnd i j (by simpa using hil) (by simpa using hjs) hij (by simp [hje, hc])
  have hlist : (es.modify j (fun e' => { e' with val := v })).toList = es.toList.set j { e0 with val := v } := by rw [Array.toList_modify, modify_eq_set _ _ _ _ hj2]
  have hjl : j < es.toList.length := by simpa using hjs
  have who : ∀ x ∈ es.toList.set j { e0 with val := v }, x.key = e0.key → x = { e0 with val := v } := by
    intro x hx hxk
    obtain ⟨i, hi, ex⟩ := List.getElem_of_mem hx
    by_cases hij : i = j
    · subst hij; rw [List.getElem_set_self] at ex; exact ex.symm
    · exfalso
      have hi' : i < es.toList.length := by simpa using hi
      rw [List.getElem_set_ne (Ne.symm hij)] at ex
      have e1 : es.toList[i].key = es.toList[j].key := by
        have : es.toList[j] = e0 := (List.getElem?_eq_some_iff.1 hj2).2
        rw [this, ex, hxk]
      rcases Nat.lt_or_gt_of_ne hij with hlt' | hgt
      · exact List.pairwise_iff_getElem.1 h3 i j hi' hjl hlt' e1
      · exact List.pairwise_iff_getElem.1 h3 j i hjl hi' hgt e1.symm
  have oth : ∀ x, x.key ≠ e0.key → (x ∈ es.toList.set j { e0 with val := v } ↔ x ∈ es.toList) := by
    intro x hxk
    constructor
    · intro hx
      rcases List.mem_or_eq_of_mem_set hx with h | rfl
      · exact h
      · exact absurd rfl hxk
    · intro hx
      obtain ⟨i, hi, ex⟩ := List.getElem_of_mem hx
      have hij : i ≠ j := by
        rintro rfl
        have : es.toList[i] = e0 := (List.getElem?_eq_some_iff.1 hj2).2
        rw [← ex, this] at hxk
        exact hxk rfl
      exact List.mem_iff_getElem.2 ⟨i, by simpa using hi, by rw [List.getElem_set_ne (Ne.symm hij)]; exact ex⟩
  have hin : ({ e0 with val := v } : MapEntry) ∈ es.toList.set j { e0 with val := v } := List.mem_iff_getElem.2 ⟨j, by simpa using hjl, by simp⟩
  refine ⟨setBlock w b (.map (es.modify j fun e' => { e' with val := v }) cl), ?_, setBlock_but _ _ _ _, by simp [setBlock], fun f' hf1 hf2 => ⟨_, _, setBlock_heap _ _ _ hlt, by simp [h1], ?_, stamped_modify hst _ _ (fun _ _ => rfl) (fun _ _ _ => rfl), ?_⟩⟩
  · simp [Instr.entryStore, MapKept.run_getObj_map hb, asInt, asIntOf, hfind, MapKept.run_setObj_map _ hb, Result.andThen, setBlock]
  · intro x hx
    rw [hlist] at hx
    rcases List.mem_or_eq_of_mem_set hx with h | rfl
    · exact h2 x h
    · exact h2 e0 (List.mem_of_getElem? hj2)
  · intro k' v'
    rw [hlist]
    by_cases hkk : k' = e0.key
    · subst hkk
      rw [hf1]
      constructor
      · rintro h; cases h; exact ⟨_, hin, rfl, rfl⟩
      · rintro ⟨x, hx, hx1, hx2⟩
        rw [who x hx hx1] at hx2
        exact congrArg some hx2
    · rw [hf2 _ hkk, h4]
      constructor
      · rintro ⟨x, hx, hx1, hx2⟩; exact ⟨x, (oth x (by rw [hx1]; exact hkk)).2 hx, hx1, hx2⟩
      · rintro ⟨x, hx, hx1, hx2⟩; exact ⟨x, (oth x (by rw [hx1]; exact hkk)).1 hx, hx1, hx2⟩

/-! ### At the operation -/
section
variable {ops : Array Oper} {rest : List Oper} {o : Oper} {a : Act}
theorem wp_lookup_is {R : Act → World → Prop} {Q : Exit → Act → World → Prop} (h : MapIs P K w b n f) (KK : Keyed P K) (m x : Operand) (hop : o.op = Op.lookup t m x false)
    (ht : P.underlying t = some (.map K e)) (hz : (zeroValue e).run P w = .ok z w) (hm : a.eval m = .map (some b)) (hx : a.eval x = k) (hk : keyOf P K k = some l) (y : Value) (hy : (f k).getD z = y)
    (hR : R (a.put o.dst y) w) : o.wp P a w R Q := by
  have hrun := h.run_lookup KK ht hz hk false
  rw [hy] at hrun
  unfold Oper.wp
  simp [execOp, hop, hm, hx, hrun, Result.andThen]
  exact hR
theorem wpList_lookup_is {Q : Exit → Act → World → Prop} (hg : o.guard = none) (h : MapIs P K w b n f) (KK : Keyed P K) (m x : Operand) (hop : o.op = Op.lookup t m x false)
    (ht : P.underlying t = some (.map K e)) (hz : (zeroValue e).run P w = .ok z w) (hm : a.eval m = .map (some b)) (hx : a.eval x = k) (hk : keyOf P K k = some l) (y : Value) (hy : (f k).getD z = y)
    (hR : wpList P ops Q rest (a.put o.dst y) w) : wpList P ops Q (o :: rest) a w :=
  wpList_plain hg fun R hR' => wp_lookup_is h KK m x hop ht hz hm hx hk y hy (hR' _ _ hR)
theorem wp_lookupOk_is {R : Act → World → Prop} {Q : Exit → Act → World → Prop} (h : MapIs P K w b n f) (KK : Keyed P K) (m x : Operand) (hop : o.op = Op.lookup t m x true)
    (ht : P.underlying t = some (.map K e)) (hz : (zeroValue e).run P w = .ok z w) (hm : a.eval m = .map (some b)) (hx : a.eval x = k) (hk : keyOf P K k = some l) (y : Value) (s : Bool) (hy : (f k).getD z = y) (hs : (f k).isSome = s)
    (hR : R (a.put o.dst (.tuple #[y, .bool s])) w) : o.wp P a w R Q := by
  have hrun := h.run_lookup KK ht hz hk true
  rw [hy, hs] at hrun
  unfold Oper.wp
  simp [execOp, hop, hm, hx, hrun, Result.andThen]
  exact hR
theorem wpList_lookupOk_is {Q : Exit → Act → World → Prop} (hg : o.guard = none) (h : MapIs P K w b n f) (KK : Keyed P K) (m x : Operand) (hop : o.op = Op.lookup t m x true)
    (ht : P.underlying t = some (.map K e)) (hz : (zeroValue e).run P w = .ok z w) (hm : a.eval m = .map (some b)) (hx : a.eval x = k) (hk : keyOf P K k = some l) (y : Value) (s : Bool) (hy : (f k).getD z = y) (hs : (f k).isSome = s)
    (hR : wpList P ops Q rest (a.put o.dst (.tuple #[y, .bool s])) w) : wpList P ops Q (o :: rest) a w :=
  wpList_plain hg fun R hR' => wp_lookupOk_is h KK m x hop ht hz hm hx hk y s hy hs (hR' _ _ hR)
theorem wp_update_is {R : Act → World → Prop} {Q : Exit → Act → World → Prop} (h : MapIs P K w b n f) (KK : Keyed P K) (m x y : Operand) (hop : o.op = Op.mapUpdate t m x y)
    (ht : P.underlying t = some (.map K e)) (hm : a.eval m = .map (some b)) (hx : a.eval x = k) (hy : a.eval y = v) (hk : keyOf P K k = some l)
    (hR : ∀ w', But (fun j => j = b) w.heap.size w w' → w'.heap.size = w.heap.size → (∀ f', f' k = some v → (∀ k', k' ≠ k → f' k' = f k') → MapIs P K w' b (if (f k).isSome then n else n + 1) f') → R (a.put o.dst undef) w') : o.wp P a w R Q := by
  obtain ⟨w', hrun, h1, h2, h3⟩ := h.run_update KK ht hk v
  unfold Oper.wp
  simp [execOp, hop, hm, hx, hy, hrun, Result.andThen]
  exact hR w' h1 h2 h3
theorem wpList_update_is {Q : Exit → Act → World → Prop} (hg : o.guard = none) (h : MapIs P K w b n f) (KK : Keyed P K) (m x y : Operand) (hop : o.op = Op.mapUpdate t m x y)
    (ht : P.underlying t = some (.map K e)) (hm : a.eval m = .map (some b)) (hx : a.eval x = k) (hy : a.eval y = v) (hk : keyOf P K k = some l)
    (hR : ∀ w', But (fun j => j = b) w.heap.size w w' → w'.heap.size = w.heap.size → (∀ f', f' k = some v → (∀ k', k' ≠ k → f' k' = f k') → MapIs P K w' b (if (f k).isSome then n else n + 1) f') → wpList P ops Q rest (a.put o.dst undef) w') :
    wpList P ops Q (o :: rest) a w :=
  wpList_plain hg fun R hR' => wp_update_is h KK m x y hop ht hm hx hy hk fun w' h1 h2 h3 => hR' _ _ (hR w' h1 h2 h3)
theorem wp_entry_is {R : Act → World → Prop} {Q : Exit → Act → World → Prop} (h : MapIs P K w b n f) (KK : Keyed P K) (m x : Operand) (hop : o.op = Op.mapEntry t m x)
    (ht : P.underlying t = some (.map K e)) (hz : (zeroValue e).run P w = .ok z w) (hm : a.eval m = .map (some b)) (hx : a.eval x = k) (hk : keyOf P K k = some l) (y : Value) (hy : (f k).getD z = y)
    (hR : ∀ w' born, But (fun j => j = b) w.heap.size w w' → w'.heap.size = w.heap.size → (∀ f', f' k = some y → (∀ k', k' ≠ k → f' k' = f k') → EntryIs P K w' b (if (f k).isSome then n else n + 1) f' k born) →
      R (a.put o.dst (.tuple #[y, .int .i64 (born : Nat)])) w') : o.wp P a w R Q := by
  obtain ⟨w', born, hrun, h1, h2, h3⟩ := h.run_entry KK ht hz hk
  rw [hy] at hrun h3
  unfold Oper.wp
  simp [execOp, hop, hm, hx, hrun, Result.andThen]
  exact hR w' born h1 h2 h3
theorem wpList_entry_is {Q : Exit → Act → World → Prop} (hg : o.guard = none) (h : MapIs P K w b n f) (KK : Keyed P K) (m x : Operand) (hop : o.op = Op.mapEntry t m x)
    (ht : P.underlying t = some (.map K e)) (hz : (zeroValue e).run P w = .ok z w) (hm : a.eval m = .map (some b)) (hx : a.eval x = k) (hk : keyOf P K k = some l) (y : Value) (hy : (f k).getD z = y)
    (hR : ∀ w' born, But (fun j => j = b) w.heap.size w w' → w'.heap.size = w.heap.size → (∀ f', f' k = some y → (∀ k', k' ≠ k → f' k' = f k') → EntryIs P K w' b (if (f k).isSome then n else n + 1) f' k born) →
      wpList P ops Q rest (a.put o.dst (.tuple #[y, .int .i64 (born : Nat)])) w') : wpList P ops Q (o :: rest) a w :=
  wpList_plain hg fun R hR' => wp_entry_is h KK m x hop ht hz hm hx hk y hy fun w' born h1 h2 h3 => hR' _ _ (hR w' born h1 h2 h3)
theorem wp_entryStore_is {R : Act → World → Prop} {Q : Exit → Act → World → Prop} {born : Nat} (h : EntryIs P K w b n f k born) (m x y : Operand) (hop : o.op = Op.entryStore t m x y)
    (hm : a.eval m = .map (some b)) (hx : a.eval x = .int .i64 (born : Nat)) (hy : a.eval y = v)
    (hR : ∀ w', But (fun j => j = b) w.heap.size w w' → w'.heap.size = w.heap.size → (∀ f', f' k = some v → (∀ k', k' ≠ k → f' k' = f k') → MapIs P K w' b n f') → R (a.put o.dst undef) w') : o.wp P a w R Q := by
  obtain ⟨w', hrun, h1, h2, h3⟩ := h.run_store t v
  unfold Oper.wp
  simp [execOp, hop, hm, hx, hy, hrun, Result.andThen]
  exact hR w' h1 h2 h3
theorem wpList_entryStore_is {Q : Exit → Act → World → Prop} {born : Nat} (hg : o.guard = none) (h : EntryIs P K w b n f k born) (m x y : Operand) (hop : o.op = Op.entryStore t m x y)
    (hm : a.eval m = .map (some b)) (hx : a.eval x = .int .i64 (born : Nat)) (hy : a.eval y = v)
    (hR : ∀ w', But (fun j => j = b) w.heap.size w w' → w'.heap.size = w.heap.size → (∀ f', f' k = some v → (∀ k', k' ≠ k → f' k' = f k') → MapIs P K w' b n f') → wpList P ops Q rest (a.put o.dst undef) w') :
    wpList P ops Q (o :: rest) a w :=
  wpList_plain hg fun R hR' => wp_entryStore_is h m x y hop hm hx hy fun w' h1 h2 h3 => hR' _ _ (hR w' h1 h2 h3)
end
end

end Go.Proofs.Ytkeiafiembfaeaa
