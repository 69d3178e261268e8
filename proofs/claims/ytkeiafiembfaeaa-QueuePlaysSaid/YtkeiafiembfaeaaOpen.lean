/- What is known of a law's arguments: opened by their types. Plain theorems, no program. -/
import Derived.Test.YtkeiafiembfaeaaMem
import Derived.ProofKit
import Derived.OpenShut
import Derived.ShutString
import Derived.ChangeOld
import Derived.Deep.Slices
set_option linter.unusedSimpArgs false
set_option linter.unusedVariables false
namespace Go.Proofs.Ytkeiafiembfaeaa
open Go.RowKit Go.ChangeShapes Go.WideShapes Go.Deep

/-- The cells cs read as a value of type t. -/
def Tr (P : Program) (w : World) (t : TypeId) (cs : List Value) : Prop :=
  ∃ (H : Type) (enc : TypeId × Value → H) (n : Nat) (x : DataW H × List MemPlace), DataW.trod enc P w 0 (fun _ => true) true n t cs = some x

/-- An argument that came in. -/
def Came (P : Program) (w : World) (t : TypeId) (v : Value) : Prop := (∃ base, Value.okWide P w .any base t v) ∧ Tr P w t v.cells.toList

section
variable {P : Program} {w : World} {t e : TypeId} {cs : List Value} {v : Value}

theorem Tr.int {k : IntKind} (ht : P.underlying t = some (.int k)) (h : Tr P w t cs) : ∃ n, cs = [.int k n] ∧ (Lit.int k n).wf = true := by
  obtain ⟨H, enc, n, x, h⟩ := h
  obtain ⟨m, h1, _, h2⟩ := DataW.trod_int ht h
  exact ⟨m, h1, h2⟩
theorem Tr.bool (ht : P.underlying t = some .bool) (h : Tr P w t cs) : ∃ b, cs = [.bool b] := by
  obtain ⟨H, enc, n, x, h⟩ := h
  obtain ⟨m, h1, _⟩ := DataW.trod_bool ht h
  exact ⟨m, h1⟩
theorem Tr.string (ht : P.underlying t = some .string) (h : Tr P w t cs) : ∃ s : ByteArray, cs = [.string s] ∧ s.size ≤ maxLen := by
  obtain ⟨H, enc, n, x, h⟩ := h
  obtain ⟨m, h1, _, h2⟩ := DataW.trod_string ht h
  exact ⟨m, h1, h2⟩
theorem Tr.struct {fs : Array Field} (ht : P.underlying t = some (.struct fs)) (h : Tr P w t cs) :
    cs.length = P.cellsOf t ∧ ∀ (i : Nat) (f : Field), fs[i]? = some f → Tr P w f.type ((cs.drop f.offset).take (P.cellsOf f.type)) := by
  obtain ⟨H, enc, n, x, h⟩ := h
  obtain ⟨xs, m, _, _, hl, hxl, hf⟩ := DataW.trod_struct ht h
  refine ⟨hl, fun i f hi => ?_⟩
  have hlt : i < xs.length := by rw [hxl]; exact (Array.getElem?_eq_some_iff.1 hi).1
  exact ⟨H, enc, m, xs[i], by rw [hf i f hi, List.getElem?_eq_getElem hlt]⟩
theorem Tr.array {n : Nat} (ht : P.underlying t = some (.array n e)) (h : Tr P w t cs) :
    cs.length = P.cellsOf t ∧ ∀ i, i < n → Tr P w e ((cs.drop (i * P.cellsOf e)).take (P.cellsOf e)) := by
  obtain ⟨H, enc, m, x, h⟩ := h
  obtain ⟨xs, m', _, _, hl, hxl, hf⟩ := DataW.trod_array ht h
  refine ⟨hl, fun i hi => ?_⟩
  have hlt : i < xs.length := by omega
  exact ⟨H, enc, m', xs[i], by rw [hf i hi, List.getElem?_eq_getElem hlt]⟩

/-- The cells vs lie one behind the other from A on, below block B. -/
def Rd (w : World) (B : Nat) (A : Option Addr) (vs : List Value) : Prop :=
  vs = [] ∨ ∃ b o, A = some ⟨b, o, none⟩ ∧ b < B ∧ ∀ j u, vs[j]? = some u → w.cell? ⟨b, o + j, none⟩ = some u

theorem Tr.slice (ht : P.underlying t = some (.slice e)) (he : 0 < P.cellsOf e) (h : Tr P w t cs) :
    ∃ A len cap vs, cs = [.slice A len cap] ∧ len ≤ cap ∧ cap ≤ maxLen ∧ (A = none → cap = 0) ∧ vs.length = len * P.cellsOf e ∧ Rd w w.heap.size A vs ∧
      ∀ i, i < len → Tr P w e ((vs.drop (i * P.cellsOf e)).take (P.cellsOf e)) := by
  obtain ⟨H, enc, n, x, h⟩ := h
  rcases open_slice ht h with ⟨h1, _⟩ | ⟨a, len, cap, m, n', D, Pl, h1, _, hl, hm, hmm, _, hi⟩
  · exact ⟨none, 0, 0, [], h1, Nat.le_refl _, by simp [maxLen], fun _ => rfl, by simp, .inl rfl, fun i hi => absurd hi (by omega)⟩
  · simp only [if_true] at hmm
    subst hmm
    have hcell : ∀ i, i < len → ∃ cs', cs'.length = P.cellsOf e ∧ (∀ j, j < P.cellsOf e → w.cell? (a.add (i * P.cellsOf e + j)) = cs'[j]?) ∧ Tr P w e cs' := by
      intro i hlt
      obtain ⟨cs', hc, htr⟩ := hi i (by omega)
      obtain ⟨_, hcl, hat⟩ := World.cells?_some hc
      refine ⟨cs', hcl, fun j hj => ?_, H, enc, n', _, htr⟩
      rw [← hat j hj, Go.Deep.add_add]
    -- the cells of all elements, one behind the other
    let f : Nat → Value := fun k => (w.cell? (a.add k)).getD undef
    have hf : ∀ k, k < len * P.cellsOf e → w.cell? (a.add k) = some (f k) := by
      intro k hk
      obtain ⟨cs', hcl, hat, _⟩ := hcell (k / P.cellsOf e) (Nat.div_lt_of_lt_mul (by rwa [Nat.mul_comm] at hk))
      have hmod : k % P.cellsOf e < P.cellsOf e := Nat.mod_lt _ he
      have h2 := hat (k % P.cellsOf e) hmod
      have hk' : k / P.cellsOf e * P.cellsOf e + k % P.cellsOf e = k := by rw [Nat.mul_comm]; exact Nat.div_add_mod k _
      rw [hk'] at h2
      rw [h2, List.getElem?_eq_getElem (by omega)]
      simp [f, h2, List.getElem?_eq_getElem (show k % P.cellsOf e < cs'.length by omega)]
    refine ⟨some a, len, m, (List.range (len * P.cellsOf e)).map f, h1, hl, hm, (fun h => by cases h), by simp, ?_, ?_⟩
    · by_cases h0 : len * P.cellsOf e = 0
      · left; rw [h0]; rfl
      · right
        have hs := hf 0 (by omega)
        have ha : a.add 0 = a := by simp [Addr.add]
        rw [ha] at hs
        obtain ⟨b, o, sp⟩ := a
        have hsp : sp = none := by
          cases sp with
          | none => rfl
          | some q =>
            exfalso
            simp only [World.cell?] at hs
            split at hs <;> simp at hs
        subst hsp
        have hlt : b < w.heap.size := by
          rcases Nat.lt_or_ge b w.heap.size with h' | h'
          · exact h'
          · simp [World.cell?, Array.getElem?_eq_none h'] at hs
        refine ⟨b, o, rfl, hlt, fun j u hj => ?_⟩
        simp only [List.getElem?_map] at hj
        have hjl : j < len * P.cellsOf e := by
          rcases Nat.lt_or_ge j (len * P.cellsOf e) with h' | h'
          · exact h'
          · rw [List.getElem?_eq_none (by simpa using h')] at hj; simp at hj
        rw [List.getElem?_eq_getElem (by simpa using hjl)] at hj
        have hadd : (⟨b, o, none⟩ : Addr).add j = ⟨b, o + j, none⟩ := by unfold Addr.add; split <;> simp_all
        rw [← hadd, hf j hjl]
        simpa using hj
    · intro i hlt
      obtain ⟨cs', hcl, hat, htr⟩ := hcell i hlt
      have : (((List.range (len * P.cellsOf e)).map f).drop (i * P.cellsOf e)).take (P.cellsOf e) = cs' := by
        apply List.ext_getElem?
        intro j
        have hmul : i * P.cellsOf e + P.cellsOf e ≤ len * P.cellsOf e := by
          have := Nat.mul_le_mul_right (P.cellsOf e) (show i + 1 ≤ len by omega)
          rwa [Nat.succ_mul] at this
        by_cases hj : j < P.cellsOf e
        · have h2 := hat j hj
          rw [List.getElem?_take_of_lt hj, List.getElem?_drop, List.getElem?_map, List.getElem?_eq_getElem (by simp; omega)]
          have h3 := hf (i * P.cellsOf e + j) (by omega)
          rw [← h2, h3]; simp
        · rw [List.getElem?_eq_none (by simp; omega), List.getElem?_eq_none (by omega)]
      rw [this]; exact htr

theorem Came.int {k : IntKind} (ht : P.underlying t = some (.int k)) (h : Came P w t v) : ∃ n, v = .int k n ∧ (Lit.int k n).wf = true := by
  obtain ⟨⟨b, ho⟩, h⟩ := h
  obtain ⟨n, rfl⟩ := okWide_int ht ho
  obtain ⟨m, h1, h2⟩ := h.int ht
  simp [Value.cells] at h1
  subst h1
  exact ⟨n, rfl, h2⟩
theorem Came.string (ht : P.underlying t = some .string) (h : Came P w t v) : ∃ s : ByteArray, v = .string s ∧ s.size ≤ maxLen := by
  obtain ⟨⟨b, ho⟩, h⟩ := h
  obtain ⟨n, rfl⟩ := okWide_string ht ho
  obtain ⟨m, h1, h2⟩ := h.string ht
  simp [Value.cells] at h1
  subst h1
  exact ⟨n, rfl, h2⟩
theorem Came.slice (ht : P.underlying t = some (.slice e)) (h : Came P w t v) : ∃ A len cap, v = .slice A len cap ∧ Tr P w t [.slice A len cap] := by
  obtain ⟨⟨b, ho⟩, h⟩ := h
  obtain ⟨a, len, cap, rfl⟩ := okWide_slice ht ho
  exact ⟨a, len, cap, rfl, by simpa [Value.cells] using h⟩
theorem Came.bool (ht : P.underlying t = some .bool) (h : Came P w t v) : ∃ b, v = .bool b := by
  obtain ⟨⟨b, ho⟩, h⟩ := h
  exact okWide_bool ht ho
theorem Came.array {n : Nat} (ht : P.underlying t = some (.array n e)) (h : Came P w t v) : ∃ cs : Array Value, v = .agg cs ∧ Tr P w t cs.toList := by
  obtain ⟨⟨b, ho⟩, h⟩ := h
  have : ∃ cs, v = .agg cs := by
    simp only [Value.okWide, ht] at ho
    obtain ⟨cs, h1, _⟩ := ho
    exact ⟨cs, h1⟩
  obtain ⟨cs, rfl⟩ := this
  exact ⟨cs, rfl, by simpa [Value.cells] using h⟩
theorem Came.struct {fs : Array Field} (ht : P.underlying t = some (.struct fs)) (h : Came P w t v) : ∃ cs : Array Value, v = .agg cs ∧ Tr P w t cs.toList := by
  obtain ⟨⟨b, ho⟩, h⟩ := h
  obtain ⟨cs, rfl, _⟩ := okWide_struct ht ho
  exact ⟨cs, rfl, by simpa [Value.cells] using h⟩
end

end Go.Proofs.Ytkeiafiembfaeaa
