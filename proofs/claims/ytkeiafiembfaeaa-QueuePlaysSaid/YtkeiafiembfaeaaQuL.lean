/- What holds of the packets stays; the queues as a thing. -/
import Derived.Test.YtkeiafiembfaeaaQuK
set_option linter.unusedSimpArgs false
set_option linter.unusedVariables false
namespace Go.Proofs.Ytkeiafiembfaeaa
open Go.RowKit Go.Shelf

section
variable {n most room last : Int} {L : List Pk} {t c : Int} {s : ByteArray} {ti : Int}
theorem QsOk.nil (hn : 1 ≤ n ∧ n ≤ 8) (hm : 1 ≤ most ∧ most ≤ 10000) (hr : 1 ≤ room ∧ room ≤ 1000000) : QsOk n most room 0 [] where
  n1 := hn.1
  n8 := hn.2
  m1 := hm.1
  m2 := hm.2
  r1 := hr.1
  r2 := hr.2
  inR := by simp
  len := fun t c => by simp [qof]; omega
  bytes := fun t c => by simp [qof, qb]; omega
  nos := List.Pairwise.nil
  no1 := by simp
  last0 := by omega
  last2 := by omega
theorem putErr_ok (h : putErr n most room L t c s = 0) : InR n t c ∧ s.size ≠ 0 ∧ s.size ≤ 65519 ∧ ((qof L t c).length : Int) < most ∧ (qb (qof L t c) : Int) + s.size ≤ room := by
  unfold putErr at h
  split at h
  · split at h
    · split at h
      · split at h
        · split at h
          · split at h
            · exact ⟨‹_›, ‹_›, ‹_›, ‹_›, ‹_›⟩
            · simp at h
          · simp at h
        · simp at h
      · simp at h
    · simp at h
  · simp at h
theorem QsOk.put (h : QsOk n most room last L) (he : putErr n most room L t c s = 0) (hl : last + 1 < 9223372036854775808) : QsOk n most room (last + 1) (L ++ [(last + 1, (t, c, s), ti)]) := by
  obtain ⟨hR, _, _, hlen, hby⟩ := putErr_ok he
  exact
  { n1 := h.n1, n8 := h.n8, m1 := h.m1, m2 := h.m2, r1 := h.r1, r2 := h.r2
    inR := fun p hp => by
      rcases List.mem_append.1 hp with hp | hp
      · exact h.inR p hp
      · rw [List.mem_singleton.1 hp]; exact hR
    len := fun t' c' => by
      rw [qof_snoc]
      split
      · rename_i hh; obtain ⟨h1, h2⟩ := hh; subst h1; subst h2; rw [List.length_append]; simp; omega
      · exact h.len t' c'
    bytes := fun t' c' => by
      rw [qof_snoc]
      split
      · rename_i hh; obtain ⟨h1, h2⟩ := hh; subst h1; subst h2; rw [qb_snoc]; simp; omega
      · exact h.bytes t' c'
    nos := List.pairwise_append.2 ⟨h.nos, List.pairwise_singleton _ _, fun p hp q hq => by
      rw [List.mem_singleton.1 hq]
      have := (h.no1 p hp).2
      simp; omega⟩
    no1 := fun p hp => by
      rcases List.mem_append.1 hp with hp | hp
      · have := h.no1 p hp; omega
      · rw [List.mem_singleton.1 hp]; have := h.last0; simp; omega
    last0 := by have := h.last0; omega
    last2 := hl }
theorem qdrop_sub (L : List Pk) (t c : Int) : (qdrop L t c).Sublist L := List.eraseP_sublist
theorem qb_drop (l : List Pk) : qb (l.drop 1) ≤ qb l := by
  cases l with
  | nil => simp [qb]
  | cons p l => simp [qb]
theorem QsOk.take (h : QsOk n most room last L) (t c : Int) : QsOk n most room last (qdrop L t c) := by
  exact
  { n1 := h.n1, n8 := h.n8, m1 := h.m1, m2 := h.m2, r1 := h.r1, r2 := h.r2
    inR := fun p hp => h.inR p ((qdrop_sub L t c).subset hp)
    len := fun t' c' => by
      by_cases hh : t' = t ∧ c' = c
      · obtain ⟨rfl, rfl⟩ := hh; rw [qof_drop_same]; have := h.len t' c'; simp; omega
      · rw [qof_drop_other L hh]; exact h.len t' c'
    bytes := fun t' c' => by
      by_cases hh : t' = t ∧ c' = c
      · obtain ⟨rfl, rfl⟩ := hh; rw [qof_drop_same]; have := h.bytes t' c'; have := qb_drop (qof L t' c'); omega
      · rw [qof_drop_other L hh]; exact h.bytes t' c'
    nos := h.nos.sublist (qdrop_sub L t c)
    no1 := fun p hp => h.no1 p ((qdrop_sub L t c).subset hp)
    last0 := h.last0
    last2 := h.last2 }
theorem qdrop_len (L : List Pk) (t c : Int) : (qdrop L t c).length ≤ L.length := (qdrop_sub L t c).length_le
end

/-! ## Each method, the queues being a thing among others -/
section
variable {w0 w : World} {B b : Nat} {n most room last : Int} {L : List Pk} {Ts : List Thing} {i : Nat} {t c ti : Int} {s : ByteArray}

theorem List.set_eq_of_getElem? {α : Type} {l : List α} {i : Nat} {x : α} (h : l[i]? = some x) : l.set i x = l := by
  apply List.ext_getElem?
  intro j
  rw [List.getElem?_set]
  split
  · rename_i e; subst e; have := (List.getElem?_eq_some_iff.1 h).1; rw [if_pos this, h]
  · rfl
/-- Put: what the list and the number are behind it, and what it tells. -/
def putL (n most room last : Int) (L : List Pk) (t c : Int) (s : ByteArray) (ti : Int) : List Pk := if putErr n most room L t c s = 0 then L ++ [(last + 1, (t, c, s), ti)] else L
def putN (n most room last : Int) (L : List Pk) (t c : Int) (s : ByteArray) : Int := if putErr n most room L t c s = 0 then last + 1 else last
def putV (n most room last : Int) (L : List Pk) (t c : Int) (s : ByteArray) : Value := .tuple #[.int .u64 (if putErr n most room L t c s = 0 then last + 1 else 0), .int .i64 (putErr n most room L t c s)]
theorem sPut (h : Sep B w0 w Ts) (hi : Ts[i]? = some (QsT b n most room last L)) (ok : QsOk n most room last L) (wt : (Lit.int .i64 t).wf = true) (wc : (Lit.int .i64 c).wf = true) (hm : s.size ≤ maxLen) :
    Calls Try.prog 11 #[ptr b, .int .i64 t, .int .i64 c, .string s, .int .u64 ti] w fun e w' => e = .returned (putV n most room last L t c s) ∧ Sep B w0 w' (Ts.set i (QsT b n most room (putN n most room last L t c s) (putL n most room last L t c s ti))) := by
  refine h.call i (R := fun e => e = .returned (putV n most room last L t c s)) hi (QsT.loc _ _ _ _ _ _) fun F hF => ?_
  obtain ⟨mb, f, ob, rb, v, col, hQ⟩ := hF
  refine (put_any hQ ok wt wc hm).mono ?_
  rintro e w' (⟨h0, rfl, hb⟩ | ⟨h0, rfl, ha⟩)
  · unfold putV putN putL
    rw [if_neg h0, if_neg h0, if_neg h0]
    exact ⟨rfl, hQ.stay hb⟩
  · unfold putV putN putL
    rw [if_pos h0, if_pos h0, if_pos h0, h0]
    exact ⟨rfl, ha⟩
theorem okPut (ok : QsOk n most room last L) (hl : last + 1 < 9223372036854775808) : QsOk n most room (putN n most room last L t c s) (putL n most room last L t c s ti) := by
  unfold putN putL
  by_cases h0 : putErr n most room L t c s = 0
  · rw [if_pos h0, if_pos h0]; exact ok.put h0 hl
  · rw [if_neg h0, if_neg h0]; exact ok
theorem putN_le : putN n most room last L t c s ≤ last + 1 := by unfold putN; split <;> omega
theorem putL_len : (putL n most room last L t c s ti).length ≤ L.length + 1 := by unfold putL; split <;> simp

theorem sPut_ok (h : Sep B w0 w Ts) (hi : Ts[i]? = some (QsT b n most room last L)) (ok : QsOk n most room last L) (wt : (Lit.int .i64 t).wf = true) (wc : (Lit.int .i64 c).wf = true) (hm : s.size ≤ maxLen) (h0 : putErr n most room L t c s = 0) :
    Calls Try.prog 11 #[ptr b, .int .i64 t, .int .i64 c, .string s, .int .u64 ti] w fun e w' => e = .returned (.tuple #[.int .u64 (last + 1), .int .i64 0]) ∧ Sep B w0 w' (Ts.set i (QsT b n most room (last + 1) (L ++ [(last + 1, (t, c, s), ti)]))) := by
  have := sPut (ti := ti) h hi ok wt wc hm
  unfold putV putN putL at this
  rwa [if_pos h0, if_pos h0, if_pos h0, h0] at this
theorem sPut_bad {e : Int} (h : Sep B w0 w Ts) (hi : Ts[i]? = some (QsT b n most room last L)) (ok : QsOk n most room last L) (wt : (Lit.int .i64 t).wf = true) (wc : (Lit.int .i64 c).wf = true) (hm : s.size ≤ maxLen) (he : putErr n most room L t c s = e) (h0 : e ≠ 0) :
    Calls Try.prog 11 #[ptr b, .int .i64 t, .int .i64 c, .string s, .int .u64 ti] w fun r w' => r = .returned (.tuple #[.int .u64 0, .int .i64 e]) ∧ Sep B w0 w' Ts := by
  have := sPut (ti := ti) h hi ok wt wc hm
  unfold putV putN putL at this
  rw [he, if_neg h0, if_neg h0, if_neg h0, List.set_eq_of_getElem? hi] at this
  exact this
theorem sTake (h : Sep B w0 w Ts) (hi : Ts[i]? = some (QsT b n most room last L)) (ok : QsOk n most room last L) (wt : (Lit.int .i64 t).wf = true) (wc : (Lit.int .i64 c).wf = true) :
    Calls Try.prog 13 #[ptr b, .int .i64 t, .int .i64 c] w fun e w' => e = .returned (hd (qof L t c)) ∧ Sep B w0 w' (Ts.set i (QsT b n most room last (qdrop L t c))) := by
  refine h.call i (R := fun e => e = .returned (hd (qof L t c))) hi (QsT.loc _ _ _ _ _ _) fun F hF => ?_
  obtain ⟨mb, f, ob, rb, v, col, hQ⟩ := hF
  exact (take_any hQ ok wt wc)
theorem sHead (h : Sep B w0 w Ts) (hi : Ts[i]? = some (QsT b n most room last L)) (ok : QsOk n most room last L) (wt : (Lit.int .i64 t).wf = true) (wc : (Lit.int .i64 c).wf = true) :
    Calls Try.prog 15 #[ptr b, .int .i64 t, .int .i64 c] w fun e w' => e = .returned (hd (qof L t c)) ∧ Sep B w0 w' Ts ∧ Below w.heap.size w w' := by
  obtain ⟨F, mb, f, ob, rb, v, col, hQ⟩ := h.look i hi
  exact (head_any hQ ok wt wc).mono fun e w' ⟨h1, h2⟩ => ⟨h1, h.below h2, h2⟩
theorem sLen (h : Sep B w0 w Ts) (hi : Ts[i]? = some (QsT b n most room last L)) (ok : QsOk n most room last L) (wt : (Lit.int .i64 t).wf = true) (wc : (Lit.int .i64 c).wf = true) :
    Calls Try.prog 17 #[ptr b, .int .i64 t, .int .i64 c] w fun e w' => e = .returned (.tuple #[.int .i64 (qof L t c).length, .int .i64 (qb (qof L t c))]) ∧ Sep B w0 w' Ts ∧ Below w.heap.size w w' := by
  obtain ⟨F, mb, f, ob, rb, v, col, hQ⟩ := h.look i hi
  exact (len_any hQ ok wt wc).mono fun e w' ⟨h1, h2⟩ => ⟨h1, h.below h2, h2⟩
theorem sWaits (h : Sep B w0 w Ts) (hi : Ts[i]? = some (QsT b n most room last L)) (ok : QsOk n most room last L) (hL : L.length < 1000000000) :
    Calls Try.prog 19 #[ptr b] w fun e w' => e = .returned (.int .i64 L.length) ∧ Sep B w0 w' Ts ∧ Below w.heap.size w w' := by
  obtain ⟨F, mb, f, ob, rb, v, col, hQ⟩ := h.look i hi
  exact (waits_any hQ ok hL).mono fun e w' ⟨h1, h2⟩ => ⟨h1, h.below h2, h2⟩
theorem sHeads (h : Sep B w0 w Ts) (hi : Ts[i]? = some (QsT b n most room last L)) (ok : QsOk n most room last L) (hL : L.length < 1000000000) :
    Calls Try.prog 21 #[ptr b] w fun e w' => ∃ x, e = .returned x ∧ OwnsAt w' w.heap.size 37 5 x (heads L).length ((heads L).flatMap pC) ∧ Sep B w0 w' Ts ∧ Below w.heap.size w w' := by
  obtain ⟨F, mb, f, ob, rb, v, col, hQ⟩ := h.look i hi
  exact (heads_any hQ ok hL).mono fun e w' ⟨x, h1, h2, h3⟩ => ⟨x, h1, h2, h.below h3, h3⟩
theorem sNew (n : Nat) (h : Sep B w0 w Ts) (hn : 1 ≤ n ∧ n ≤ 8) (hm : 1 ≤ most ∧ most ≤ 10000) (hr : 1 ≤ room ∧ room ≤ 1000000) :
    Calls Try.prog 8 #[.int .i64 n, .int .i64 most, .int .i64 room] w fun e w' => ∃ b, e = .returned (ptr b) ∧ Sep B w0 w' (Ts ++ [QsT b n most room 0 []]) ∧ Below w.heap.size w w' := by
  refine (new_yes n most room w hn hm hr).mono ?_
  rintro e w' ⟨b, mb, f, ob, rb, v, col, F, rfl, hQ, hb, hF⟩
  exact ⟨b, rfl, h.new (QsT.loc _ _ _ _ _ _) (F' := F) ⟨mb, f, ob, rb, v, col, hQ⟩ hF hb, hb⟩
end

end Go.Proofs.Ytkeiafiembfaeaa
