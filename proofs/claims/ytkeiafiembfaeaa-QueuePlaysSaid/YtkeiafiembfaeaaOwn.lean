/- Slices of one's own that may begin anywhere in their block: kept, cut at the head, appended to. Plain theorems, any program. -/
import Derived.Test.YtkeiafiembfaeaaMem
import Derived.ArgAppend
import Derived.Laws.OwnMore
set_option linter.unusedSimpArgs false
set_option linter.unusedVariables false
namespace Go.Proofs.Ytkeiafiembfaeaa
open Go.RowKit

/-- The slice v of n elements, of type e and size cells each, holds the cells xs; its block, from base on, is known whole. -/
def OwnsAt (w : World) (base : Nat) (e : TypeId) (size : Nat) (v : Value) (n : Nat) (xs : List Value) : Prop :=
  xs.length = n * size ∧ ((v = .slice none 0 0 ∧ n = 0) ∨ ∃ g off cap cur, v = .slice (some ⟨g, off, none⟩) n cap ∧ base ≤ g ∧ Blk w g e cur ∧ n ≤ cap ∧ cap ≤ maxLen ∧ off + cap * size ≤ cur.size ∧ ∀ j u, xs[j]? = some u → cur[off + j]? = some u)

section
variable {w w' : World} {base : Nat} {e : TypeId} {size : Nat} {v : Value} {n : Nat} {xs : List Value}

theorem OwnsAt.nil (w : World) (base : Nat) (e : TypeId) (size : Nat) : OwnsAt w base e size (.slice none 0 0) 0 [] := ⟨by simp, .inl ⟨rfl, rfl⟩⟩
theorem OwnsAt.len (h : OwnsAt w base e size v n xs) : ∃ A cap, v = .slice A n cap ∧ n ≤ cap := by
  obtain ⟨_, ⟨rfl, rfl⟩ | ⟨g, off, cap, cur, rfl, _, _, hn, _⟩⟩ := h
  · exact ⟨_, _, rfl, Nat.le_refl _⟩
  · exact ⟨_, _, rfl, hn⟩
theorem OwnsAt.lt (h : OwnsAt w base e size v n xs) : ∀ k, v.ownBlock = some k → base ≤ k ∧ k < w.heap.size := by
  intro k hk
  obtain ⟨_, ⟨rfl, rfl⟩ | ⟨g, off, cap, cur, rfl, hb, hB, _⟩⟩ := h
  · cases hk
  · simp [Value.ownBlock] at hk; subst hk; exact ⟨hb, hB.lt⟩
/-- As long as its block stays. -/
theorem OwnsAt.keep (h : OwnsAt w base e size v n xs) (hk : ∀ k, v.ownBlock = some k → w'.heap[k]? = w.heap[k]?) : OwnsAt w' base e size v n xs := by
  obtain ⟨hl, h⟩ := h
  refine ⟨hl, ?_⟩
  rcases h with h | ⟨g, off, cap, cur, rfl, hb, hB, h⟩
  · exact .inl h
  · exact .inr ⟨g, off, cap, cur, rfl, hb, (hk g rfl).trans hB, h⟩
theorem OwnsAt.but {S : Nat → Prop} {B : Nat} (h : OwnsAt w base e size v n xs) (hb : But S B w w') (hlt : ∀ k, v.ownBlock = some k → k < B ∧ ¬ S k) : OwnsAt w' base e size v n xs :=
  h.keep fun k hk => hb.block k (hlt k hk).1 (hlt k hk).2
theorem OwnsAt.below (h : OwnsAt w base e size v n xs) (hb : Below w.heap.size w w') : OwnsAt w' base e size v n xs := h.keep fun k hk => hb.block k (h.lt k hk).2
theorem OwnsAt.of_row (h : w.ownsRow base e size v n xs) : OwnsAt w base e size v n xs := by
  obtain ⟨hl, h⟩ := h
  refine ⟨hl, ?_⟩
  rcases h with ⟨h1, h2⟩ | ⟨g, cap, cur, rfl, hb, hg, hn, hc, hs, ht⟩
  · exact .inl ⟨h1, h2⟩
  · refine .inr ⟨g, 0, cap, cur, rfl, hb, hg, hn, hc, by omega, fun j u hj => ?_⟩
    rw [Nat.zero_add, ← hj, ← ht, List.getElem?_take, Array.getElem?_toList]
    have : j < xs.length := (List.getElem?_eq_some_iff.1 hj).1
    rw [if_pos (by omega)]
theorem OwnsAt.cell {g off cap : Nat} (h : OwnsAt w base e size (.slice (some ⟨g, off, none⟩) n cap) n xs) (j : Nat) (u : Value) (hj : xs[j]? = some u) : w.cell? ⟨g, off + j, none⟩ = some u := by
  obtain ⟨hl, ⟨h, _⟩ | ⟨g', off', cap', cur, h, _, hB, _, _, _, hx⟩⟩ := h
  · cases h
  · cases h
    rw [hB.cell]; exact hx j u hj
/-- What is left of a slice behind its first element: at its own place, if it has no room, or at the next. -/
def tailV (g off n cap size : Nat) : Value := if cap = 0 then .slice (some ⟨g, off, none⟩) n cap else .slice (some ⟨g, off + size, none⟩) n cap
theorem tailV_own (g off n cap size : Nat) : (tailV g off n cap size).ownBlock = some g := by unfold tailV; split <;> rfl
theorem tailV_slice (g off n cap size : Nat) : ∃ A, tailV g off n cap size = .slice A n cap := by unfold tailV; split <;> exact ⟨_, rfl⟩
/-- Cut at the head: behind it, at its own place, or at the next. -/
theorem OwnsAt.tail (h : OwnsAt w base e size v (n + 1) xs) : ∃ g off cap, v = .slice (some ⟨g, off, none⟩) (n + 1) (cap + 1) ∧
    OwnsAt w base e size (tailV g off n cap size) n (xs.drop size) := by
  obtain ⟨hl, ⟨_, h⟩ | ⟨g, off, cap, cur, rfl, hb, hB, hn, hm, hs, hx⟩⟩ := h
  · omega
  · obtain ⟨c, rfl⟩ : ∃ c, cap = c + 1 := ⟨cap - 1, by omega⟩
    refine ⟨g, off, c, rfl, by rw [List.length_drop, hl, Nat.add_mul]; omega, .inr ?_⟩
    unfold tailV
    rw [Nat.add_mul] at hs
    by_cases hc : c = 0
    · subst hc
      obtain rfl : n = 0 := by omega
      rw [if_pos rfl]
      exact ⟨g, off, 0, cur, rfl, hb, hB, by omega, by omega, by omega, fun j u hj => by rw [List.getElem?_drop, List.getElem?_eq_none (by omega)] at hj; cases hj⟩
    · rw [if_neg hc]
      refine ⟨g, off + size, c, cur, rfl, hb, hB, by omega, by omega, by omega, fun j u hj => ?_⟩
      rw [List.getElem?_drop] at hj
      have := hx _ _ hj
      rwa [← Nat.add_assoc] at this
end

section
variable {P : Program} {w : World}
/-- x[1:]. -/
theorem wp_tail {o : Oper} {a : Act} {K : Act → World → Prop} {Q : Exit → Act → World → Prop} {g off n cap size : Nat}
    (t e : TypeId) (x lo : Operand) (ho : o.op = Op.slice t x (some lo) none none) (hlo : a.eval lo = .int .i64 1) (hx : a.eval x = .slice (some ⟨g, off, none⟩) (n + 1) (cap + 1)) (hnc : n ≤ cap)
    (ht : P.underlying t = some (.slice e)) (hs : (P.info? e).map (·.size) = some size) (h : K (a.put o.dst (tailV g off n cap size)) w) : o.wp P a w K Q := by
  have he : P.elem t = e := by simp [Program.elem, ht]
  have ht' : P.underlying t = some (.slice (P.elem t)) := by rw [he]; exact ht
  have hsz : (sizeOf e).run P w = .ok size w := by
    cases hq : P.info? e with
    | none => simp [hq] at hs
    | some i => simp [hq] at hs; simp [sizeOf, typeInfo, hq, hs]
  have hrun : (Instr.sliceAt t (.slice (some ⟨g, off, none⟩) (n + 1) (cap + 1)) (some (.int .i64 1)) none none).run P w = .ok (tailV g off n cap size) w := by
    rw [run_sliceAt_slice w t _ _ _ _ ht', run_slice_l w t _ _ _ ht' .i64 1 (by omega) (by omega), he, hsz]
    simp only [Result.andThen, sliced, tailV]
    congr 1
    by_cases hc : cap = 0
    · subst hc; simp
    · have h1 : ¬ cap + 1 = 1 := by omega
      simp [h1, hc, Addr.add]
  unfold Oper.wp
  simp [execOp, ho, hx, hlo, hrun, Result.andThen]
  exact h
/-- One element more. -/
theorem run_append_at (t ty : TypeId)
    (base : Nat) (e : TypeId) (i : TypeInfo) (z : Value) (size bytes : Nat) (h1 : P.underlying t = some (.slice e)) (h2 : P.info? e = some i) (h3 : i.zero = some z) (h4 : i.size = size) (h5 : i.bytes = bytes) (h6 : z.cells.size = size) (h7 : 0 < size)
    (v : Value) (n : Nat) (xs : List Value) (hown : OwnsAt w base e size v n xs)
    (ad : Addr) (c : Nat) (news : List Value) (hn : news.length = 1 * size) (hc : ∀ j u, news[j]? = some u → w.cell? (ad.add j) = some u) (h1c : ∀ u ∈ news, u.oneCell' = true)
    (hbase : base ≤ w.heap.size) (b1 : n + 1 ≤ maxLen) (b2 : (n + 1) * bytes ≤ 140737488355328) :
    ∃ v' w', (Builtin.append_ #[t, t] ty #[v, .slice (some ad) 1 c]).run P w = .ok v' w' ∧ OwnsAt w' base e size v' (n + 1) (xs ++ news) ∧ w.grownBy w' v.ownBlock ∧ (v'.ownBlock = v.ownBlock ∨ ∃ g, v'.ownBlock = some g ∧ w.heap.size ≤ g) := by
  have grow : ∀ v' w', (Builtin.append_ #[t, t] ty #[v, .slice (some ad) 1 c]).run P w = .ok v' w' → w'.ownsRow w.heap.size e size v' (n + 1) (xs ++ news) → w.grownBy w' none →
      ∃ v' w', (Builtin.append_ #[t, t] ty #[v, .slice (some ad) 1 c]).run P w = .ok v' w' ∧ OwnsAt w' base e size v' (n + 1) (xs ++ news) ∧ w.grownBy w' v.ownBlock ∧ (v'.ownBlock = v.ownBlock ∨ ∃ g, v'.ownBlock = some g ∧ w.heap.size ≤ g) := by
    intro v' w' hrun ho hgr
    have hne : ∃ g cap, v' = .slice (some ⟨g, 0, none⟩) (n + 1) cap ∧ w.heap.size ≤ g := by
      rcases ho.2 with ⟨_, h0⟩ | ⟨g, cap, cur, rfl, hb, _⟩
      · omega
      · exact ⟨g, cap, rfl, hb⟩
    obtain ⟨g, cap, rfl, hb⟩ := hne
    refine ⟨_, w', hrun, ?_, ⟨hgr.os, hgr.tape, hgr.output, hgr.size, fun k hk _ => hgr.block k hk (by simp)⟩, .inr ⟨g, rfl, hb⟩⟩
    obtain ⟨hl, hh⟩ := OwnsAt.of_row ho
    refine ⟨hl, hh.imp id ?_⟩
    rintro ⟨g', off, cap', cur, he, hb', rest⟩
    exact ⟨g', off, cap', cur, he, by omega, rest⟩
  obtain ⟨hl, ⟨rfl, rfl⟩ | ⟨g, off, cap, cur, rfl, hb, hB, hnc, hm, hsz, hcur⟩⟩ := hown
  · have hx0 : xs = [] := List.eq_nil_of_length_eq_zero (by simpa using hl)
    subst hx0
    obtain ⟨v', w', hrun, r1, r2, _⟩ := run_append_own (P := P) w w.heap.size t ty e i z size bytes h1 h2 h3 h4 h5 h6 h7 (.slice none 0 0) 0 [] (World.ownsRow_nil w _ e size) ad 1 c news hn hc h1c (by omega) b2 (Nat.le_refl _)
    exact grow v' w' hrun r1 r2
  · by_cases hroom : n + 1 ≤ cap
    · have hmul : (n + 1) * size ≤ cap * size := Nat.mul_le_mul_right _ hroom
      rw [Nat.add_mul, Nat.one_mul] at hmul
      have hnl : news.length = size := by omega
      -- the block behind the store
      have key : ∀ (vs : List Value) (o' : Nat) (W : World) (cs : Array Value), Blk W g e cs → o' + vs.length ≤ cs.size →
          ∃ cs', Blk (W.setCells g o' vs) g e cs' ∧ cs'.size = cs.size ∧ (∀ j, j < o' ∨ o' + vs.length ≤ j → cs'[j]? = cs[j]?) ∧ ∀ j u, vs[j]? = some u → cs'[o' + j]? = some u := by
        intro vs
        induction vs with
        | nil => exact fun o' W cs hW _ => ⟨cs, hW, rfl, fun _ _ => rfl, fun j u hj => by simp at hj⟩
        | cons u vs ih =>
          intro o' W cs hW hlen
          simp only [List.length_cons] at hlen
          obtain ⟨cs', k1, k2, k3, k4⟩ := ih (o' + 1) _ _ (hW.set_ o' u) (by simp; omega)
          refine ⟨cs', k1, by rw [k2]; simp, fun j hj => ?_, fun j x hj => ?_⟩
          · simp only [List.length_cons] at hj
            rw [k3 j (by omega), Array.getElem?_setIfInBounds, if_neg (by omega)]
          · cases j with
            | zero =>
              simp at hj; subst hj
              rw [Nat.add_zero, k3 o' (by omega), Array.getElem?_setIfInBounds, if_pos rfl, if_pos (by omega)]
            | succ j =>
              have := k4 j x (by simpa using hj)
              rwa [show o' + (j + 1) = o' + 1 + j by omega]
      obtain ⟨cs', k1, k2, k3, k4⟩ := key news (off + n * size) w cur hB (by omega)
      have hgb : ∀ (vs : List Value) (o' : Nat) (W : World), W.grownBy (W.setCells g o' vs) (some g) := by
        intro vs
        induction vs with
        | nil => exact fun o' W => ⟨rfl, rfl, rfl, Nat.le_refl _, fun _ _ _ => rfl⟩
        | cons u vs ih =>
          intro o' W
          have h' := ih (o' + 1) (W.setCell ⟨g, o', none⟩ u)
          exact ⟨h'.os, h'.tape, h'.output, Nat.le_trans (by simp [World.setCell]) h'.size, fun k hk hne => (h'.block k (by simpa [World.setCell] using hk) hne).trans (Below.heap_setCell _ _ _ _ (by rintro rfl; exact hne rfl))⟩
      have hrun := run_append_room_cells (P := P) w t ty e i h1 h2 g off n cap ad 1 c news (by rw [h4]; exact hn) hc h1c hroom
        (fun j hj => by rw [h4, hB.cell, Array.getElem?_eq_getElem (by omega)]; rfl) (fun j hj => hB.frozen _)
      rw [h4] at hrun
      refine ⟨_, _, hrun, ⟨by rw [List.length_append, hl, hn, Nat.add_mul], .inr ⟨g, off, cap, cs', rfl, hb, k1, hroom, hm, by rw [k2]; exact hsz, fun j u hj => ?_⟩⟩, hgb _ _ _, .inl rfl⟩
      by_cases hj1 : j < xs.length
      · rw [List.getElem?_append_left hj1] at hj
        rw [k3 _ (.inl (by omega))]
        exact hcur j u hj
      · rw [List.getElem?_append_right (by omega)] at hj
        have := k4 _ u hj
        rwa [show off + n * size + (j - xs.length) = off + j by omega] at this
    · obtain ⟨v', w', hrun, r1, r2⟩ := run_append_arg_grows (P := P) w t ty e i z size bytes h1 h2 h3 h4 h5 h6 h7 ⟨g, off, none⟩ n cap xs hl (fun j u hj => by rw [Addr.add_lit, hB.cell]; exact hcur j u hj) ad 1 c news hn hc (by omega) b1 b2
      exact grow v' w' hrun r1 r2

theorem wp_append_at {o : Oper} {a : Act} {K : Act → World → Prop} {Q : Exit → Act → World → Prop}
    (s x : Operand) (t : TypeId) (hop : o.op = Op.call { callee := Callee.builtin Builtin.append, args := #[s, x], argTypes := #[t, t] })
    (base : Nat) (e : TypeId) (i : TypeInfo) (z : Value) (size bytes : Nat) (h1 : P.underlying t = some (.slice e)) (h2 : P.info? e = some i) (h3 : i.zero = some z) (h4 : i.size = size) (h5 : i.bytes = bytes) (h6 : z.cells.size = size) (h7 : 0 < size)
    (v : Value) (n : Nat) (xs : List Value) (hs : a.eval s = v) (hown : OwnsAt w base e size v n xs)
    (ad : Addr) (c : Nat) (news : List Value) (hx : a.eval x = .slice (some ad) 1 c) (hn : news.length = 1 * size) (hc : ∀ j u, news[j]? = some u → w.cell? (ad.add j) = some u) (h1c : ∀ u ∈ news, u.oneCell' = true)
    (hbase : base ≤ w.heap.size) (b1 : n + 1 ≤ maxLen) (b2 : (n + 1) * bytes ≤ 140737488355328)
    (h : ∀ v' w', OwnsAt w' base e size v' (n + 1) (xs ++ news) → w.grownBy w' v.ownBlock → (v'.ownBlock = v.ownBlock ∨ ∃ g, v'.ownBlock = some g ∧ w.heap.size ≤ g) → K (a.put o.dst v') w') :
    o.wp P a w K Q := by
  obtain ⟨v', w', hrun, r1, r2, r3⟩ := run_append_at (P := P) (w := w) t o.type base e i z size bytes h1 h2 h3 h4 h5 h6 h7 v n xs hown ad c news hn hc h1c hbase b1 b2
  unfold Oper.wp
  simp [execOp, hop, resolve, invoke, builtin, hs, hx, hrun, Result.andThen]
  exact h v' w' r1 r2 r3
theorem wpList_append_at {ops : Array Oper} {rest : List Oper} {o : Oper} {a : Act} {Q : Exit → Act → World → Prop}
    (hg : o.guard = none) (s x : Operand) (t : TypeId) (hop : o.op = Op.call { callee := Callee.builtin Builtin.append, args := #[s, x], argTypes := #[t, t] })
    (base : Nat) (e : TypeId) (i : TypeInfo) (z : Value) (size bytes : Nat) (h1 : P.underlying t = some (.slice e)) (h2 : P.info? e = some i) (h3 : i.zero = some z) (h4 : i.size = size) (h5 : i.bytes = bytes) (h6 : z.cells.size = size) (h7 : 0 < size)
    (v : Value) (n : Nat) (xs : List Value) (hs : a.eval s = v) (hown : OwnsAt w base e size v n xs)
    (ad : Addr) (c : Nat) (news : List Value) (hx : a.eval x = .slice (some ad) 1 c) (hn : news.length = 1 * size) (hc : ∀ j u, news[j]? = some u → w.cell? (ad.add j) = some u) (h1c : ∀ u ∈ news, u.oneCell' = true)
    (hbase : base ≤ w.heap.size) (b1 : n + 1 ≤ maxLen) (b2 : (n + 1) * bytes ≤ 140737488355328)
    (h : ∀ v' w', OwnsAt w' base e size v' (n + 1) (xs ++ news) → w.grownBy w' v.ownBlock → (v'.ownBlock = v.ownBlock ∨ ∃ g, v'.ownBlock = some g ∧ w.heap.size ≤ g) → wpList P ops Q rest (a.put o.dst v') w') :
    wpList P ops Q (o :: rest) a w :=
  wpList_plain hg fun K hK => wp_append_at s x t hop base e i z size bytes h1 h2 h3 h4 h5 h6 h7 v n xs hs hown ad c news hx hn hc h1c hbase b1 b2 fun v' w' r1 r2 r3 => hK _ _ (h v' w' r1 r2 r3)
end

end Go.Proofs.Ytkeiafiembfaeaa
