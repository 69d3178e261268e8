/- Slices that can be read: of arguments, of one's own. Plain theorems, any program. -/
import Derived.Test.YtkeiafiembfaeaaOwn
import Derived.Test.YtkeiafiembfaeaaOpen
import Derived.WideShapes
import Derived.Lib.Strings
import Derived.OwnWalk
import Derived.Deep.AppendSrc
set_option linter.unusedSimpArgs false
set_option linter.unusedVariables false
namespace Go.Proofs.Ytkeiafiembfaeaa
open Go.RowKit

/-- Strings compared. -/
theorem str_beq (x s : ByteArray) : (x.toList == s.toList) = decide (x = s) := by
  rw [ByteArray.toList_eq, ByteArray.toList_eq, Bool.eq_iff_iff, beq_iff_eq, decide_eq_true_iff]
  exact ⟨fun h => WideShapes.bytes_inj h, fun h => by rw [h]⟩
theorem str_beq_true {x s : ByteArray} (h : x = s) : (x.toList == s.toList) = true := by rw [str_beq, decide_eq_true h]
theorem str_beq_false {x s : ByteArray} (h : ¬ x = s) : (x.toList == s.toList) = false := by rw [str_beq, decide_eq_false h]

/-- The slice v of n elements, of size cells each, reads as xs. -/
def SlAt (w : World) (size : Nat) (v : Value) (n : Nat) (xs : List Value) : Prop :=
  xs.length = n * size ∧ ∃ A cap, v = .slice A n cap ∧ n ≤ cap ∧ cap ≤ maxLen ∧ (n = 0 ∨ ∃ b o, A = some ⟨b, o, none⟩ ∧ b < w.heap.size ∧ ∀ j u, xs[j]? = some u → w.cell? ⟨b, o + j, none⟩ = some u)

section
variable {w w' : World} {base B size n : Nat} {e : TypeId} {v : Value} {xs : List Value}
theorem SlAt.nil (w : World) (size : Nat) : SlAt w size (.slice none 0 0) 0 [] := ⟨by simp, none, 0, rfl, Nat.le_refl _, Nat.zero_le _, .inl rfl⟩
theorem SlAt.len (h : SlAt w size v n xs) : ∃ A cap, v = .slice A n cap ∧ n ≤ cap ∧ cap ≤ maxLen := by
  obtain ⟨_, A, cap, rfl, hc, hm, _⟩ := h
  exact ⟨A, cap, rfl, hc, hm⟩
theorem OwnsAt.sl (h : OwnsAt w base e size v n xs) : SlAt w size v n xs := by
  obtain ⟨hl, ⟨rfl, rfl⟩ | ⟨g, off, cap, cur, rfl, _, hB, hn, hm, _, hx⟩⟩ := h
  · exact ⟨hl, none, 0, rfl, Nat.le_refl _, Nat.zero_le _, .inl rfl⟩
  · exact ⟨hl, _, cap, rfl, hn, hm, .inr ⟨g, off, rfl, hB.lt, fun j u hj => by rw [hB.cell]; exact hx j u hj⟩⟩
theorem SlAt.keep (h : SlAt w size v n xs) (hk : ∀ cap b o, v = .slice (some ⟨b, o, none⟩) n cap → b < w.heap.size → w'.heap[b]? = w.heap[b]?) (hs : w.heap.size ≤ w'.heap.size) : SlAt w' size v n xs := by
  obtain ⟨hl, A, cap, rfl, hc, hm, h⟩ := h
  refine ⟨hl, A, cap, rfl, hc, hm, h.imp id ?_⟩
  rintro ⟨b, o, rfl, hb, hx⟩
  exact ⟨b, o, rfl, by omega, fun j u hj => (World.cell?_of_block (hk cap b o rfl hb)).trans (hx j u hj)⟩
theorem SlAt.below (h : SlAt w size v n xs) (hb : Below w.heap.size w w') : SlAt w' size v n xs := h.keep (fun _ b _ _ hlt => hb.block b hlt) hb.size
theorem SlAt.cell {b o cap : Nat} (h : SlAt w size (.slice (some ⟨b, o, none⟩) n cap) n xs) {j : Nat} {u : Value} (hj : xs[j]? = some u) : w.cell? ⟨b, o + j, none⟩ = some u := by
  obtain ⟨hl, A, cap', he, hc, hm, h⟩ := h
  cases he
  rcases h with rfl | ⟨b', o', he, hb, hx⟩
  · have := (List.getElem?_eq_some_iff.1 hj).1; omega
  · cases he; exact hx j u hj
theorem SlAt.some (h : SlAt w size v n xs) (hn : 0 < n) : ∃ b o cap, v = .slice (some ⟨b, o, none⟩) n cap ∧ b < w.heap.size ∧ n ≤ cap ∧ cap ≤ maxLen ∧ ∀ j u, xs[j]? = some u → w.cell? ⟨b, o + j, none⟩ = some u := by
  obtain ⟨hl, A, cap, rfl, hc, hm, h⟩ := h
  rcases h with h | ⟨b, o, rfl, hb, hx⟩
  · omega
  · exact ⟨b, o, cap, rfl, hb, hc, hm, hx⟩
/-- Cut to its first k elements. -/
theorem SlAt.take (h : SlAt w size v n xs) (k : Nat) (hk : k ≤ n) : ∃ A cap, v = .slice A n cap ∧ SlAt w size (.slice A k cap) k (xs.take (k * size)) := by
  obtain ⟨hl, A, cap, rfl, hc, hm, h⟩ := h
  refine ⟨A, cap, rfl, by rw [List.length_take, hl, Nat.min_eq_left (Nat.mul_le_mul_right _ hk)], A, cap, rfl, by omega, hm, ?_⟩
  rcases h with h | ⟨b, o, hA, hb, hx⟩
  · left; omega
  · exact .inr ⟨b, o, hA, hb, fun j u hj => hx j u (by
      rw [List.getElem?_take] at hj; split at hj
      · exact hj
      · cases hj)⟩
end

theorem sliced_slice (A : Option Addr) (l h m s : Nat) : ∃ A', sliced A l h m s = .slice A' (h - l) (m - l) := ⟨_, rfl⟩
theorem OwnsAt.drop {w : World} {base size n cap : Nat} {e : TypeId} {A : Option Addr} {xs : List Value} (h : OwnsAt w base e size (.slice A n cap) n xs) (k : Nat) (hk : k ≤ n) : OwnsAt w base e size (sliced A k n cap size) (n - k) (xs.drop (k * size)) := by
  obtain ⟨hl, h⟩ := h
  refine ⟨by rw [List.length_drop, hl, Nat.sub_mul], ?_⟩
  rcases h with ⟨h1, rfl⟩ | ⟨g, off, cap', cur, h1, hb, hB, hn, hm, hs, hx⟩
  · cases h1
    obtain rfl : k = 0 := by omega
    left; simp [sliced]
  · cases h1
    right
    by_cases hc : cap = k
    · subst hc
      refine ⟨g, off, 0, cur, by simp [sliced], hb, hB, by omega, by omega, by omega, fun j u hj => ?_⟩
      rw [List.getElem?_drop, List.getElem?_eq_none (by rw [hl]; have : n = cap := by omega
                                                        subst this; omega)] at hj
      cases hj
    · refine ⟨g, off + k * size, cap - k, cur, by simp [sliced, hc, Addr.add], hb, hB, by omega, by omega, ?_, fun j u hj => ?_⟩
      · have : (cap - k) * size + k * size = cap * size := by rw [← Nat.add_mul, Nat.sub_add_cancel (by omega)]
        omega
      · rw [List.getElem?_drop] at hj
        have := hx _ _ hj
        rwa [← Nat.add_assoc] at this
theorem SlAt.drop {w : World} {size n cap : Nat} {A : Option Addr} {xs : List Value} (h : SlAt w size (.slice A n cap) n xs) (k : Nat) (hk : k ≤ n) : SlAt w size (sliced A k n cap size) (n - k) (xs.drop (k * size)) := by
  obtain ⟨hl, A', cap', he, hc, hm, h⟩ := h
  cases he
  refine ⟨by rw [List.length_drop, hl, Nat.sub_mul], _, _, rfl, by omega, by omega, ?_⟩
  by_cases hnk : n = k
  · left; omega
  · right
    rcases h with h | ⟨b, o, rfl, hb, hx⟩
    · omega
    · refine ⟨b, o + k * size, by rw [if_neg (by omega)]; simp [Addr.add], hb, fun j u hj => ?_⟩
      rw [List.getElem?_drop] at hj
      have := hx _ _ hj
      rwa [← Nat.add_assoc] at this

section
variable {P : Program} {w : World}
/-- x[lo:]. -/
theorem wp_drop {o : Oper} {a : Act} {K : Act → World → Prop} {Q : Exit → Act → World → Prop} {A : Option Addr} {n cap size : Nat}
    (t e : TypeId) (x lo : Operand) (ho : o.op = Op.slice t x (some lo) none none) (k : Nat) (hlo : a.eval lo = .int .i64 (k : Nat)) (hx : a.eval x = .slice A n cap) (hk : k ≤ n)
    (ht : P.underlying t = some (.slice e)) (hs : (P.info? e).map (·.size) = some size) (h : K (a.put o.dst (sliced A k n cap size)) w) : o.wp P a w K Q := by
  have he : P.elem t = e := by simp [Program.elem, ht]
  have ht' : P.underlying t = some (.slice (P.elem t)) := by rw [he]; exact ht
  have hsz : (sizeOf e).run P w = .ok size w := by
    cases hq : P.info? e with
    | none => simp [hq] at hs
    | some i => simp [hq] at hs; simp [sizeOf, typeInfo, hq, hs]
  have hrun : (Instr.sliceAt t (.slice A n cap) (some (.int .i64 (k : Nat))) none none).run P w = .ok (sliced A k n cap size) w := by
    rw [run_sliceAt_slice w t _ _ _ _ ht', run_slice_l w t _ _ _ ht' .i64 k (by omega) (by omega), he, hsz]
    simp only [Result.andThen, Int.toNat_natCast]
  unfold Oper.wp
  simp [execOp, ho, hx, hlo, hrun, Result.andThen]
  exact h
theorem wpList_drop {ops : Array Oper} {rest : List Oper} {o : Oper} {a : Act} {Q : Exit → Act → World → Prop} {A : Option Addr} {n cap size : Nat} (hg : o.guard = none)
    (t e : TypeId) (x lo : Operand) (ho : o.op = Op.slice t x (some lo) none none) (k : Nat) (hlo : a.eval lo = .int .i64 (k : Nat)) (hx : a.eval x = .slice A n cap) (hk : k ≤ n)
    (ht : P.underlying t = some (.slice e)) (hs : (P.info? e).map (·.size) = some size) (h : wpList P ops Q rest (a.put o.dst (sliced A k n cap size)) w) : wpList P ops Q (o :: rest) a w :=
  wpList_plain hg fun K hK => wp_drop t e x lo ho k hlo hx hk ht hs (hK _ _ h)
end

/-- A new block of one cell, some time later. -/
theorem one_cell {W w2 : World} {x : Value} {e : TypeId} {g B : Nat} {S : Nat → Prop} (hg : W.heap.size = g) (hb : But S B (W.alloc (.cells #[x] e)) w2) (hB : g < B) (hs : ¬ S g) :
    ∀ (j : Nat) (u : Value), [x][j]? = some u → w2.cell? ((⟨g, 0, none⟩ : Addr).add j) = some u := by
  subst hg
  intro j u hj
  match j, hj with
  | 0, hj =>
    simp at hj
    subst hj
    exact (hb.cell (p := ⟨W.heap.size, 0, none⟩) hB hs).trans ((Blk.new W e #[x]).cell 0)

/-- An element more, laid just now. -/
theorem wp_append_new {P : Program} {W w : World} {o : Oper} {a : Act} {K : Act → World → Prop} {Q : Exit → Act → World → Prop}
    (s x : Operand) (t : TypeId) (hop : o.op = Op.call { callee := Callee.builtin Builtin.append, args := #[s, x], argTypes := #[t, t] })
    (base : Nat) (e : TypeId) (z : Value) (size bytes : Nat) (hin : (P.info? e).map (fun i => (i.zero, i.size, i.bytes)) = some (some z, size, bytes)) (h1 : P.underlying t = some (.slice e)) (h6 : z.cells.size = size) (h7 : 0 < size) (h8 : bytes ≤ 100000)
    (v : Value) (n : Nat) (xs : List Value) (hs : a.eval s = v) (hown : OwnsAt W base e size v n xs)
    (cs : Array Value) (hw : w = W.alloc (.cells cs e)) (g : Nat) (hgs : W.heap.size = g) (hx : a.eval x = .slice (some ⟨g, 0, none⟩) 1 1) (hcs : cs.size = size) (h1c : cs.toList.all Value.oneCell' = true) (hbase : base ≤ W.heap.size) (hn : n ≤ 1000000)
    (h : ∀ v' w', OwnsAt w' base e size v' (n + 1) (xs ++ cs.toList) → W.grownBy w' v.ownBlock → (v'.ownBlock = v.ownBlock ∨ ∃ g, v'.ownBlock = some g ∧ W.heap.size ≤ g) → K (a.put o.dst v') w') :
    o.wp P a w K Q := by
  subst hw
  subst hgs
  obtain ⟨i0, hi, hz0, hz1, hz2⟩ := info_parts hin
  have hb : Below W.heap.size W (W.alloc (.cells cs e)) := (Below.refl _ _).alloc (Nat.le_refl _) _
  refine wp_append_at s x t hop base e i0 z size bytes h1 hi hz0 hz1 hz2 h6 h7 v n xs hs (hown.below hb) ⟨W.heap.size, 0, none⟩ 1 cs.toList hx (by simp [hcs]) (fun j u hj => ?_) (fun u hu => List.all_eq_true.1 h1c u hu) (by simp; omega)
    (by unfold maxLen; omega) (Nat.le_trans (Nat.mul_le_mul (Nat.succ_le_succ hn) h8) (by decide)) fun v' w' r1 r2 r3 => h v' w' r1 ?_ (r3.imp id (fun ⟨g, hg, hl⟩ => ⟨g, hg, by simp at hl; omega⟩))
  · rw [Addr.add_lit, Nat.zero_add, (Blk.new W e cs).cell, ← Array.getElem?_toList]; exact hj
  · exact ⟨r2.os.trans hb.os, r2.tape.trans hb.tape, r2.output.trans hb.output, Nat.le_trans hb.size r2.size, fun k hk hne => (r2.block k (by simp; omega) hne).trans (hb.block k hk)⟩
theorem wpList_append_new {P : Program} {W : World} {ops : Array Oper} {rest : List Oper} {o : Oper} {a : Act} {Q : Exit → Act → World → Prop}
    (hg : o.guard = none) (s x : Operand) (t : TypeId) (hop : o.op = Op.call { callee := Callee.builtin Builtin.append, args := #[s, x], argTypes := #[t, t] })
    (base : Nat) (e : TypeId) (z : Value) (size bytes : Nat) (hin : (P.info? e).map (fun i => (i.zero, i.size, i.bytes)) = some (some z, size, bytes)) (h1 : P.underlying t = some (.slice e)) (h6 : z.cells.size = size) (h7 : 0 < size) (h8 : bytes ≤ 100000)
    (v : Value) (n : Nat) (xs : List Value) (hs : a.eval s = v) (hown : OwnsAt W base e size v n xs)
    (cs : Array Value) (g : Nat) (hgs : W.heap.size = g) (hx : a.eval x = .slice (some ⟨g, 0, none⟩) 1 1) (hcs : cs.size = size) (h1c : cs.toList.all Value.oneCell' = true) (hbase : base ≤ W.heap.size) (hn : n ≤ 1000000)
    (h : ∀ v' w', OwnsAt w' base e size v' (n + 1) (xs ++ cs.toList) → W.grownBy w' v.ownBlock → (v'.ownBlock = v.ownBlock ∨ ∃ g, v'.ownBlock = some g ∧ W.heap.size ≤ g) → wpList P ops Q rest (a.put o.dst v') w') :
    wpList P ops Q (o :: rest) a (W.alloc (.cells cs e)) :=
  wpList_plain hg fun K hK => wp_append_new s x t hop base e z size bytes hin h1 h6 h7 h8 v n xs hs hown cs rfl g hgs hx hcs h1c hbase hn fun v' w' r1 r2 r3 => hK _ _ (h v' w' r1 r2 r3)

theorem SlAt.src {P : Program} {w : World} {size n : Nat} {v : Value} {xs : List Value} {tx e' : TypeId} (h : SlAt w size v n xs) (hk : P.underlying tx = Option.some (.slice e')) (h1 : ∀ u ∈ xs, u.oneCell' = true) : Src P size tx v n xs w := by
  obtain ⟨hl, A, cap, rfl, hc, hm, h⟩ := h
  rcases h with rfl | ⟨b, o, rfl, hb, hx⟩
  · obtain rfl : xs = [] := List.eq_nil_of_length_eq_zero (by simpa using hl)
    cases A with
    | none => exact Src.ofNil w hk cap
    | some a => exact Src.ofSlice w hk a 0 cap [] (by simp) (fun j u hj => by simp at hj) (fun u hu => by cases hu)
  · exact Src.ofSlice w hk _ n cap xs hl (fun j u hj => by rw [Addr.add_lit]; exact hx j u hj) h1

/-- A whole slice behind an empty one of one's own. -/
theorem wpList_append_spread {P : Program} {w : World} {ops : Array Oper} {rest : List Oper} {o : Oper} {a : Act} {Q : Exit → Act → World → Prop}
    (hg : o.guard = none) (s x : Operand) (t : TypeId) (hop : o.op = Op.call { callee := Callee.builtin Builtin.append, args := #[s, x], argTypes := #[t, t] })
    (base : Nat) (e : TypeId) (z : Value) (size bytes : Nat) (hin : (P.info? e).map (fun i => (i.zero, i.size, i.bytes)) = some (some z, size, bytes)) (h1 : P.underlying t = some (.slice e)) (h6 : z.cells.size = size) (h7 : 0 < size) (h8 : bytes ≤ 100000)
    (g : Nat) (hs : a.eval s = .slice (some ⟨g, 0, none⟩) 0 0) (hB : Blk w g e #[]) (hgb : base ≤ g)
    (v : Value) (n : Nat) (xs : List Value) (hx : a.eval x = v) (hsrc : SlAt w size v n xs) (h1c : ∀ u ∈ xs, u.oneCell' = true) (hn : n ≤ 1000000)
    (h : ∀ v' w', OwnsAt w' base e size v' n xs → Below g w w' → wpList P ops Q rest (a.put o.dst v') w') :
    wpList P ops Q (o :: rest) a w := by
  obtain ⟨i0, hi, hz0, hz1, hz2⟩ := info_parts hin
  have hBlt := hB.lt
  refine wpList_plain hg fun K hK => ?_
  rcases Nat.eq_zero_or_pos n with h0 | hpos
  · subst h0
    obtain rfl : xs = [] := List.eq_nil_of_length_eq_zero (by simpa using hsrc.1)
    have hrun := run_append_room_src (P := P) w t t o.type e i0 h1 hi g 0 0 0 v 0 [] (by rw [hz1]; exact hsrc.src (P := P) h1 h1c) (Nat.le_refl _) (fun j hj => by simp at hj) (fun j hj => by simp at hj)
    unfold Oper.wp
    simp [execOp, hop, resolve, invoke, builtin, hs, hx, hrun, Result.andThen]
    exact hK _ _ (h _ _ ⟨by simp, .inr ⟨g, 0, 0, #[], rfl, hgb, hB, Nat.le_refl _, Nat.zero_le _, by simp, fun j u hj => by simp at hj⟩⟩ (Below.refl _ _))
  · obtain ⟨b, o', cap, rfl, hb, hc, hm, hcell⟩ := hsrc.some hpos
    have hrow : w.ownsRow g e size (.slice (Option.some ⟨g, 0, none⟩) 0 0) 0 [] := ⟨by simp, .inr ⟨g, 0, #[], rfl, Nat.le_refl _, hB, Nat.le_refl _, Nat.zero_le _, by simp, by simp⟩⟩
    obtain ⟨v', w', hrun, r1, r2, _⟩ := run_append_own (P := P) w g t o.type e i0 z size bytes h1 hi hz0 hz1 hz2 h6 h7 _ 0 [] hrow ⟨b, o', none⟩ n cap xs hsrc.1 (fun j u hj => by rw [Addr.add_lit]; exact hcell j u hj) h1c
      (by unfold maxLen; omega) (Nat.le_trans (Nat.mul_le_mul (by omega : 0 + n ≤ 1000000) h8) (by decide)) (by omega)
    unfold Oper.wp
    simp [execOp, hop, resolve, invoke, builtin, hs, hx, hrun, Result.andThen]
    rw [Nat.zero_add, List.nil_append] at r1
    obtain ⟨hl', hh⟩ := OwnsAt.of_row r1
    refine hK _ _ (h _ _ ⟨hl', hh.imp id ?_⟩ ⟨r2.os, r2.tape, r2.output, r2.size, fun k hk => r2.block k (by omega) (fun e => by simp [Value.ownBlock] at e; omega)⟩)
    rintro ⟨g', off, cap', cur, he, hb', rest'⟩
    exact ⟨g', off, cap', cur, he, by omega, rest'⟩

/-- Elements of a fixed number of cells, one behind the other. -/
theorem flat_at {α : Type} (F : α → List Value) (s : Nat) (hF : ∀ x, (F x).length = s) : ∀ (l : List α) (i m : Nat), m < s → (l.flatMap F)[i * s + m]? = (l[i]?).bind fun x => (F x)[m]?
  | [], i, m, hm => by simp
  | x :: l, 0, m, hm => by
    rw [List.flatMap_cons, List.getElem?_append_left (by rw [hF]; omega)]; simp
  | x :: l, i + 1, m, hm => by
    rw [List.flatMap_cons, List.getElem?_append_right (by rw [hF, Nat.add_mul]; omega), hF]
    rw [show (i + 1) * s + m - s = i * s + m by rw [Nat.add_mul]; omega, flat_at F s hF l i m hm]
    simp
theorem flat_len {α : Type} (F : α → List Value) (s : Nat) (hF : ∀ x, (F x).length = s) : ∀ l : List α, (l.flatMap F).length = l.length * s
  | [] => by simp
  | x :: l => by rw [List.flatMap_cons, List.length_append, hF, flat_len F s hF l, List.length_cons, Nat.add_mul]; omega
theorem flat_take {α : Type} (F : α → List Value) (s : Nat) (hF : ∀ x, (F x).length = s) : ∀ (l : List α) (k : Nat), (l.flatMap F).take (k * s) = (l.take k).flatMap F
  | [], k => by simp
  | x :: l, 0 => by simp
  | x :: l, k + 1 => by
    rw [List.flatMap_cons, List.take_append, hF, List.take_of_length_le (by rw [hF, Nat.add_mul]; omega), List.take_succ_cons, List.flatMap_cons, ← flat_take F s hF l k]
    rw [show (k + 1) * s - s = k * s by rw [Nat.add_mul]; omega]
theorem flat_drop {α : Type} (F : α → List Value) (s : Nat) (hF : ∀ x, (F x).length = s) : ∀ (l : List α) (k : Nat), (l.flatMap F).drop (k * s) = (l.drop k).flatMap F
  | [], k => by simp
  | x :: l, 0 => by simp
  | x :: l, k + 1 => by
    rw [List.flatMap_cons, List.drop_append, hF, List.drop_eq_nil_of_le (by rw [hF, Nat.add_mul]; omega), List.drop_succ_cons, List.nil_append, ← flat_drop F s hF l k]
    rw [show (k + 1) * s - s = k * s by rw [Nat.add_mul]; omega]

/-- An argument that is a slice: its elements opened one by one. -/
theorem Came.list {P : Program} {w : World} {t e : TypeId} {v : Value} {s : Nat} (ht : P.underlying t = some (.slice e)) (he : P.cellsOf e = s) (hs : 0 < s) (h : Came P w t v) {α : Type} (F : α → List Value) (hF : ∀ x, (F x).length = s) (ok : α → Prop)
    (op : ∀ cs, Tr P w e cs → ∃ x, cs = F x ∧ ok x) : ∃ l : List α, SlAt w s v l.length (l.flatMap F) ∧ ∀ x ∈ l, ok x := by
  obtain ⟨A, len, cap, rfl, h'⟩ := Came.slice ht h
  obtain ⟨A', len', cap', vs, hcs, hlc, hcm, hA, hvl, hrd, hel⟩ := Tr.slice ht (by rw [he]; exact hs) h'
  cases hcs
  rw [he] at hvl hel
  have key : ∀ (n : Nat) (vs : List Value), vs.length = n * s → (∀ i, i < n → Tr P w e ((vs.drop (i * s)).take s)) → ∃ l : List α, l.length = n ∧ vs = l.flatMap F ∧ ∀ x ∈ l, ok x := by
    intro n
    induction n with
    | zero => exact fun vs hv _ => ⟨[], rfl, List.eq_nil_of_length_eq_zero (by simpa using hv), by simp⟩
    | succ n ih =>
      intro vs hv hel
      obtain ⟨x, hx, hok⟩ := op _ (hel 0 (by omega))
      rw [Nat.zero_mul, List.drop_zero] at hx
      obtain ⟨l, hl, hvs, hall⟩ := ih (vs.drop s) (by rw [List.length_drop, hv, Nat.add_mul]; omega) (fun i hi => by
        have := hel (i + 1) (by omega)
        rwa [Nat.add_mul, Nat.one_mul, Nat.add_comm, ← List.drop_drop] at this)
      refine ⟨x :: l, by simp [hl], ?_, fun y hy => ?_⟩
      · rw [List.flatMap_cons, ← hvs, ← hx, List.take_append_drop]
      · rcases List.mem_cons.1 hy with rfl | hy
        · exact hok
        · exact hall y hy
  obtain ⟨l, hl, hvs, hall⟩ := key len vs hvl hel
  refine ⟨l, ?_, hall⟩
  rw [hl, ← hvs]
  refine ⟨hvl, A, cap, rfl, hlc, hcm, ?_⟩
  rcases Nat.eq_zero_or_pos len with h0 | h0
  · exact .inl h0
  · right
    rcases hrd with rfl | ⟨b, o, hA, hb, hx⟩
    · have := Nat.mul_pos h0 hs; simp at hvl; omega
    · exact ⟨b, o, hA, hb, hx⟩

end Go.Proofs.Ytkeiafiembfaeaa
