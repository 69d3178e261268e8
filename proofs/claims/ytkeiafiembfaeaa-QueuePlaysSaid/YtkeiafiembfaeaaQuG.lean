/- Put, whole. -/
import Derived.Test.YtkeiafiembfaeaaQuF
import Derived.Shelf.Abstract
set_option linter.unusedSimpArgs false
set_option linter.unusedVariables false
namespace Go.Proofs.Ytkeiafiembfaeaa
open Go.RowKit Go.Shelf
attribute [local irreducible] wpMix

/-- What Put asks, one behind the other, and what it tells if it is not so. -/
def okq (n most room : Int) (L : List Pk) (t c : Int) (s : ByteArray) : Nat → Prop
  | 0 => 0 ≤ t ∧ t < n
  | 1 => InR n t c
  | 2 => s.size ≠ 0
  | 3 => s.size ≤ 65519
  | 4 => ((qof L t c).length : Int) < most
  | 5 => (qb (qof L t c) : Int) + s.size ≤ room
  | _ => True
def putErr (n most room : Int) (L : List Pk) (t c : Int) (s : ByteArray) : Int :=
  if 0 ≤ t ∧ t < n then if InR n t c then if s.size ≠ 0 then if s.size ≤ 65519 then if ((qof L t c).length : Int) < most then if (qb (qof L t c) : Int) + s.size ≤ room then 0 else 7 else 6 else 3 else 8 else 2 else 9
section
variable {n most room : Int} {L : List Pk} {t c : Int} {s : ByteArray}
theorem err0 (h : ¬ okq n most room L t c s 0) : putErr n most room L t c s = 9 := by
  have k : ¬ (0 ≤ t ∧ t < n) := h
  unfold putErr; rw [if_neg k]
theorem err1 (h : ∀ j, j < 1 → okq n most room L t c s j) (k : ¬ okq n most room L t c s 1) : putErr n most room L t c s = 2 := by
  have h0 : 0 ≤ t ∧ t < n := h 0 (by omega)
  have k : ¬ (InR n t c) := k
  unfold putErr; rw [if_pos h0, if_neg k]
theorem err2 (h : ∀ j, j < 2 → okq n most room L t c s j) (k : ¬ okq n most room L t c s 2) : putErr n most room L t c s = 8 := by
  have h0 : 0 ≤ t ∧ t < n := h 0 (by omega)
  have h1 : InR n t c := h 1 (by omega)
  have k : ¬ (s.size ≠ 0) := k
  unfold putErr; rw [if_pos h0, if_pos h1, if_neg k]
theorem err3 (h : ∀ j, j < 3 → okq n most room L t c s j) (k : ¬ okq n most room L t c s 3) : putErr n most room L t c s = 3 := by
  have h0 : 0 ≤ t ∧ t < n := h 0 (by omega)
  have h1 : InR n t c := h 1 (by omega)
  have h2 : s.size ≠ 0 := h 2 (by omega)
  have k : ¬ (s.size ≤ 65519) := k
  unfold putErr; rw [if_pos h0, if_pos h1, if_pos h2, if_neg k]
theorem err4 (h : ∀ j, j < 4 → okq n most room L t c s j) (k : ¬ okq n most room L t c s 4) : putErr n most room L t c s = 6 := by
  have h0 : 0 ≤ t ∧ t < n := h 0 (by omega)
  have h1 : InR n t c := h 1 (by omega)
  have h2 : s.size ≠ 0 := h 2 (by omega)
  have h3 : s.size ≤ 65519 := h 3 (by omega)
  have k : ¬ (((qof L t c).length : Int) < most) := k
  unfold putErr; rw [if_pos h0, if_pos h1, if_pos h2, if_pos h3, if_neg k]
theorem err5 (h : ∀ j, j < 5 → okq n most room L t c s j) (k : ¬ okq n most room L t c s 5) : putErr n most room L t c s = 7 := by
  have h0 : 0 ≤ t ∧ t < n := h 0 (by omega)
  have h1 : InR n t c := h 1 (by omega)
  have h2 : s.size ≠ 0 := h 2 (by omega)
  have h3 : s.size ≤ 65519 := h 3 (by omega)
  have h4 : ((qof L t c).length : Int) < most := h 4 (by omega)
  have k : ¬ ((qb (qof L t c) : Int) + s.size ≤ room) := k
  unfold putErr; rw [if_pos h0, if_pos h1, if_pos h2, if_pos h3, if_pos h4, if_neg k]
theorem err6 (h : ∀ j, j < 6 → okq n most room L t c s j) : putErr n most room L t c s = 0 := by
  have h0 : 0 ≤ t ∧ t < n := h 0 (by omega)
  have h1 : InR n t c := h 1 (by omega)
  have h2 : s.size ≠ 0 := h 2 (by omega)
  have h3 : s.size ≤ 65519 := h 3 (by omega)
  have h4 : ((qof L t c).length : Int) < most := h 4 (by omega)
  have h5 : (qb (qof L t c) : Int) + s.size ≤ room := h 5 (by omega)
  unfold putErr; rw [if_pos h0, if_pos h1, if_pos h2, if_pos h3, if_pos h4, if_pos h5]
theorem ok_next {i : Nat} (h : ∀ j, j < i → okq n most room L t c s j) (k : okq n most room L t c s i) : ∀ j, j < i + 1 → okq n most room L t c s j := fun j hj => by
  rcases Nat.lt_or_ge j i with hlt | hge
  · exact h j hlt
  · obtain rfl : j = i := by omega
    exact k
end

theorem asked_of {I : World → Prop} {R : Int → World → Prop} {w' : World} {is : Bool} {code : Int} (hc : code ≠ 0) (h1 : is = true → I w') (h2 : is = false → R code w') : Asked I R (.returned (.int .i64 (unlQ is code))) w' := by
  cases is
  · exact ⟨code, rfl, .inr ⟨hc, h2 rfl⟩⟩
  · exact ⟨0, rfl, .inl ⟨rfl, h1 rfl⟩⟩

def putFs (g : Nat) : List (Nat × Array Value) :=
  [(28, #[ptr (g + 1), ptr g]), (30, #[ptr (g + 5)]), (31, #[ptr (g + 3)]), (32, #[ptr (g + 3)]),
   (33, #[ptr (g + 5), ptr g]), (35, #[ptr (g + 5), ptr (g + 3), ptr g]), (36, #[ptr (g + 5), ptr g, ptr (g + 1), ptr (g + 2), ptr (g + 3), ptr (g + 4)])]
def fnCell (p : Nat × Array Value) : Value := .func (.func p.1) #[] p.2

section
variable {w W : World} {b : Nat} {n most room last : Int} {L : List Pk} {mb : Nat} {f : Value → Option Value} {ob rb : Int → Int → Nat} {v : Int → Int → Value} {col : Nat → Int} {F : Nat → Prop} {g : Nat} {t c ti : Int} {s : ByteArray}

/-- Behind i questions. -/
def PutI (w : World) (b : Nat) (n most room : Int) (L : List Pk) (t c : Int) (s : ByteArray) (ti : Int) (x : Value) (i : Nat) (W : World) : Prop :=
  (∀ j, j < i → okq n most room L t c s j) ∧ Below w.heap.size w W ∧ PutEnv W w.heap.size b t c s ti x ∧ Blk W (w.heap.size + 6) 72 ((putFs w.heap.size).map fnCell).toArray
/-- What the questions tell. -/
def PutR (w : World) (b : Nat) (n most room last : Int) (L : List Pk) (t c : Int) (s : ByteArray) (ti : Int) (x : Value) (ob rb : Int → Int → Nat) (v : Int → Int → Value) (e : Int) (W : World) : Prop :=
  e = putErr n most room L t c s ∧ (e ≠ 0 → Below w.heap.size w W) ∧
    (e = 0 → (InR n t c ∧ s.size ≤ 65519 ∧ (qb (qof L t c) : Int) + s.size ≤ room) ∧ PutEnv W w.heap.size b t c s ti x ∧ ∃ v', RingAt W (rb t c) most v' (qof L t c ++ [(last + 1, (t, c, s), ti)]) ∧ But (fun k => k = rb t c ∨ (v t c).ownBlock = some k) w.heap.size w W ∧ (v'.ownBlock = (v t c).ownBlock ∨ ∃ g, v'.ownBlock = some g ∧ w.heap.size ≤ g))

def PutJ (w : World) (b : Nat) (n most room last : Int) (L : List Pk) (t c : Int) (s : ByteArray) (ti : Int) (x : Value) (ob rb : Int → Int → Nat) (v : Int → Int → Value) (i : Nat) (W : World) : Prop :=
  (i < 7 ∧ PutI w b n most room L t c s ti x i W) ∨ (i = 7 ∧ PutR w b n most room last L t c s ti x ob rb v 0 W)
theorem put_step (h : QsIs w b n most room last L mb f ob rb v col F) (ok : QsOk n most room last L) (hm : s.size ≤ maxLen) {x : Value} (hx1 : InR n t c → x = ptr (ob t c)) (hx2 : ¬ InR n t c → x = .pointer none)
    (i K : Nat) (cs : Array Value) (W : World) (hf : (putFs w.heap.size)[i]? = some (K, cs)) (hI' : PutJ w b n most room last L t c s ti x ob rb v i W) (hi7 : i < 7) :
    Calls Try.prog K cs W (Asked (PutJ w b n most room last L t c s ti x ob rb v (i + 1)) (PutR w b n most room last L t c s ti x ob rb v)) := by
  have hI : PutI w b n most room L t c s ti x i W := by
    rcases hI' with ⟨_, h⟩ | ⟨h, _⟩
    · exact h
    · omega
  obtain ⟨hok, hbw, hE, hB⟩ := hI
  have hQ := h.below hbw
  have next : ∀ W', Below W.heap.size W W' → okq n most room L t c s i → i < 6 → PutJ w b n most room last L t c s ti x ob rb v (i + 1) W' := fun W' hb hk hi =>
    .inl ⟨by omega, ok_next hok hk, hbw.trans (hb.mono hbw.size), hE.below hb, hB.below hb hB.lt⟩
  have bad : ∀ W' (e : Int), Below W.heap.size W W' → e ≠ 0 → putErr n most room L t c s = e → PutR w b n most room last L t c s ti x ob rb v e W' := fun W' e hb he hp =>
    ⟨hp.symm, fun _ => hbw.trans (hb.mono hbw.size), fun h0 => absurd h0 he⟩
  rcases i with _ | _ | _ | _ | _ | _ | _ | i
  · cases hf
    refine (put1 hQ.blk hE.q hE.t ok.n1 ok.n8).mono ?_
    rintro e W' ⟨rfl, hb⟩
    refine asked_of (by decide) (fun hh => next W' hb ?_ (by omega)) (fun hh => bad W' 9 hb (by decide) (err0 fun h0 => ?_))
    · simp only [wIn, Bool.and_eq_true, decide_eq_true_eq] at hh
      show 0 ≤ t ∧ t < n
      omega
    · have h0' : 0 ≤ t ∧ t < n := h0
      have : wIn t 0 (n - 1) = true := by simp only [wIn, Bool.and_eq_true, decide_eq_true_eq]; omega
      rw [this] at hh; cases hh
  · cases hf
    by_cases hR : InR n t c
    · refine (put2 (y := true) (.inr ⟨ob t c, hx1 hR, rfl⟩) hE.o).mono ?_
      rintro e W' ⟨rfl, hb⟩
      exact asked_of (by decide) (fun _ => next W' hb (show InR n t c from hR) (by omega)) (fun hh => by cases hh)
    · refine (put2 (y := false) (.inl ⟨hx2 hR, rfl⟩) hE.o).mono ?_
      rintro e W' ⟨rfl, hb⟩
      exact asked_of (by decide) (fun hh => by cases hh) (fun _ => bad W' 2 hb (by decide) (err1 hok (show ¬ InR n t c from hR)))
  · cases hf
    refine (put3 hE.s hm).mono ?_
    rintro e W' ⟨rfl, hb⟩
    exact asked_of (by decide) (fun hh => next W' hb (show s.size ≠ 0 from of_decide_eq_true hh) (by omega)) (fun hh => bad W' 8 hb (by decide) (err2 hok (show ¬ (s.size ≠ 0) from of_decide_eq_false hh)))
  · cases hf
    refine (put4 hE.s hm).mono ?_
    rintro e W' ⟨rfl, hb⟩
    exact asked_of (by decide) (fun hh => next W' hb (show s.size ≤ 65519 from of_decide_eq_true hh) (by omega)) (fun hh => bad W' 3 hb (by decide) (err3 hok (show ¬ (s.size ≤ 65519) from of_decide_eq_false hh)))
  · cases hf
    have hR : InR n t c := hok 1 (by omega)
    have hEo := hE.o
    rw [hx1 hR] at hEo
    refine (put5 hQ.blk hE.q hEo (hQ.one t c hR) (hQ.ring t c hR)).mono ?_
    rintro e W' ⟨rfl, hb⟩
    exact asked_of (by decide) (fun hh => next W' hb (show ((qof L t c).length : Int) < most from of_decide_eq_true hh) (by omega)) (fun hh => bad W' 6 hb (by decide) (err4 hok (show ¬ (((qof L t c).length : Int) < most) from of_decide_eq_false hh)))
  · cases hf
    have hR : InR n t c := hok 1 (by omega)
    have hs : s.size ≤ 65519 := hok 3 (by omega)
    have hEo := hE.o
    rw [hx1 hR] at hEo
    refine (put6 hQ.blk hE.q hEo hE.s (hQ.one t c hR) (by have := ok.bytes t c; have := ok.r2; omega) hs).mono ?_
    rintro e W' ⟨rfl, hb⟩
    exact asked_of (by decide) (fun hh => next W' hb (show (qb (qof L t c) : Int) + s.size ≤ room from of_decide_eq_true hh) (by omega)) (fun hh => bad W' 7 hb (by decide) (err5 hok (show ¬ ((qb (qof L t c) : Int) + s.size ≤ room) from of_decide_eq_false hh)))
  · cases hf
    have hR : InR n t c := hok 1 (by omega)
    have hl : ((qof L t c).length : Int) < most := hok 4 (by omega)
    have hE' := hE
    rw [hx1 hR] at hE'
    refine (put7 (g := w.heap.size) hQ h.lt hR hE' hl ok.m2 ok.last0 ok.last2).mono ?_
    rintro e W' ⟨rfl, v', hr, hb, hv⟩
    have hE2 : PutEnv W' w.heap.size b t c s ti x := hE.keep fun k hk hkW => hb.block k hkW (by
      rintro (rfl | e)
      · have := h.lt _ (h.cr t c hR).1; omega
      · have := h.lt _ (h.cv t c k hR e).1; omega)
    refine ⟨0, rfl, .inl ⟨rfl, .inr ⟨rfl, (err6 hok).symm, fun h0 => absurd rfl h0, fun _ => ⟨⟨hR, hok 3 (by omega), hok 5 (by omega)⟩, hE2, v', hr, (But.of_below hbw).trans (hb.mono hbw.size fun k _ hk => hk), hv.imp id fun ⟨g, hg, hlt⟩ => ⟨g, hg, Nat.le_trans hbw.size hlt⟩⟩⟩⟩⟩
  · simp [putFs] at hf
end

theorem putJ_cell {w W : World} {b : Nat} {n most room last : Int} {L : List Pk} {ob rb : Int → Int → Nat} {v : Int → Int → Value} {t c ti : Int} {s : ByteArray} {x : Value} {i : Nat} (hi : i < 7) (h : PutJ w b n most room last L t c s ti x ob rb v i W) (j K : Nat) (cs : Array Value) (hj : (putFs w.heap.size)[j]? = some (K, cs)) :
    W.cell? ⟨w.heap.size + 6, j, none⟩ = some (.func (.func K) #[] cs) := by
  rcases h with ⟨_, _, _, _, hB⟩ | ⟨h, _⟩
  · rw [hB.cell j]
    simp [hj, fnCell]
  · omega
theorem putFs_enter (g : Nat) : ∀ K cs, (K, cs) ∈ putFs g → ∀ args w, (callFunc K args).run Try.prog w = .ok (.enter K args) w := by
  intro K cs h
  simp only [putFs, List.mem_cons, Prod.mk.injEq, List.not_mem_nil, or_false] at h
  rcases h with ⟨rfl, _⟩ | ⟨rfl, _⟩ | ⟨rfl, _⟩ | ⟨rfl, _⟩ | ⟨rfl, _⟩ | ⟨rfl, _⟩ | ⟨rfl, _⟩
  · exact enters_of Try.func28 (by kernel_rfl) rfl
  · exact enters_of Try.func30 (by kernel_rfl) rfl
  · exact enters_of Try.func31 (by kernel_rfl) rfl
  · exact enters_of Try.func32 (by kernel_rfl) rfl
  · exact enters_of Try.func33 (by kernel_rfl) rfl
  · exact enters_of Try.func35 (by kernel_rfl) rfl
  · exact enters_of Try.func36 (by kernel_rfl) rfl

theorem qof_snoc (L : List Pk) (p : Pk) (t c : Int) : qof (L ++ [p]) t c = if p.2.1.1 = t ∧ p.2.1.2.1 = c then qof L t c ++ [p] else qof L t c := by
  unfold qof
  rw [List.filter_append]
  by_cases h : p.2.1.1 = t ∧ p.2.1.2.1 = c
  · rw [if_pos h, List.filter_cons, if_pos (by simp [inq, h.1, h.2])]; rfl
  · rw [if_neg h, List.filter_cons, if_neg (by simpa [inq] using h)]; simp
theorem qb_snoc (l : List Pk) (p : Pk) : qb (l ++ [p]) = qb l + p.2.1.2.2.size := by simp [qb]

/-- What Put leaves. -/
def PutPost (w : World) (b : Nat) (n most room last : Int) (L : List Pk) (t c : Int) (s : ByteArray) (ti : Int) (F : Nat → Prop) (e : Ending) (w' : World) : Prop :=
  (putErr n most room L t c s ≠ 0 ∧ e = .returned (.tuple #[.int .u64 0, .int .i64 (putErr n most room L t c s)]) ∧ Below w.heap.size w w') ∨
  (putErr n most room L t c s = 0 ∧ e = .returned (.tuple #[.int .u64 (last + 1), .int .i64 0]) ∧ Acts (QsT b n most room (last + 1) (L ++ [(last + 1, (t, c, s), ti)])) F w w')

section
variable {w W : World} {b : Nat} {n most room last : Int} {L : List Pk} {mb : Nat} {f : Value → Option Value} {ob rb : Int → Int → Nat} {v : Int → Int → Value} {col : Nat → Int} {F : Nat → Prop} {g : Nat} {t c ti : Int} {s : ByteArray}

theorem put_of (h : QsIs w b n most room last L mb f ob rb v col F) (wt : (Lit.int .i64 t).wf = true) (wc : (Lit.int .i64 c).wf = true) :
    ∃ p : Option Addr, (InR n t c → Value.pointer p = ptr (ob t c)) ∧ (¬ InR n t c → Value.pointer p = .pointer none) ∧ ∀ W, Below w.heap.size w W → Calls Try.prog 26 #[ptr b, .int .i64 t, .int .i64 c] W fun e w' => e = .returned (.pointer p) ∧ W = w' := by
  by_cases hR : InR n t c
  · exact ⟨some ⟨ob t c, 0, none⟩, fun _ => rfl, fun h => absurd hR h, fun W hb => of_yes (h.below hb) hR wt wc⟩
  · exact ⟨none, fun h => absurd h hR, fun _ => rfl, fun W hb => of_no (h.below hb) hR wt wc⟩

set_option maxRecDepth 100000 in
set_option maxHeartbeats 1000000 in
theorem put_any (h : QsIs w b n most room last L mb f ob rb v col F) (ok : QsOk n most room last L) (wt : (Lit.int .i64 t).wf = true) (wc : (Lit.int .i64 c).wf = true) (hm : s.size ≤ maxLen) :
    Calls Try.prog 11 #[ptr b, .int .i64 t, .int .i64 c, .string s, .int .u64 ti] w (PutPost w b n most room last L t c s ti F) := by
  obtain ⟨x, hx1, hx2, hof⟩ := put_of (t := t) (c := c) h wt wc
  have HQ := Lib.hid (And.intro h (And.intro ok (And.intro hx1 (And.intro hx2 (And.intro hof hm)))))
  clear h ok hx1 hx2 hof wt wc
  go_enter Try.func11, Try.ntmps11
  go_wp2_with fail
  generalize hW : World.alloc _ _ = W0
  have hb0 : Below w.heap.size w W0 := by rw [← hW]; exact (((((Below.refl _ _).alloc (Nat.le_refl _) _).alloc (by simp; try omega) _).alloc (by simp; try omega) _).alloc (by simp; try omega) _).alloc (by simp; try omega) _
  have hz : W0.heap.size = w.heap.size + 5 := by rw [← hW]; simp
  have k0 : Blk W0 w.heap.size 24 #[ptr b] := by rw [← hW]; (repeat (first | with_reducible exact Blk.new _ _ _ | exact (Blk.new _ _ _).same_g (by simp; done) | refine Blk.alloc ?_ _))
  have k1 : Blk W0 (w.heap.size + 1) 3 #[.int .i64 t] := by rw [← hW]; (repeat (first | with_reducible exact Blk.new _ _ _ | exact (Blk.new _ _ _).same_g (by simp; done) | refine Blk.alloc ?_ _))
  have k2 : Blk W0 (w.heap.size + 2) 3 #[.int .i64 c] := by rw [← hW]; (repeat (first | with_reducible exact Blk.new _ _ _ | exact (Blk.new _ _ _).same_g (by simp; done) | refine Blk.alloc ?_ _))
  have k3 : Blk W0 (w.heap.size + 3) 9 #[.string s] := by rw [← hW]; (repeat (first | with_reducible exact Blk.new _ _ _ | exact (Blk.new _ _ _).same_g (by simp; done) | refine Blk.alloc ?_ _))
  have k4 : Blk W0 (w.heap.size + 4) 32 #[.int .u64 ti] := by rw [← hW]; (repeat (first | with_reducible exact Blk.new _ _ _ | exact (Blk.new _ _ _).same_g (by simp; done) | refine Blk.alloc ?_ _))
  clear hW
  refine (HQ.out.2.2.2.2.1 _ hb0).mono ?_
  rintro e w1 ⟨rfl, rfl⟩
  have HK := Lib.hid (And.intro hb0 (And.intro k0 (And.intro k1 (And.intro k2 (And.intro k3 k4)))))
  clear hb0 k0 k1 k2 k3 k4
  go_wp2_with fail
  simp only [Nat.add_assoc, Nat.reduceAdd]
  generalize hW : World.alloc _ _ = W2
  obtain ⟨hb0, k0, k1, k2, k3, k4⟩ := HK.out
  have hb2 : Below w.heap.size w W2 := by rw [← hW]; exact (hb0.alloc (by omega) _).alloc (by simp; omega) _
  have e2 : PutEnv W2 w.heap.size b t c s ti (.pointer x) := by
    rw [← hW]
    exact ⟨(k0.alloc _).alloc _, (k1.alloc _).alloc _, (k2.alloc _).alloc _, (k3.alloc _).alloc _, (k4.alloc _).alloc _, ((Blk.new W0 _ _).same_g hz).alloc _⟩
  have f2 : Blk W2 (w.heap.size + 6) 72 ((putFs w.heap.size).map fnCell).toArray := by rw [← hW]; exact (Blk.new _ _ _).same_g (by simp [hz])
  have hJ : PutJ w b n most room last L t c s ti (.pointer x) ob rb v 0 W2 := .inl ⟨by omega, fun j hj => absurd hj (by omega), hb2, e2, f2⟩
  have hfw := firstWrong_any (putFs w.heap.size) (w.heap.size + 6) 7 (PutJ w b n most room last L t c s ti (.pointer x) ob rb v) (PutR w b n most room last L t c s ti (.pointer x) ob rb v) W2 (show 7 ≤ 100 by decide)
    (fun i W hi hI j K cs hj => putJ_cell hi hI j K cs hj) (putFs_enter _)
    (fun i K cs W hf hI => put_step HQ.out.1 HQ.out.2.1 HQ.out.2.2.2.2.2 HQ.out.2.2.1 HQ.out.2.2.2.1 i K cs W hf hI (show i < (putFs w.heap.size).length from (List.getElem?_eq_some_iff.1 hf).1))
    (fun W hI => by
      rcases hI with ⟨h, _⟩ | ⟨_, h⟩
      · exact absurd h (by simp [putFs])
      · exact h) hJ
  clear hJ f2 e2 hb2 hW hb0 k0 k1 k2 k3 k4
  refine hfw.mono ?_
  clear hfw
  rintro e w3 ⟨y, rfl, hR⟩
  have HR := Lib.hid hR
  clear hR
  by_cases hy : y = 0
  · subst hy
    obtain ⟨hE, _, hok⟩ := HR.out
    have HPE := Lib.hid hE
    obtain ⟨⟨hR, hsz, hsr⟩, hE3, v', hr3, hb3, hv3⟩ := hok rfl
    obtain rfl : x = some ⟨ob t c, 0, none⟩ := by have := HQ.out.2.2.1 hR; cases this; rfl
    clear hok HR
    have h := HQ.out.1
    have ok := HQ.out.2.1
    have hco := h.co t c hR
    have hcr := h.cr t c hR
    have hr0 := hR
    unfold InR at hr0
    have nob : ¬ (ob t c = rb t c ∨ (v t c).ownBlock = some (ob t c)) := by
      rintro (e | e)
      · have := hcr.2; rw [← e, hco.2] at this; omega
      · have := (h.cv t c _ hR e).2; rw [hco.2] at this; omega
    have nb : ¬ (b = rb t c ∨ (v t c).ownBlock = some b) := by
      rintro (e | e)
      · have := hcr.2; rw [← e, h.cb.2] at this; omega
      · have := (h.cv t c _ hR e).2; rw [h.cb.2] at this; omega
    have hob : Blk w3 (ob t c) 65 #[ptr (rb t c), .int .i64 (qb (qof L t c))] := (hb3.block _ (h.lt _ hco.1) nob).trans (h.one t c hR)
    have hqb : Blk w3 b 60 #[.map (some mb), .int .i64 n, .int .i64 most, .int .i64 room, .int .u64 last] := (hb3.block _ (h.lt _ h.cb.1) nb).trans h.blk
    have hbo : b ≠ ob t c := fun e => by have := hco.2; rw [← e, h.cb.2] at this; omega
    have hby : (qb (qof L t c) : Int) ≤ 1000000 := Int.le_trans (ok.bytes t c) ok.r2
    have lo := h.lt _ hco.1
    have lb := h.lt _ h.cb.1
    have q0 : ∀ X : Cls fun W => Below w3.heap.size w3 W, X.W.cell? ⟨w.heap.size + 5, 0, none⟩ = some (ptr (ob t c)) := fun X => (sub_cell X _ _ hE3.o.lt).trans (hE3.o.cell 0)
    have q1 : ∀ X : Cls fun W => Below w3.heap.size w3 W, X.W.cell? ⟨ob t c, 1, none⟩ = some (.int .i64 (qb (qof L t c))) := fun X => (sub_cell X _ _ hob.lt).trans (hob.cell 1)
    have q2 : ∀ X : Cls fun W => Below w3.heap.size w3 W, X.W.cell? ⟨w.heap.size + 3, 0, none⟩ = some (.string s) := fun X => (sub_cell X _ _ hE3.s.lt).trans (hE3.s.cell 0)
    have f0 := hob.frozen
    have o1 := hob.cell 1
    have f1 := hqb.frozen
    have hw : IntKind.i64.wrap ((qb (qof L t c) : Int) + s.size) = qb (qof L t c) + s.size := IntWalk.i64_in _ (by omega)
    have hw2 : IntKind.u64.wrap (last + 1) = last + 1 := IntWalk.u64_in _ (by have := ok.last0; have := ok.last2; omega)
    have s0 := hE3.q.cell 0
    have s1 := hqb.cell 4
    have HZ := Lib.hid (And.intro hE (And.intro hsr (And.intro hob (And.intro hqb (And.intro hr3 (And.intro hb3 (And.intro hv3 (And.intro hE3 hsz))))))))
    clear h ok hco hcr hr0 nob nb hob hqb hE3 hr3 hb3 hv3 hby hsz hsr hE HK s0 s1 f1
    go_wp2_with fail
    refine wp_region_sub [9] (fun W => Below w3.heap.size w3 W) (by kernel_rfl) (by kernel_rfl) ((Below.refl _ _).drew) (fun _ => ?_)
    iterate 9 (refine mix_read (by kernel_rfl) (by rfl) (by rfl) (by rfl) (of_decide_eq_true (by kernel_rfl)) ?_; apply Exists.intro; apply Exists.intro; refine ⟨fun w' hw' K hK => ?_, ?_, ?_⟩; (obtain ⟨X, rfl⟩ := hw'; go_wp2_with fail; first | exact ⟨rfl, rfl⟩ | exact rfl); rfl)
    (refine mix_last (by rfl) (by rfl) (by kernel_rfl) (fun K hK => ?_))
    clear q0 q1 q2 hw
    obtain ⟨hE, hsr, hob, hqb, hr3, hb3, hv3, hE3, hsz⟩ := HZ.out
    have z1 := hob.set_ 1 (.int .i64 ((qb (qof L t c) : Int) + s.size))
    have z2 := hqb.far (p := ⟨ob t c, 1, none⟩) hbo (.int .i64 ((qb (qof L t c) : Int) + s.size))
    have hro : rb t c ≠ ob t c := fun e => by have := (HQ.out.1.co t c hR).2; rw [← e, (HQ.out.1.cr t c hR).2] at this; unfold InR at hR; omega
    have hrb' : rb t c ≠ b := fun e => by have := (HQ.out.1.cr t c hR).2; rw [e, HQ.out.1.cb.2] at this; unfold InR at hR; omega
    have hvf : ∀ g, v'.ownBlock = some g → g ≠ ob t c ∧ g ≠ b := fun g hg => by
      rcases hv3 with e | ⟨g', e, hlt⟩
      · rw [e] at hg
        have hc := (HQ.out.1.cv t c g hR hg).2
        have hr0 := hR
        unfold InR at hr0
        exact ⟨fun e => by rw [e, (HQ.out.1.co t c hR).2] at hc; omega, fun e => by rw [e, HQ.out.1.cb.2] at hc; omega⟩
      · rw [e] at hg; cases hg; omega
    have z3 : RingAt (w3.setCell ⟨ob t c, 1, none⟩ (.int .i64 ((qb (qof L t c) : Int) + s.size))) (rb t c) most v' (qof L t c ++ [(last + 1, (t, c, s), ti)]) :=
      hr3.keep (Below.heap_setCell _ _ _ _ hro) fun g hg => Below.heap_setCell _ _ _ _ (hvf g hg).1
    have z4 := (hb3.mono (S' := fun k => k = b ∨ k = ob t c ∨ k = rb t c ∨ (v t c).ownBlock = some k) (Nat.le_refl _) (fun k _ h => .inr (.inr h))).setCell (p := ⟨ob t c, 1, none⟩) (fun _ => .inr (.inl rfl)) (.int .i64 ((qb (qof L t c) : Int) + s.size))
    have z5 := hE3.q.far (p := ⟨ob t c, 1, none⟩) (show w.heap.size ≠ ob t c by omega) (.int .i64 ((qb (qof L t c) : Int) + s.size))
    obtain ⟨W4, hW4⟩ : ∃ W4, w3.setCell ⟨ob t c, 1, none⟩ (.int .i64 ((qb (qof L t c) : Int) + s.size)) = W4 := ⟨_, rfl⟩
    rw [hW4] at z1 z2 z3 z4 z5
    have s0 := z5.cell 0
    have s1 := z2.cell 4
    have f1 := z2.frozen
    have HVN := Lib.hid hv3
    clear hv3
    have HY := Lib.hid (And.intro z1 (And.intro z2 (And.intro z3 (And.intro z4 (And.intro hvf hrb')))))
    clear z1 z2 z3 z4 z5 hE hsr hob hqb hr3 hb3 hE3 hsz hvf hrb' hro
    have hgb : ¬ w.heap.size = b := by omega
    go_wp2_with fail
    go_ret2
    obtain ⟨z1, z2, z3, z4, hvf, hrb'⟩ := HY.out
    have hF := HQ.out.1
    have hqo : qof (L ++ [((last + 1, (t, c, s), ti) : Pk)]) t c = qof L t c ++ [((last + 1, (t, c, s), ti) : Pk)] := by rw [qof_snoc, if_pos ⟨rfl, rfl⟩]
    refine .inr ⟨HPE.out.symm, rfl, ?_⟩
    refine hF.acted hR (v' := v') ((z2.set_ 4 (.int .u64 (last + 1))).drew.same (by simp only [List.setIfInBounds_toArray, List.set_cons_succ, List.set_cons_zero])) ?_ ?_ (z4.setCell (p := ⟨b, 4, none⟩) (fun _ => .inl rfl) _).drew HVN.out ?_
    · refine ((z1.same (cs' := #[ptr (rb t c), .int .i64 (qb (qof (L ++ [((last + 1, (t, c, s), ti) : Pk)]) t c))]) ?_).far (p := ⟨b, 4, none⟩) (fun e => hbo e.symm) _).drew
      rw [hqo, qb_snoc]
      simp only [List.setIfInBounds_toArray, List.set_cons_succ, List.set_cons_zero]
      simp
    · rw [hqo]
      exact z3.keep (Below.heap_setCell _ _ _ _ hrb') fun g hg => Below.heap_setCell _ _ _ _ (hvf g hg).2
    · intro t' c' hn
      rw [qof_snoc, if_neg (fun e => hn ⟨e.1.symm, e.2.symm⟩)]
  · have hyb : (y != 0) = true := by simp [hy]
    go_wp2_with fail
    go_ret2
    have he := HR.out.1
    subst he
    exact .inl ⟨hy, rfl, HR.out.2.1 hy⟩
end

end Go.Proofs.Ytkeiafiembfaeaa
