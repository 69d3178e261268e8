/- The queues: what they are in memory; of, Len, Head. -/
import Derived.Test.YtkeiafiembfaeaaQuB
import Derived.Test.YtkeiafiembfaeaaMap
import Derived.Test.YtkeiafiembfaeaaMapR
set_option linter.unusedSimpArgs false
set_option linter.unusedVariables false
namespace Go.Proofs.Ytkeiafiembfaeaa
open Go.RowKit
open Go.Maps (Keyed)
attribute [local irreducible] wpMix

abbrev kv (t c : Int) : Value := .agg #[.int .i64 t, .int .i64 c]
theorem types_pos : ∃ m, Try.prog.types.size = m + 1 := by
  have h : 0 < Try.prog.types.size := of_decide_eq_true (by kernel_rfl)
  exact ⟨Try.prog.types.size - 1, by omega⟩
theorem key_arr : Go.WideMaps.ArrKey Try.prog 67 3 2 := ⟨Try.underlying67, by kernel_rfl, by kernel_rfl, by kernel_rfl⟩
theorem key_law : Keyed Try.prog 67 := Keyed.of_law key_arr.law
theorem key_of {t c : Int} (ht : (Lit.int .i64 t).wf = true) (hc : (Lit.int .i64 c).wf = true) : ∃ l, keyOf Try.prog 67 (kv t c) = some l :=
  ⟨_, Go.WideMaps.keyOf_pair key_arr Try.underlying3 types_pos ht hc⟩
theorem zero_one (w : World) : (zeroValue 61).run Try.prog w = .ok (.pointer none) w := by kernel_rfl
theorem kv_ne {t c t' c' : Int} (h : ¬ (t = t' ∧ c = c')) : kv t' c' ≠ kv t c := by
  intro e
  unfold kv at e
  simp only [Value.agg.injEq, Array.mk.injEq, List.cons.injEq, Value.int.injEq, true_and, and_true] at e
  exact h ⟨e.1.symm, e.2.symm⟩

def inq (t c : Int) (p : Pk) : Bool := p.2.1.1 == t && p.2.1.2.1 == c
/-- What waits for one terminal, in one class. -/
def qof (L : List Pk) (t c : Int) : List Pk := L.filter (inq t c)
def qb (l : List Pk) : Nat := (l.map fun p => p.2.1.2.2.size).sum
def InR (n t c : Int) : Prop := 0 ≤ t ∧ t < n ∧ 0 ≤ c ∧ c < 3
instance (n t c : Int) : Decidable (InR n t c) := by unfold InR; infer_instance
abbrev ptr (g : Nat) : Value := .pointer (some ⟨g, 0, none⟩)

/-- Block b is queues that hold L; ob, rb, v: each queue's block, its ring's, its slice; col tells the blocks apart; F: the blocks of its own. -/
structure QsIs (w : World) (b : Nat) (n most room last : Int) (L : List Pk) (mb : Nat) (f : Value → Option Value) (ob rb : Int → Int → Nat) (v : Int → Int → Value) (col : Nat → Int) (F : Nat → Prop) : Prop where
  blk : Blk w b 60 #[.map (some mb), .int .i64 n, .int .i64 most, .int .i64 room, .int .u64 last]
  map : ∃ m, MapIs Try.prog 67 w mb m f
  key : ∀ t c, InR n t c → f (kv t c) = some (ptr (ob t c))
  keyN : ∀ t c, ¬ InR n t c → f (kv t c) = none
  keys : ∀ k x, f k = some x → ∃ t c, InR n t c ∧ k = kv t c
  one : ∀ t c, InR n t c → Blk w (ob t c) 65 #[ptr (rb t c), .int .i64 (qb (qof L t c))]
  ring : ∀ t c, InR n t c → RingAt w (rb t c) most (v t c) (qof L t c)
  cb : F b ∧ col b = 0
  cm : F mb ∧ col mb = 1
  co : ∀ t c, InR n t c → F (ob t c) ∧ col (ob t c) = 2 + 3 * (3 * t + c)
  cr : ∀ t c, InR n t c → F (rb t c) ∧ col (rb t c) = 3 + 3 * (3 * t + c)
  cv : ∀ t c g, InR n t c → (v t c).ownBlock = some g → F g ∧ col g = 4 + 3 * (3 * t + c)
  lt : ∀ k, F k → k < w.heap.size

/-- What holds of the packets: each in a queue that there is; no queue has more than it may; numbers rise. -/
structure QsOk (n most room last : Int) (L : List Pk) : Prop where
  n1 : 1 ≤ n
  n8 : n ≤ 8
  m1 : 1 ≤ most
  m2 : most ≤ 10000
  r1 : 1 ≤ room
  r2 : room ≤ 1000000
  inR : ∀ p ∈ L, InR n p.2.1.1 p.2.1.2.1
  len : ∀ t c, (qof L t c).length ≤ most
  bytes : ∀ t c, (qb (qof L t c) : Int) ≤ room
  nos : L.Pairwise (fun p q => p.1 < q.1)
  no1 : ∀ p ∈ L, 1 ≤ p.1 ∧ p.1 ≤ last
  last0 : 0 ≤ last
  last2 : last < 9223372036854775808

theorem qof_nil {n most room last : Int} {L : List Pk} (h : QsOk n most room last L) {t c : Int} (ht : ¬ InR n t c) : qof L t c = [] := by
  unfold qof
  rw [List.filter_eq_nil_iff]
  intro p hp hq
  have hr := h.inR p hp
  simp [inq] at hq
  rw [hq.1, hq.2] at hr
  exact ht hr

section
variable {w w' : World} {b : Nat} {n most room last : Int} {L : List Pk} {mb : Nat} {f : Value → Option Value} {ob rb : Int → Int → Nat} {v : Int → Int → Value} {col : Nat → Int} {F : Nat → Prop}

theorem RingAt.keep {w w' : World} {b : Nat} {room : Int} {v : Value} {l : List Pk} (h : RingAt w b room v l) (hb : w'.heap[b]? = w.heap[b]?) (hv : ∀ g, v.ownBlock = some g → w'.heap[g]? = w.heap[g]?) : RingAt w' b room v l :=
  ⟨hb.trans h.1, h.2.1.keep hv, h.2.2⟩
theorem QsIs.keep (h : QsIs w b n most room last L mb f ob rb v col F) (hk : ∀ k, F k → w'.heap[k]? = w.heap[k]?) (hs : w.heap.size ≤ w'.heap.size) : QsIs w' b n most room last L mb f ob rb v col F where
  blk := (hk b h.cb.1).trans h.blk
  map := by obtain ⟨m, hm⟩ := h.map; exact ⟨m, hm.keep (hk mb h.cm.1)⟩
  key := h.key
  keyN := h.keyN
  keys := h.keys
  one := fun t c ht => (hk _ (h.co t c ht).1).trans (h.one t c ht)
  ring := fun t c ht => (h.ring t c ht).keep (hk _ (h.cr t c ht).1) fun g hg => hk _ (h.cv t c g ht hg).1
  cb := h.cb
  cm := h.cm
  co := h.co
  cr := h.cr
  cv := h.cv
  lt := fun k hk => Nat.lt_of_lt_of_le (h.lt k hk) hs
theorem QsIs.below (h : QsIs w b n most room last L mb f ob rb v col F) (hb : Below w.heap.size w w') : QsIs w' b n most room last L mb f ob rb v col F :=
  h.keep (fun k hk => hb.block k (h.lt k hk)) hb.size

/-- Queues as a thing. -/
def QsT (b : Nat) (n most room last : Int) (L : List Pk) : Thing := fun w F => ∃ mb f ob rb v col, QsIs w b n most room last L mb f ob rb v col F
theorem QsT.loc (b : Nat) (n most room last : Int) (L : List Pk) : Local (QsT b n most room last L) :=
  ⟨fun w F ⟨_, _, _, _, _, _, h⟩ => h.lt, fun w w' F S ⟨mb, f, ob, rb, v, col, h⟩ hb hS => ⟨mb, f, ob, rb, v, col, h.keep (fun k hk => hb.block k (h.lt k hk) (hS k hk)) hb.size⟩⟩

/-- One queue has been acted on. -/
theorem QsIs.acted (h : QsIs w b n most room last L mb f ob rb v col F) {t c : Int} (ht : InR n t c) {last' : Int} {L' : List Pk} {v' : Value}
    (hb : Blk w' b 60 #[.map (some mb), .int .i64 n, .int .i64 most, .int .i64 room, .int .u64 last'])
    (ho : Blk w' (ob t c) 65 #[ptr (rb t c), .int .i64 (qb (qof L' t c))]) (hr : RingAt w' (rb t c) most v' (qof L' t c))
    (hw : But (fun k => k = b ∨ k = ob t c ∨ k = rb t c ∨ (v t c).ownBlock = some k) w.heap.size w w')
    (hv : v'.ownBlock = (v t c).ownBlock ∨ ∃ g, v'.ownBlock = some g ∧ w.heap.size ≤ g)
    (hL : ∀ t' c', ¬ (t' = t ∧ c' = c) → qof L' t' c' = qof L t' c') : Acts (QsT b n most room last' L') F w w' := by
  have hco := h.co t c ht
  have hcr := h.cr t c ht
  have hlt := h.lt
  have hv' : ∀ g, v'.ownBlock = some g → g < w'.heap.size := fun g hg => (hr.2.1.lt g hg).2
  refine ⟨fun k => F k ∨ v'.ownBlock = some k, ⟨mb, f, ob, rb, fun t' c' => if t' = t ∧ c' = c then v' else v t' c', fun k => if v'.ownBlock = some k then 4 + 3 * (3 * t + c) else col k, ?_⟩, ?_, ?_⟩
  · have hcv : ∀ k, v'.ownBlock = some k → (w.heap.size ≤ k ∨ F k ∧ col k = 4 + 3 * (3 * t + c)) := fun k hk => by
      rcases hv with e | ⟨g, e, hg⟩
      · rw [e] at hk; exact .inr (h.cv t c k ht hk)
      · rw [e] at hk; cases hk; exact .inl hg
    have cne : ∀ k, F k → col k ≠ 4 + 3 * (3 * t + c) → ¬ v'.ownBlock = some k := fun k hk hc e => by
      rcases hcv k e with hh | ⟨_, hh⟩
      · have := hlt k hk; omega
      · exact hc hh
    have far : ∀ k, F k → col k ≠ 0 → col k ≠ 2 + 3 * (3 * t + c) → col k ≠ 3 + 3 * (3 * t + c) → col k ≠ 4 + 3 * (3 * t + c) → w'.heap[k]? = w.heap[k]? := fun k hk h0 h2 h3 h4 => by
      refine hw.block k (hlt k hk) ?_
      rintro (rfl | rfl | rfl | e)
      · exact h0 h.cb.2
      · exact h2 hco.2
      · exact h3 hcr.2
      · exact h4 (h.cv t c k ht e).2
    have hr0 := ht
    unfold InR at hr0
    have part : ∀ t' c', InR n t' c' → ¬ (t' = t ∧ c' = c) → 3 * t' + c' ≠ 3 * t + c := fun t' c' h' hn e => by unfold InR at h'; exact hn (by omega)
    refine { blk := hb, map := ?_, key := h.key, keyN := h.keyN, keys := h.keys, one := fun t' c' ht' => ?_, ring := fun t' c' ht' => ?_, cb := ?_, cm := ?_, co := fun t' c' ht' => ?_, cr := fun t' c' ht' => ?_, cv := fun t' c' g ht' hg => ?_, lt := ?_ }
    · obtain ⟨m, hm⟩ := h.map
      refine ⟨m, hm.keep (far mb h.cm.1 ?_ ?_ ?_ ?_)⟩ <;> rw [h.cm.2] <;> omega
    · by_cases e : t' = t ∧ c' = c
      · obtain ⟨rfl, rfl⟩ := e; exact ho
      · rw [hL t' c' e]
        have hp := part t' c' ht' e
        have ho' := h.co t' c' ht'
        have hh : InR n t' c' := ht'
        unfold InR at hh
        refine (far _ ho'.1 ?_ ?_ ?_ ?_).trans (h.one t' c' ht') <;> rw [ho'.2] <;> omega
    · by_cases e : t' = t ∧ c' = c
      · obtain ⟨rfl, rfl⟩ := e; simpa using hr
      · simp only [e, if_false]
        rw [hL t' c' e]
        have hp := part t' c' ht' e
        have ho' := h.cr t' c' ht'
        have hh : InR n t' c' := ht'
        unfold InR at hh
        refine (h.ring t' c' ht').keep (far _ ho'.1 ?_ ?_ ?_ ?_) fun g hg => ?_
        iterate 4 (rw [ho'.2]; omega)
        have hg' := h.cv t' c' g ht' hg
        refine far g hg'.1 ?_ ?_ ?_ ?_ <;> rw [hg'.2] <;> omega
    · refine ⟨.inl h.cb.1, ?_⟩
      rw [if_neg (cne b h.cb.1 (by rw [h.cb.2]; omega))]; exact h.cb.2
    · refine ⟨.inl h.cm.1, ?_⟩
      rw [if_neg (cne mb h.cm.1 (by rw [h.cm.2]; omega))]; exact h.cm.2
    · have ho' := h.co t' c' ht'
      refine ⟨.inl ho'.1, ?_⟩
      rw [if_neg (cne _ ho'.1 (by rw [ho'.2]; omega))]; exact ho'.2
    · have ho' := h.cr t' c' ht'
      refine ⟨.inl ho'.1, ?_⟩
      rw [if_neg (cne _ ho'.1 (by rw [ho'.2]; omega))]; exact ho'.2
    · by_cases e : t' = t ∧ c' = c
      · obtain ⟨rfl, rfl⟩ := e
        simp only [and_self, if_true] at hg
        exact ⟨.inr hg, by rw [if_pos hg]⟩
      · simp only [e, if_false] at hg
        have hg' := h.cv t' c' g ht' hg
        have hp := part t' c' ht' e
        refine ⟨.inl hg'.1, ?_⟩
        rw [if_neg (cne _ hg'.1 (by rw [hg'.2]; omega))]; exact hg'.2
    · rintro k (hk | hk)
      · exact Nat.lt_of_lt_of_le (hlt k hk) hw.size
      · exact hv' k hk
  · refine hw.mono (Nat.le_refl _) ?_
    rintro k _ (rfl | rfl | rfl | e)
    · exact h.cb.1
    · exact hco.1
    · exact hcr.1
    · exact (h.cv t c k ht e).1
  · rintro k (hk | hk)
    · exact .inl hk
    · rcases hv with e | ⟨g, e, hg⟩
      · rw [e] at hk; exact .inl (h.cv t c k ht hk).1
      · rw [e] at hk; cases hk; exact .inr hg

set_option maxRecDepth 100000 in
theorem of_yes (h : QsIs w b n most room last L mb f ob rb v col F) {t c : Int} (ht : InR n t c) (wt : (Lit.int .i64 t).wf = true) (wc : (Lit.int .i64 c).wf = true) :
    Calls Try.prog 26 #[ptr b, .int .i64 t, .int .i64 c] w fun e w' => e = .returned (ptr (ob t c)) ∧ w = w' := by
  obtain ⟨m, hm⟩ := h.map
  obtain ⟨l, hl⟩ := key_of wt wc
  have hy : (f (kv t c)).getD (.pointer none) = ptr (ob t c) := by rw [h.key t c ht]; rfl
  have c0 := h.blk.cell 0
  have HM := Lib.hid (And.intro hm (And.intro hl hy))
  clear h hm hl hy ht wt wc
  go_enter Try.func26, Try.ntmps26
  go_wp2_with (refine wpList_lookup_is rfl HM.out.1 key_law (.tmp 12) (.tmp 15) rfl Try.underlying58 (zero_one _) rfl rfl HM.out.2.1 _ HM.out.2.2 ?_)
  go_ret
  exact ⟨rfl, rfl⟩
set_option maxRecDepth 100000 in
theorem of_no (h : QsIs w b n most room last L mb f ob rb v col F) {t c : Int} (ht : ¬ InR n t c) (wt : (Lit.int .i64 t).wf = true) (wc : (Lit.int .i64 c).wf = true) :
    Calls Try.prog 26 #[ptr b, .int .i64 t, .int .i64 c] w fun e w' => e = .returned (.pointer none) ∧ w = w' := by
  obtain ⟨m, hm⟩ := h.map
  obtain ⟨l, hl⟩ := key_of wt wc
  have hy : (f (kv t c)).getD (.pointer none) = .pointer none := by rw [h.keyN t c ht]; rfl
  have c0 := h.blk.cell 0
  have HM := Lib.hid (And.intro hm (And.intro hl hy))
  clear h hm hl hy ht wt wc
  go_enter Try.func26, Try.ntmps26
  go_wp2_with (refine wpList_lookup_is rfl HM.out.1 key_law (.tmp 12) (.tmp 15) rfl Try.underlying58 (zero_one _) rfl rfl HM.out.2.1 _ HM.out.2.2 ?_)
  go_ret
  exact ⟨rfl, rfl⟩
theorem of_nil (t c : Int) (w : World) : Calls Try.prog 26 #[.pointer none, .int .i64 t, .int .i64 c] w fun e w' => e = .returned (.pointer none) ∧ w = w' := by
  go_enter Try.func26, Try.ntmps26
  go_wp2_with fail
  go_ret
  exact ⟨rfl, rfl⟩

theorem len_any (h : QsIs w b n most room last L mb f ob rb v col F) (ok : QsOk n most room last L) {t c : Int} (wt : (Lit.int .i64 t).wf = true) (wc : (Lit.int .i64 c).wf = true) :
    Calls Try.prog 17 #[ptr b, .int .i64 t, .int .i64 c] w fun e w' => e = .returned (.tuple #[.int .i64 (qof L t c).length, .int .i64 (qb (qof L t c))]) ∧ Below w.heap.size w w' := by
  by_cases ht : InR n t c
  · have H1 := Lib.hid (of_yes h ht wt wc)
    have ho := h.one t c ht
    have o0 := ho.cell 0
    have o1 := ho.cell 1
    have HR := Lib.hid (fun q : Nat => (ringLen _ _ _ _ (w.drewN q) ((h.ring t c ht).keep rfl fun _ _ => rfl)).mono fun _ _ ⟨a, b⟩ => And.intro a b.symm)
    clear h ok ho ht wt wc
    go_enter Try.func17, Try.ntmps17
    go_wp2_with fail
    refine H1.out.mono ?_
    rintro e w' ⟨rfl, rfl⟩
    go_wp2_with fail
    go_quiet ((go_at_call 34; exact Calls.quiet_of_same (HR.out _)))
    go_wp2_with fail
    go_ret2
    exact ⟨rfl, below_drewN (Below.refl _ _) _⟩
  · rw [qof_nil ok ht]
    have H1 := Lib.hid (of_no h ht wt wc)
    clear h ok ht wt wc
    go_enter Try.func17, Try.ntmps17
    go_wp2_with fail
    refine H1.out.mono ?_
    rintro e w' ⟨rfl, rfl⟩
    go_wp2_with fail
    go_ret2
    exact ⟨rfl, Below.refl _ _⟩

def hd (l : List Pk) : Value := .tuple #[pV (l.headD noPk), .bool (!l.isEmpty)]
set_option maxHeartbeats 1000000 in
theorem head_any (h : QsIs w b n most room last L mb f ob rb v col F) (ok : QsOk n most room last L) {t c : Int} (wt : (Lit.int .i64 t).wf = true) (wc : (Lit.int .i64 c).wf = true) :
    Calls Try.prog 15 #[ptr b, .int .i64 t, .int .i64 c] w fun e w' => e = .returned (hd (qof L t c)) ∧ Below w.heap.size w w' := by
  by_cases ht : InR n t c
  · have hal : ∀ o, Below w.heap.size w (w.alloc o) := fun o => (Below.refl _ _).alloc (Nat.le_refl _) _
    have ho := h.one t c ht
    have hl := ho.lt
    have H1 := Lib.hid (fun o => of_yes (h.below (hal o)) ht wt wc)
    have HR := Lib.hid (h.ring t c ht)
    have HO := Lib.hid ho
    clear h ok ht wt wc ho
    generalize qof L t c = l at *
    go_enter Try.func15, Try.ntmps15
    go_wp2_with fail
    refine (H1.out _).mono ?_
    rintro e w' ⟨rfl, rfl⟩
    generalize hW : World.alloc _ _ = W1
    have bw : Below w.heap.size w W1 := by rw [← hW]; exact hal _
    have z : Blk W1 w.heap.size 37 #[.int .u64 0, .int .i64 0, .int .i64 0, .string ByteArray.empty, .int .u64 0] := by rw [← hW]; exact Blk.new _ _ _
    have hsz : w.heap.size < W1.heap.size := by rw [← hW]; simp
    have ho1 := HO.out.below bw hl
    have o0 := ho1.cell 0
    have hr1 := HR.out.keep (bw.block _ HR.out.1.lt) fun g hg => bw.block g (HR.out.2.1.lt g hg).2
    have HZ := Lib.hid (And.intro z (And.intro bw (And.intro hr1 hsz)))
    clear hal z bw hr1 ho1 hsz hW
    cases l with
    | nil =>
      go_wp2_with fail
      refine (ringFirst_nil _ _ _ _ HZ.out.2.2.1).mono ?_
      rintro e w2 ⟨rfl, hb⟩
      have z2 := HZ.out.1.below hb HZ.out.2.2.2
      have b2 := HZ.out.2.1.trans (hb.mono (Nat.le_of_lt HZ.out.2.2.2))
      have z0 := z2.cell 0
      have z1 := z2.cell 1
      have z3 := z2.cell 2
      have z4 := z2.cell 3
      have z5 := z2.cell 4
      have k0 := z2.frozen
      have hl2 := z2.lt
      have H2 := Lib.hid (And.intro z2 b2)
      clear hb z2 b2
      go_wp2_with fail
      have zf := (((((H2.out.1.set_ 0 (.int .u64 noPk.1)).set_ 1 (.int .i64 noPk.2.1.1)).set_ 2 (.int .i64 noPk.2.1.2.1)).set_ 3 (.string noPk.2.1.2.2)).set_ 4 (.int .u64 noPk.2.2)).same (cs' := #[.int .u64 noPk.1, .int .i64 noPk.2.1.1, .int .i64 noPk.2.1.2.1, .string noPk.2.1.2.2, .int .u64 noPk.2.2]) (by simp only [List.setIfInBounds_toArray, List.set_cons_succ, List.set_cons_zero])
      refine bodyPost_ret (res_cell_tmp rfl _ _ w.heap.size 37 _ _ rfl zf Try.underlying37 rfl (by kernel_rfl)) rfl ⟨rfl, ?_⟩
      exact ((((H2.out.2.setCell (p := ⟨w.heap.size, 0, none⟩) (Nat.le_refl _) _).setCell (p := ⟨w.heap.size, 1, none⟩) (Nat.le_refl _) _).setCell (p := ⟨w.heap.size, 2, none⟩) (Nat.le_refl _) _).setCell (p := ⟨w.heap.size, 3, none⟩) (Nat.le_refl _) _).setCell (p := ⟨w.heap.size, 4, none⟩) (Nat.le_refl _) _
    | cons p l =>
      obtain ⟨no, ⟨pt, pc, ps⟩, pat⟩ := p
      go_wp2_with fail
      refine (ringFirst _ _ _ _ _ _ HZ.out.2.2.1).mono ?_
      rintro e w2 ⟨rfl, hb⟩
      have z2 := HZ.out.1.below hb HZ.out.2.2.2
      have b2 := HZ.out.2.1.trans (hb.mono (Nat.le_of_lt HZ.out.2.2.2))
      have z0 := z2.cell 0
      have z1 := z2.cell 1
      have z3 := z2.cell 2
      have z4 := z2.cell 3
      have z5 := z2.cell 4
      have k0 := z2.frozen
      have hl2 := z2.lt
      have H2 := Lib.hid (And.intro z2 b2)
      clear hb z2 b2
      go_wp2_with fail
      have zf := (((((H2.out.1.set_ 0 (.int .u64 no)).set_ 1 (.int .i64 pt)).set_ 2 (.int .i64 pc)).set_ 3 (.string ps)).set_ 4 (.int .u64 pat)).same (cs' := #[.int .u64 no, .int .i64 pt, .int .i64 pc, .string ps, .int .u64 pat]) (by simp only [List.setIfInBounds_toArray, List.set_cons_succ, List.set_cons_zero])
      refine bodyPost_ret (res_cell_tmp rfl _ _ w.heap.size 37 _ _ rfl zf Try.underlying37 rfl (by kernel_rfl)) rfl ⟨rfl, ?_⟩
      exact ((((H2.out.2.setCell (p := ⟨w.heap.size, 0, none⟩) (Nat.le_refl _) _).setCell (p := ⟨w.heap.size, 1, none⟩) (Nat.le_refl _) _).setCell (p := ⟨w.heap.size, 2, none⟩) (Nat.le_refl _) _).setCell (p := ⟨w.heap.size, 3, none⟩) (Nat.le_refl _) _).setCell (p := ⟨w.heap.size, 4, none⟩) (Nat.le_refl _) _
  · rw [qof_nil ok ht]
    have H1 := Lib.hid (fun o => of_no (h.below ((Below.refl _ _).alloc (Nat.le_refl _) o)) ht wt wc)
    clear h ok ht wt wc
    go_enter Try.func15, Try.ntmps15
    go_wp2_with fail
    refine (H1.out _).mono ?_
    rintro e w' ⟨rfl, rfl⟩
    generalize hW : World.alloc _ _ = W1
    have bw : Below w.heap.size w W1 := by rw [← hW]; exact (Below.refl _ _).alloc (Nat.le_refl _) _
    have z2 : Blk W1 w.heap.size 37 #[.int .u64 0, .int .i64 0, .int .i64 0, .string ByteArray.empty, .int .u64 0] := by rw [← hW]; exact Blk.new _ _ _
    have z0 := z2.cell 0
    have z1 := z2.cell 1
    have z3 := z2.cell 2
    have z4 := z2.cell 3
    have z5 := z2.cell 4
    have k0 := z2.frozen
    have hl2 := z2.lt
    have H2 := Lib.hid (And.intro z2 bw)
    clear z2 bw hW
    go_wp2_with fail
    have zf := (((((H2.out.1.set_ 0 (.int .u64 0)).set_ 1 (.int .i64 0)).set_ 2 (.int .i64 0)).set_ 3 (.string { data := #[] })).set_ 4 (.int .u64 0)).same (cs' := #[.int .u64 0, .int .i64 0, .int .i64 0, .string { data := #[] }, .int .u64 0]) (by simp only [List.setIfInBounds_toArray, List.set_cons_succ, List.set_cons_zero])
    refine bodyPost_ret (res_cell_tmp rfl _ _ w.heap.size 37 _ _ rfl zf Try.underlying37 rfl (by kernel_rfl)) rfl ⟨rfl, ?_⟩
    exact ((((H2.out.2.setCell (p := ⟨w.heap.size, 0, none⟩) (Nat.le_refl _) _).setCell (p := ⟨w.heap.size, 1, none⟩) (Nat.le_refl _) _).setCell (p := ⟨w.heap.size, 2, none⟩) (Nat.le_refl _) _).setCell (p := ⟨w.heap.size, 3, none⟩) (Nat.le_refl _) _).setCell (p := ⟨w.heap.size, 4, none⟩) (Nat.le_refl _) _
end

end Go.Proofs.Ytkeiafiembfaeaa
