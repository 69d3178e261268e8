/- Take. -/
import Derived.Test.YtkeiafiembfaeaaQuG
set_option linter.unusedSimpArgs false
set_option linter.unusedVariables false
namespace Go.Proofs.Ytkeiafiembfaeaa
open Go.RowKit
attribute [local irreducible] wpMix


/-- The first of a queue taken out of all that wait. -/
def qdrop (L : List Pk) (t c : Int) : List Pk := L.eraseP (inq t c)
theorem qof_drop_same (L : List Pk) (t c : Int) : qof (qdrop L t c) t c = (qof L t c).drop 1 := by
  unfold qof qdrop
  induction L with
  | nil => rfl
  | cons p L ih =>
    by_cases h : inq t c p = true
    · rw [List.eraseP_cons_of_pos h, List.filter_cons, if_pos h]; rfl
    · rw [List.eraseP_cons_of_neg h, List.filter_cons, if_neg h, List.filter_cons, if_neg h, ih]
theorem qof_drop_other (L : List Pk) {t c t' c' : Int} (hn : ¬ (t' = t ∧ c' = c)) : qof (qdrop L t c) t' c' = qof L t' c' := by
  unfold qof qdrop
  induction L with
  | nil => rfl
  | cons p L ih =>
    by_cases h : inq t c p = true
    · have h' : ¬ inq t' c' p = true := by
        simp only [inq, Bool.and_eq_true, beq_iff_eq] at h ⊢
        rintro ⟨e1, e2⟩
        exact hn ⟨e1.symm.trans h.1, e2.symm.trans h.2⟩
      rw [List.eraseP_cons_of_pos h, List.filter_cons, if_neg h']
    · rw [List.eraseP_cons_of_neg h, List.filter_cons, List.filter_cons, ih]

/-- What Take leaves. -/
def TakePost (w : World) (b : Nat) (n most room last : Int) (L : List Pk) (t c : Int) (F : Nat → Prop) (e : Ending) (w' : World) : Prop :=
  e = .returned (hd (qof L t c)) ∧ Acts (QsT b n most room last (qdrop L t c)) F w w'

section
variable {w W : World} {b : Nat} {n most room last : Int} {L : List Pk} {mb : Nat} {f : Value → Option Value} {ob rb : Int → Int → Nat} {v : Int → Int → Value} {col : Nat → Int} {F : Nat → Prop} {g : Nat} {t c ti : Int} {s : ByteArray}

theorem qdrop_nil (h : qof L t c = []) : qdrop L t c = L := by
  unfold qof at h
  rw [List.filter_eq_nil_iff] at h
  exact List.eraseP_of_forall_not h
theorem QsIs.stay (h : QsIs w b n most room last L mb f ob rb v col F) {w' : World} (hb : Below w.heap.size w w') : Acts (QsT b n most room last L) F w w' :=
  ⟨F, ⟨mb, f, ob, rb, v, col, h.below hb⟩, .of_below hb, fun _ hk => .inl hk⟩

set_option maxRecDepth 100000 in
set_option maxHeartbeats 1000000 in
theorem take_no (h : QsIs w b n most room last L mb f ob rb v col F) (ok : QsOk n most room last L) (hR : ¬ InR n t c) (wt : (Lit.int .i64 t).wf = true) (wc : (Lit.int .i64 c).wf = true) :
    Calls Try.prog 13 #[ptr b, .int .i64 t, .int .i64 c] w (TakePost w b n most room last L t c F) := by
  unfold TakePost
  rw [qdrop_nil (qof_nil ok hR), qof_nil ok hR]
  have H0 := Lib.hid h
  have H1 := Lib.hid (fun o => of_no (h.below ((Below.refl _ _).alloc (Nat.le_refl _) o)) hR wt wc)
  clear h ok hR wt wc
  go_enter Try.func13, Try.ntmps13
  go_wp2_with fail
  refine (H1.out _).mono ?_
  rintro e w' ⟨rfl, rfl⟩
  generalize hW : World.alloc _ _ = W1
  have bw : Below w.heap.size w W1 := by rw [← hW]; exact (Below.refl _ _).alloc (Nat.le_refl _) _
  have z2 : Blk W1 w.heap.size 37 #[.int .u64 0, .int .i64 0, .int .i64 0, .string ByteArray.empty, .int .u64 0] := by rw [← hW]; exact Blk.new _ _ _
  have z0 := z2.cell 0
  have z1 := z2.cell 1
  have z3 := z2.cell 2
  have z4 := z2.cell 3
  have z5 := z2.cell 4
  have k0 := z2.frozen
  have hl2 := z2.lt
  have H2 := Lib.hid (And.intro z2 bw)
  clear z2 bw hW
  go_wp2_with fail
  have zf := (((((H2.out.1.set_ 0 (.int .u64 0)).set_ 1 (.int .i64 0)).set_ 2 (.int .i64 0)).set_ 3 (.string { data := #[] })).set_ 4 (.int .u64 0)).same (cs' := #[.int .u64 0, .int .i64 0, .int .i64 0, .string { data := #[] }, .int .u64 0]) (by simp only [List.setIfInBounds_toArray, List.set_cons_succ, List.set_cons_zero])
  have bf := ((((H2.out.2.setCell (p := ⟨w.heap.size, 0, none⟩) (Nat.le_refl _) (.int .u64 0)).setCell (p := ⟨w.heap.size, 1, none⟩) (Nat.le_refl _) (.int .i64 0)).setCell (p := ⟨w.heap.size, 2, none⟩) (Nat.le_refl _) (.int .i64 0)).setCell (p := ⟨w.heap.size, 3, none⟩) (Nat.le_refl _) (.string { data := #[] })).setCell (p := ⟨w.heap.size, 4, none⟩) (Nat.le_refl _) (.int .u64 0)
  refine bodyPost_ret (res_cell_tmp rfl _ _ w.heap.size 37 _ _ rfl zf Try.underlying37 rfl (by kernel_rfl)) rfl ⟨rfl, ?_⟩
  exact H0.out.stay bf

theorem ringTake_any (g : Nat) (r : Int) (x : Value) (l : List Pk) (w : World) (h : RingAt w g r x l) : Calls Try.prog 38 #[ptr g] w fun e w' => e = .returned (hd l) ∧ RingTook g r x (l.drop 1) w w' := by
  cases l with
  | nil =>
    refine (ringTake_nil g r x w h).mono ?_
    rintro e w' ⟨rfl, hb⟩
    exact ⟨rfl, x, h.keep (hb.block _ h.1.lt) fun k hk => hb.block k (h.2.1.lt k hk).2, .of_below hb, rfl⟩
  | cons p l => exact ringTake g r x p l w h

set_option maxRecDepth 100000 in
set_option maxHeartbeats 1000000 in
theorem take_yes (h : QsIs w b n most room last L mb f ob rb v col F) (ok : QsOk n most room last L) (hR : InR n t c) (wt : (Lit.int .i64 t).wf = true) (wc : (Lit.int .i64 c).wf = true) :
    Calls Try.prog 13 #[ptr b, .int .i64 t, .int .i64 c] w (TakePost w b n most room last L t c F) := by
  unfold TakePost
  have H0 := Lib.hid (And.intro h (And.intro ok hR))
  have H1 := Lib.hid (fun o => of_yes (h.below ((Below.refl _ _).alloc (Nat.le_refl _) o)) hR wt wc)
  clear h ok hR wt wc
  go_enter Try.func13, Try.ntmps13
  go_wp2_with fail
  refine (H1.out _).mono ?_
  rintro e w' ⟨rfl, rfl⟩
  generalize hW : World.alloc _ _ = W1
  have bw : Below w.heap.size w W1 := by rw [← hW]; exact (Below.refl _ _).alloc (Nat.le_refl _) _
  have z : Blk W1 w.heap.size 37 #[.int .u64 0, .int .i64 0, .int .i64 0, .string ByteArray.empty, .int .u64 0] := by rw [← hW]; exact Blk.new _ _ _
  have h1 := H0.out.1.below bw
  have hR := H0.out.2.2
  have ho := h1.one t c hR
  have o0 := ho.cell 0
  have hT := ringTake_any _ _ _ _ _ (h1.ring t c hR)
  have hco := h1.co t c hR
  have hcr := h1.cr t c hR
  have hrr := hR
  unfold InR at hrr
  have nob : ¬ (ob t c = rb t c ∨ (v t c).ownBlock = some (ob t c)) := by
    rintro (e | e)
    · have := hcr.2; rw [← e, hco.2] at this; omega
    · have := (h1.cv t c _ hR e).2; rw [hco.2] at this; omega
  have nb : ¬ (b = rb t c ∨ (v t c).ownBlock = some b) := by
    rintro (e | e)
    · have := hcr.2; rw [← e, h1.cb.2] at this; omega
    · have := (h1.cv t c _ hR e).2; rw [h1.cb.2] at this; omega
  have nw : ¬ (w.heap.size = rb t c ∨ (v t c).ownBlock = some w.heap.size) := by
    rintro (e | e)
    · have := H0.out.1.lt _ hcr.1; omega
    · have := H0.out.1.lt _ (h1.cv t c _ hR e).1; omega
  have hbo : b ≠ ob t c := fun e => by have := hco.2; rw [← e, h1.cb.2] at this; omega
  have hro : rb t c ≠ ob t c := fun e => by have := hco.2; rw [← e, hcr.2] at this; omega
  have hvo : ∀ g, (v t c).ownBlock = some g → g ≠ ob t c := fun g hg e => by have := (h1.cv t c g hR hg).2; rw [e, hco.2] at this; omega
  have hol := H0.out.1.lt _ hco.1
  have hwl : w.heap.size < W1.heap.size := z.lt
  have hby := H0.out.2.1.bytes t c
  have hrm := H0.out.2.1.r2
  have HK := Lib.hid (And.intro bw (And.intro z (And.intro h1 (And.intro ho (And.intro nob (And.intro nb (And.intro nw (And.intro hbo (And.intro hro (And.intro hvo (And.intro hby hrm)))))))))))
  have HT := Lib.hid hT
  clear bw z h1 ho hco hcr hrr nob nb nw hbo hro hvo hT hW hby hrm
  have hq1 := qof_drop_same L t c
  have hq2 : ∀ t' c', ¬ (t' = t ∧ c' = c) → qof (qdrop L t c) t' c' = qof L t' c' := fun t' c' hn => qof_drop_other L hn
  have HQ := Lib.hid (And.intro hq1 hq2)
  clear hq1 hq2
  have hqb : (qb (qof L t c) : Int) - ((qof L t c).headD noPk).2.1.2.2.size = qb ((qof L t c).drop 1) := by
    cases qof L t c with
    | nil => simp [qb, noPk]
    | cons p l => simp [qb]; omega
  have hqc : qb ((qof L t c).drop 1) ≤ qb (qof L t c) := by
    cases qof L t c with
    | nil => simp [qb]
    | cons p l => simp [qb]
  obtain ⟨y, hy⟩ : ∃ y, qb ((qof L t c).drop 1) = y := ⟨_, rfl⟩
  rw [hy] at hqb hqc
  have HYY := Lib.hid hy
  clear hy
  have HB := Lib.hid (And.intro hqb hqc)
  clear hqb hqc
  go_wp2_with fail
  refine HT.out.mono ?_
  rintro e w2 ⟨rfl, v', hr, hb, hv⟩
  obtain ⟨bw, z, h1, ho, nob, nb, nw, hbo, hro, hvo, hby, hrm⟩ := HK.out
  have z2 := hb.blk hwl nw z
  have o2 := hb.blk ho.lt nob ho
  have b2 := hb.blk h1.blk.lt nb h1.blk
  have hh := hb.size
  have H3 := Lib.hid (And.intro hr (And.intro hb (And.intro hv (And.intro z2 (And.intro o2 (And.intro b2 hh))))))
  clear hr hb hv z2 o2 b2 bw z h1 ho nob nb nw hbo hro hvo hby hrm HT o0
  unfold hd
  generalize hp : (qof L t c).headD noPk = p at *
  generalize hi : (!(qof L t c).isEmpty) = is at *
  obtain ⟨no, ⟨pt, pc, ps⟩, pat⟩ := p
  have HPI := Lib.hid (And.intro hp hi)
  clear hp hi
  go_upto_region 5 with fail
  generalize hW : World.alloc _ _ = W3
  obtain ⟨hr, hb, hv, z2, o2, b2, hh⟩ := H3.out
  have bw3 : Below w2.heap.size w2 W3 := by rw [← hW]; exact (Below.refl _ _).alloc (Nat.le_refl _) _
  have y3 : Blk W3 w2.heap.size 37 #[.int .u64 no, .int .i64 pt, .int .i64 pc, .string ps, .int .u64 pat] := by rw [← hW]; exact Blk.new _ _ _
  have z3 := z2.below bw3 z2.lt
  have o3 := o2.below bw3 o2.lt
  have b3 := b2.below bw3 b2.lt
  have r3 := hr.keep (bw3.block _ hr.1.lt) fun g hg => bw3.block g (hr.2.1.lt g hg).2
  have d3 := hb.trans ((But.of_below bw3).mono hh fun _ _ h => h)
  clear hW
  have hqb := HB.out.1
  have hqc := HB.out.2
  have hby : (qb (qof L t c) : Int) ≤ 1000000 := by have := HK.out.2.2.2.2.2.2.2.2.2.2; omega
  have hw : IntKind.i64.wrap ((qb (qof L t c) : Int) - ps.size) = y := by rw [show ((qb (qof L t c) : Int) - ps.size) = y from hqb]; exact IntWalk.i64_in _ (by omega)
  have q1 : ∀ X : Cls fun W => Below W3.heap.size W3 W, X.W.cell? ⟨ob t c, 1, none⟩ = some (.int .i64 (qb (qof L t c))) := fun X => (sub_cell X _ _ o3.lt).trans (o3.cell 1)
  have q2 : ∀ X : Cls fun W => Below W3.heap.size W3 W, X.W.cell? ⟨w2.heap.size, 3, none⟩ = some (.string ps) := fun X => (sub_cell X _ _ y3.lt).trans (y3.cell 3)
  have f0 := o3.frozen
  have o1 := o3.cell 1
  have hol2 : ob t c < w2.heap.size := o2.lt
  have hwl2 : w.heap.size < w2.heap.size := z2.lt
  have H4 := Lib.hid (And.intro bw3 (And.intro y3 (And.intro z3 (And.intro o3 (And.intro b3 (And.intro r3 (And.intro d3 hv)))))))
  clear bw3 y3 z3 o3 b3 r3 d3 hr hb hv z2 o2 b2 hh hqb hqc hby
  refine wp_region_sub [10] (fun W => Below W3.heap.size W3 W) (by kernel_rfl) (by kernel_rfl) ((Below.refl _ _).drew) (fun _ => ?_)
  iterate 10 (refine mix_read (by kernel_rfl) (by rfl) (by rfl) (by rfl) (of_decide_eq_true (by kernel_rfl)) ?_; apply Exists.intro; apply Exists.intro; refine ⟨fun w' hw' K hK => ?_, ?_, ?_⟩; (obtain ⟨X, rfl⟩ := hw'; go_wp2_with fail; first | exact ⟨rfl, rfl⟩ | exact rfl); rfl)
  (refine mix_last (by rfl) (by rfl) (by kernel_rfl) (fun K hK => ?_))
  clear q1 q2 hw
  obtain ⟨bw3, y3, z3, o3, b3, r3, d3, hv⟩ := H4.out
  have hbo := HK.out.2.2.2.2.2.2.2.1
  have hro := HK.out.2.2.2.2.2.2.2.2.1
  have hvo := HK.out.2.2.2.2.2.2.2.2.2.1
  have x1 := (o3.set_ 1 (.int .i64 y)).same (cs' := #[ptr (rb t c), .int .i64 y]) (by simp only [List.setIfInBounds_toArray, List.set_cons_succ, List.set_cons_zero])
  have x2 := b3.far (p := ⟨ob t c, 1, none⟩) hbo (.int .i64 y)
  have x3 := y3.far (p := ⟨ob t c, 1, none⟩) (show w2.heap.size ≠ ob t c by omega) (.int .i64 y)
  have x4 := z3.far (p := ⟨ob t c, 1, none⟩) (show w.heap.size ≠ ob t c by omega) (.int .i64 y)
  have x5 : RingAt (W3.setCell ⟨ob t c, 1, none⟩ (.int .i64 y)) (rb t c) most v' ((qof L t c).drop 1) :=
    r3.keep (Below.heap_setCell _ _ _ _ hro) fun g hg => Below.heap_setCell _ _ _ _ (hvo g (by rw [← hv]; exact hg))
  have x6 := ((But.of_below HK.out.1).trans ((d3.mono (S' := fun k => k = b ∨ k = ob t c ∨ k = rb t c ∨ (v t c).ownBlock = some k) (Nat.le_of_lt hwl) fun k _ h => .inr (.inr h)))).setCell (p := ⟨ob t c, 1, none⟩) (fun _ => .inr (.inl rfl)) (.int .i64 y)
  obtain ⟨W4, hW4⟩ : ∃ W4, W3.setCell ⟨ob t c, 1, none⟩ (.int .i64 y) = W4 := ⟨_, rfl⟩
  rw [hW4] at x1 x2 x3 x4 x5 x6
  have c0 := x3.cell 0
  have c1 := x3.cell 1
  have c2 := x3.cell 2
  have c3 := x3.cell 3
  have c4 := x3.cell 4
  have e0 := x4.cell 0
  have e1 := x4.cell 1
  have e2 := x4.cell 2
  have e3 := x4.cell 3
  have e4 := x4.cell 4
  have f4 := x4.frozen
  have hWl := x4.lt
  have H5 := Lib.hid (And.intro x1 (And.intro x2 (And.intro x4 (And.intro x5 (And.intro x6 hv)))))
  clear x1 x2 x3 x4 x5 x6 hv bw3 y3 z3 o3 b3 r3 d3 hbo hro hvo
  go_wp2_with fail
  obtain ⟨x1, x2, x4, x5, x6, hv⟩ := H5.out
  have hlb : b < w.heap.size := H0.out.1.lt _ H0.out.1.cb.1
  have zf := (((((x4.set_ 0 (.int .u64 no)).set_ 1 (.int .i64 pt)).set_ 2 (.int .i64 pc)).set_ 3 (.string ps)).set_ 4 (.int .u64 pat)).drew.same (cs' := #[.int .u64 no, .int .i64 pt, .int .i64 pc, .string ps, .int .u64 pat]) (by simp only [List.setIfInBounds_toArray, List.set_cons_succ, List.set_cons_zero])
  have far : ∀ k, k ≠ w.heap.size → (((((W4.setCell ⟨w.heap.size, 0, none⟩ (.int .u64 no)).setCell ⟨w.heap.size, 1, none⟩ (.int .i64 pt)).setCell ⟨w.heap.size, 2, none⟩ (.int .i64 pc)).setCell ⟨w.heap.size, 3, none⟩ (.string ps)).setCell ⟨w.heap.size, 4, none⟩ (.int .u64 pat)).drew.heap[k]? = W4.heap[k]? := fun k hk =>
    (Below.heap_setCell _ ⟨w.heap.size, 4, none⟩ _ _ hk).trans ((Below.heap_setCell _ ⟨w.heap.size, 3, none⟩ _ _ hk).trans ((Below.heap_setCell _ ⟨w.heap.size, 2, none⟩ _ _ hk).trans ((Below.heap_setCell _ ⟨w.heap.size, 1, none⟩ _ _ hk).trans (Below.heap_setCell _ ⟨w.heap.size, 0, none⟩ _ _ hk))))
  have bf := (((((x6.setCell (p := ⟨w.heap.size, 0, none⟩) (fun h => absurd h (Nat.lt_irrefl _)) (.int .u64 no)).setCell (p := ⟨w.heap.size, 1, none⟩) (fun h => absurd h (Nat.lt_irrefl _)) (.int .i64 pt)).setCell (p := ⟨w.heap.size, 2, none⟩) (fun h => absurd h (Nat.lt_irrefl _)) (.int .i64 pc)).setCell (p := ⟨w.heap.size, 3, none⟩) (fun h => absurd h (Nat.lt_irrefl _)) (.string ps)).setCell (p := ⟨w.heap.size, 4, none⟩) (fun h => absurd h (Nat.lt_irrefl _)) (.int .u64 pat)).drew
  refine bodyPost_ret (res_cell_tmp rfl _ _ w.heap.size 37 _ _ rfl zf Try.underlying37 rfl (by kernel_rfl)) rfl ⟨?_, ?_⟩
  · unfold hd
    rw [HPI.out.1, HPI.out.2]; rfl
  · refine H0.out.1.acted H0.out.2.2 (v' := v') ((far b (by omega)).trans x2) ?_ ?_ bf (.inl hv) HQ.out.2
    · refine (far _ (by omega)).trans (x1.same ?_)
      rw [HQ.out.1, HYY.out]
    · rw [HQ.out.1]
      exact x5.keep (far _ (by have := H0.out.1.lt _ (H0.out.1.cr t c H0.out.2.2).1; omega)) fun g hg => far _ (by rw [hv] at hg; have := H0.out.1.lt _ (H0.out.1.cv t c g H0.out.2.2 hg).1; omega)

theorem take_any (h : QsIs w b n most room last L mb f ob rb v col F) (ok : QsOk n most room last L) (wt : (Lit.int .i64 t).wf = true) (wc : (Lit.int .i64 c).wf = true) :
    Calls Try.prog 13 #[ptr b, .int .i64 t, .int .i64 c] w (TakePost w b n most room last L t c F) := by
  by_cases hR : InR n t c
  · exact take_yes h ok hR wt wc
  · exact take_no h ok hR wt wc
end

end Go.Proofs.Ytkeiafiembfaeaa
