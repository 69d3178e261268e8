/- Heads. -/
import Derived.Test.YtkeiafiembfaeaaQuJ
import Derived.Test.YtkeiafiembfaeaaSortK
import Derived.Test.YtkeiafiembfaeaaSortL
import Derived.Shelf.SlSortCmp.NoneTotal
set_option linter.unusedSimpArgs false
set_option linter.unusedVariables false
namespace Go.Proofs.Ytkeiafiembfaeaa
open Go.RowKit Go.Shelf Go.Sort
attribute [local irreducible] wpMix

/-! ## Plain -/
/-- The heads of all queues, in order. -/
def heads (L : List Pk) : List Pk := L.filter fun p => decide ((qof L p.2.1.1 p.2.1.2.1).head? = some p)
open Classical in
noncomputable def headK (L : List Pk) (k : Value) : Option Pk := L.find? fun p => decide (kv p.2.1.1 p.2.1.2.1 = k)
noncomputable def hsOf (L : List Pk) (done : List Value) : List Pk := done.filterMap (headK L)
theorem kv_inj {t c t' c' : Int} (h : kv t c = kv t' c') : t = t' ∧ c = c' := by
  unfold kv at h
  simp only [Value.agg.injEq, Array.mk.injEq, List.cons.injEq, Value.int.injEq, true_and, and_true] at h
  exact h
theorem headK_kv (L : List Pk) (t c : Int) : headK L (kv t c) = (qof L t c).head? := by
  unfold headK qof
  rw [List.head?_filter]
  congr 1
  funext p
  rw [Bool.eq_iff_iff]
  simp only [decide_eq_true_eq, inq, Bool.and_eq_true, beq_iff_eq]
  constructor
  · exact fun h => kv_inj h
  · rintro ⟨h1, h2⟩; rw [h1, h2]
theorem headK_some {L : List Pk} {k : Value} {p : Pk} (h : headK L k = some p) : p ∈ L ∧ kv p.2.1.1 p.2.1.2.1 = k := by
  unfold headK at h
  exact ⟨List.mem_of_find?_eq_some h, by simpa using List.find?_some h⟩
theorem hsOf_snoc (L : List Pk) (done : List Value) (t c : Int) : hsOf L (done ++ [kv t c]) = hsOf L done ++ (qof L t c).head?.toList := by
  unfold hsOf
  rw [List.filterMap_append, List.filterMap_cons, headK_kv]
  cases (qof L t c).head? <;> rfl
theorem hsOf_rise {L : List Pk} {done : List Value} {d : List Pk} (hnos : L.Pairwise (fun p q => p.1 < q.1)) (hnd : done.Nodup) (hp : d.Perm (hsOf L done)) (hs : d.Pairwise (fun p q => ¬ q.1 < p.1)) (hall : ∀ p ∈ L, kv p.2.1.1 p.2.1.2.1 ∈ done) : d = heads L := by
  have hone : ∀ p q, p ∈ L → q ∈ L → p.1 = q.1 → p = q := by
    intro p q hp hq e
    obtain ⟨i, hi, rfl⟩ := List.getElem_of_mem hp
    obtain ⟨j, hj, rfl⟩ := List.getElem_of_mem hq
    rcases Nat.lt_trichotomy i j with h | h | h
    · have := List.pairwise_iff_getElem.1 hnos i j hi hj h; omega
    · subst h; rfl
    · have := List.pairwise_iff_getElem.1 hnos j i hj hi h; omega
  have hmem : ∀ p, p ∈ hsOf L done → p ∈ L := fun p hp => by
    obtain ⟨k, _, hk⟩ := List.mem_filterMap.1 hp
    exact (headK_some hk).1
  have hdist : (hsOf L done).Pairwise (fun p q => p ≠ q) := by
    refine List.Pairwise.filterMap _ (fun a a' hne p hp q hq e => ?_) hnd
    subst e
    exact hne ((headK_some hp).2.symm.trans (headK_some hq).2)
  have hdist' : d.Pairwise (fun p q => p ≠ q) := (hp.pairwise_iff (fun h => Ne.symm h)).2 hdist
  refine rise_ext (fun p : Pk => p.1) ?_ (List.Pairwise.filter _ hnos) fun p => ?_
  · have hb := List.Pairwise.and hs hdist'
    refine List.Pairwise.imp_of_mem (fun {p q} h1 h2 h => ?_) hb
    have hpL := hmem p (hp.mem_iff.1 h1)
    have hqL := hmem q (hp.mem_iff.1 h2)
    have hne : p.1 ≠ q.1 := fun e => h.2 (hone p q hpL hqL e)
    have := h.1
    omega
  · rw [hp.mem_iff]
    unfold heads
    rw [List.mem_filter, decide_eq_true_eq]
    constructor
    · intro h
      obtain ⟨k, _, hk⟩ := List.mem_filterMap.1 h
      have := headK_some hk
      refine ⟨this.1, ?_⟩
      rw [← headK_kv, this.2]; exact hk
    · rintro ⟨h1, h2⟩
      refine List.mem_filterMap.2 ⟨_, hall p h1, ?_⟩
      rw [headK_kv]; exact h2

/-! ## The comparison -/
def cfPk (x y : Pk) : Int := if x.1 < y.1 then -1 else 1
theorem ltPk (x y : Pk) : ltOf cfPk x y = decide (x.1 < y.1) := by
  unfold ltOf cfPk
  by_cases h : x.1 < y.1 <;> simp [h]
theorem swoPk : SWO (ltOf cfPk) where
  irrefl x := by rw [ltPk]; simp
  trans x y z h1 h2 := by rw [ltPk] at *; simp at *; omega
  ntrans x y z h1 h2 := by rw [ltPk] at *; simp at *; omega
theorem heads1 (x y : Pk) (W : World) : Calls Try.prog 42 #[.agg (pC x).toArray, .agg (pC y).toArray] W fun e w' => e = .returned (.int .i64 (cfPk x y)) ∧ ∃ q os, w' = grow (W.drewN q) os := by
  obtain ⟨a, ⟨a1, a2, a3⟩, a4⟩ := x
  obtain ⟨b, ⟨b1, b2, b3⟩, b4⟩ := y
  have e1 : ∀ o1 o2, ∃ q os, (W.alloc o1).alloc o2 = grow (W.drewN q) os := fun o1 o2 => ⟨0, #[o1, o2], by rw [alloc_eq_grow, alloc_eq_grow, grow_grow]; rfl⟩
  unfold cfPk pC
  have HE := Lib.hid e1
  clear e1
  by_cases h : a < b
  · have hd : decide (a < b) = true := decide_eq_true h
    simp only [h, if_true]
    clear h
    go_enter Try.func42, Try.ntmps42
    go_wp2_with fail
    go_ret
    exact ⟨rfl, HE.out _ _⟩
  · have hd : decide (a < b) = false := decide_eq_false h
    simp only [h, if_false]
    clear h
    go_enter Try.func42, Try.ntmps42
    go_wp2_with fail
    go_ret
    exact ⟨rfl, HE.out _ _⟩

section
variable {w w' : World} {b : Nat} {n most room last : Int} {L : List Pk} {mb : Nat} {f : Value → Option Value} {ob rb : Int → Int → Nat} {v : Int → Int → Value} {col : Nat → Int} {F : Nat → Prop}

theorem heads_nil (w : World) : Calls Try.prog 21 #[.pointer none] w fun e w' => e = .returned (.slice none 0 0) ∧ w = w' := by
  go_enter Try.func21, Try.ntmps21
  go_wp2_with fail
  go_ret
  exact ⟨rfl, rfl⟩

theorem hsOf_le (L : List Pk) (done : List Value) (t c : Int) (hnd : kv t c ∉ done) (h : (hsOf L done).length ≤ (come L done).length) : (hsOf L (done ++ [kv t c])).length ≤ (come L (done ++ [kv t c])).length := by
  rw [hsOf_snoc, come_snoc L done t c hnd, List.length_append]
  cases qof L t c with
  | nil => simpa using h
  | cons p l => simp; omega

theorem OwnsAt.base {w : World} {base base' : Nat} {e : TypeId} {size n : Nat} {v : Value} {xs : List Value} (h : OwnsAt w base e size v n xs) (hb : base' ≤ base) : OwnsAt w base' e size v n xs :=
  ⟨h.1, h.2.imp id fun ⟨g, off, cap, cur, h1, h2, h3⟩ => ⟨g, off, cap, cur, h1, Nat.le_trans hb h2, h3⟩⟩
theorem permIn_list {l : List Pk} {d' : Array Pk} (h : PermIn 0 l.length l.toArray d') : d'.toList.Perm l := by
  obtain ⟨h1, _, h3⟩ := h
  have hs : d'.size = l.length := by simpa using h1
  have e1 : (d'.extract 0 l.length) = d' := by rw [← hs]; simp
  have e2 : (l.toArray.extract 0 l.length) = l.toArray := by rw [show l.length = l.toArray.size by simp]; simp
  rw [e1, e2] at h3
  simpa using h3
theorem sortedIn_list {l : List Pk} {d' : Array Pk} (h : PermIn 0 l.length l.toArray d') (hs : SortedIn (ltOf cfPk) 0 l.length d') : d'.toList.Pairwise (fun p q => ¬ q.1 < p.1) := by
  have hz : d'.size = l.length := by simpa using h.1
  rw [List.pairwise_iff_getElem]
  intro i j hi hj hij
  have hi' : i < d'.size := by simpa using hi
  have hj' : j < d'.size := by simpa using hj
  have := hs i j (Nat.zero_le _) hij (by omega)
  rw [ltPk, getElem!_pos d' i hi', getElem!_pos d' j hj', decide_eq_false_iff_not] at this
  simpa using this
/-- What Heads leaves: a slice of its own, of all heads. -/
def HeadsPost (w : World) (L : List Pk) (e : Ending) (w' : World) : Prop :=
  ∃ x, e = .returned x ∧ OwnsAt w' w.heap.size 37 5 x (heads L).length ((heads L).flatMap pC) ∧ Below w.heap.size w w'

/-- What holds at each round's head. -/
def HRound (w0 wr : World) (mb m : Nat) (f : Value → Option Value) (L : List Pk) (done : List Value) (x : Value) : Prop :=
  RangeIs Try.prog 67 wr mb w0.heap.size m f done ∧ Below w0.heap.size w0 wr ∧ OwnsAt wr (w0.heap.size + 1) 37 5 x (hsOf L done).length ((hsOf L done).flatMap pC) ∧ (hsOf L done).length ≤ (come L done).length ∧ done.Nodup

theorem HRound.sl {w0 wr : World} {mb m : Nat} {L : List Pk} {done : List Value} {x : Value} (h : HRound w0 wr mb m f L done x) : ∃ A cap, x = .slice A (hsOf L done).length cap := by
  obtain ⟨A, cap, e, _⟩ := h.2.2.1.len; exact ⟨A, cap, e⟩

set_option maxRecDepth 100000 in
set_option maxHeartbeats 2000000 in
theorem heads_any (h : QsIs w b n most room last L mb f ob rb v col F) (ok : QsOk n most room last L) (hL : L.length < 1000000000) :
    Calls Try.prog 21 #[ptr b] w (HeadsPost w L) := by
  obtain ⟨m, hm⟩ := h.map
  have c0 := h.blk.cell 0
  have HQ := Lib.hid (And.intro h (And.intro ok (And.intro hm hL)))
  clear h ok hm hL
  obtain ⟨w0, rfl⟩ : ∃ w0, w0 = w := ⟨w, rfl⟩
  go_enter Try.func21, Try.ntmps21
  go_wp2_with (refine wpList_range_is rfl (.tmp 14) 58 61 rfl Try.underlying58 rfl HQ.out.2.2.1 ?_; intro w1 hr1 hb1)
  have HR := Lib.hid (And.intro hr1 hb1)
  clear hr1 hb1 c0
  (simp only [Act.put, List.setIfInBounds_toArray, List.set_cons_succ, List.set_cons_zero])
  go_loopg [3] m (fun gk x wr => ∃ done : List Value, m - done.length = gk ∧ Hid (HRound w0 wr mb m f L done x))
  case atStart => exact ⟨[], by simp, Lib.hid ⟨HR.out.1, HR.out.2, OwnsAt.nil _ _ _ _, by simp [hsOf], List.nodup_nil⟩⟩
  case round =>
    obtain ⟨done, hg, hD⟩ := hrel
    clear HR
    obtain ⟨A, cap, hx⟩ := hD.out.sl
    subst hx
    go_wp2_with (refine wpList_next_is rfl (.tmp 15) rfl rfl hD.out.1 ?_ ?_)
    · intro hall
      have hca : ∀ p ∈ L, kv p.2.1.1 p.2.1.2.1 ∈ done := fun p hp => hall _ _ (HQ.out.1.key _ _ (HQ.out.2.1.inR p hp))
      have HC := Lib.hid hca
      clear hall hca
      go_wp2_with fail
      by_cases h0 : (hsOf L done).length = 0
      · have hn0 : hsOf L done = [] := List.eq_nil_of_length_eq_zero h0
        have hh : ([] : List Pk) = heads L := hsOf_rise HQ.out.2.1.nos hD.out.2.2.2.2 (by rw [hn0]) List.Pairwise.nil HC.out
        have hS := AnyF.slices_SortFunc_none Try.SortL A cap (.func (.func 42) #[] #[]) wr
        have HS := Lib.hid (And.intro hS (And.intro hh h0))
        clear hS hh hn0
        rw [h0]
        clear h0
        refine HS.out.1.mono ?_
        rintro e w3 ⟨rfl, rfl⟩
        go_wp2_with fail
        go_ret
        refine ⟨_, rfl, ?_, hD.out.2.1⟩
        rw [← HS.out.2.1]
        have ho := hD.out.2.2.1
        rw [HS.out.2.2] at ho
        have ho2 := OwnsAt.base (base' := w0.heap.size) ho (by omega)
        simpa [List.eq_nil_of_length_eq_zero HS.out.2.2] using ho2
      · obtain ⟨g, off, hA⟩ : ∃ g off, A = some ⟨g, off, none⟩ := by
          obtain ⟨_, ⟨_, hz⟩ | ⟨g, off, cap', cur, e, _⟩⟩ := hD.out.2.2.1
          · exact absurd hz h0
          · cases e; exact ⟨g, off, rfl⟩
        subst hA
        have ho := hD.out.2.2.1
        have hlt := ho.lt g rfl
        have hcmp : CmpLays Try.prog 42 #[] pC 5 cfPk g off (hsOf L done).toArray.size wr := fun m os dk _ x y => heads1 x y _
        have hS := AnyQ.slices_SortFunc Try.SortL 5 (fun w => by kernel_rfl) (fun w => by kernel_rfl) pC pC_len (fun x v hv => by obtain ⟨a, ⟨a1, a2, a3⟩, a4⟩ := x; simp [pC] at hv; rcases hv with rfl | rfl | rfl | rfl | rfl <;> rfl) cfPk swoPk 42 #[] g off cap (hsOf L done).toArray wr (enters_of Try.func42 (by kernel_rfl) rfl) hcmp (ho.holdsK pC_len (by decide)) hlt.2 (by have := hD.out.2.2.2.1; have := come_le L done; have := HQ.out.2.2.2; simp; omega)
        have hsz : (hsOf L done).toArray.size = (hsOf L done).length := by simp
        rw [hsz] at hS
        change Calls Try.prog 41 _ _ _ at hS
        have HS := Lib.hid (And.intro ho hlt)
        clear hcmp ho hsz hlt h0
        refine hS.mono ?_
        rintro e w3 ⟨rfl, d', q, os, hp, hsd, rfl⟩
        have hd := hsOf_rise (d := d'.toList) HQ.out.2.1.nos hD.out.2.2.2.2 (permIn_list hp) (sortedIn_list hp hsd) HC.out
        have hlen : d'.toList.length = (hsOf L done).length := (permIn_list hp).length_eq
        have ho3 := HS.out.1.sortK (enc := pC) (n := q) (os := os) pC_len (by decide) hlen
        rw [Array.toArray_toList] at ho3
        have hb3 := sortK_heap (enc := pC) (k := 5) wr g off q d' os
        have HF := Lib.hid (And.intro hd (And.intro hlen (And.intro ho3 hb3)))
        generalize sortWorldK pC 5 wr g off q d' os = w3 at *
        clear hS hp hsd hd hlen ho3 hb3
        go_wp2_with fail
        go_ret
        refine ⟨_, rfl, ?_, hD.out.2.1.trans (HF.out.2.2.2.below (fun k hk e => by have := HS.out.2.1; omega) hD.out.2.1.size)⟩
        have ho4 := HF.out.2.2.1.base (base' := w0.heap.size) (Nat.le_succ _)
        rw [HF.out.1] at ho4
        have e : (hsOf L done).length = (heads L).length := by rw [← HF.out.2.1, HF.out.1]
        show OwnsAt w3 _ _ 5 (.slice (some ⟨g, off, none⟩) (hsOf L done).length cap) (heads L).length _
        rw [← e]
        exact ho4
    · intro k x w2 hfk hnd hr2 hb2 hs2 hent
      obtain ⟨t, c, hR, rfl⟩ := HQ.out.1.keys k x hfk
      obtain rfl : x = ptr (ob t c) := by have := HQ.out.1.key t c hR; rw [hfk] at this; cases this; rfl
      have hb02 : Below w0.heap.size w0 w2 := hD.out.2.1.trans (hb2.below (fun j hj e => by omega) hD.out.2.1.size)
      have h2 := HQ.out.1.below hb02
      have ho := h2.one t c hR
      have o0 := ho.cell 0
      have hwn : (hsOf L done).length + 1 < 1000000001 := by have := hD.out.2.2.2.1; have := come_le L done; have := HQ.out.2.2.2; omega
      have hrg := h2.ring t c hR
      have hsl := hD.out.2.2.1.keep (w' := w2) fun k hk => hb2.block k (hD.out.2.2.1.lt k hk).2 (by have := (hD.out.2.2.1.lt k hk).1; omega)
      have hle := hsOf_le L done t c hnd hD.out.2.2.2.1
      have hsn := hsOf_snoc L done t c
      have hdl := hr2.le
      have hdn : (done ++ [kv t c]).Nodup := List.nodup_append.2 ⟨hD.out.2.2.2.2, by simp, fun a ha b hb => by simp at hb; subst hb; rintro rfl; exact hnd ha⟩
      have HX := Lib.hid (And.intro hr2 (And.intro hb02 (And.intro hrg (And.intro hsl (And.intro hle (And.intro hsn (And.intro hdl hdn)))))))
      clear hr2 hb02 hrg hsl hle hsn hdl hdn h2 ho hb2 hs2 hnd hfk hD
      go_wp2_with fail
      cases hq : qof L t c with
      | nil =>
        refine (ringFirst_nil _ _ _ _ (by have := HX.out.2.2.1; rw [hq] at this; exact this)).mono ?_
        rintro e w3 ⟨rfl, hb3⟩
        have HB := Lib.hid (And.intro hb3 hq)
        clear hb3 hq o0
        go_wp2_with fail
        generalize hW : World.alloc _ _ = W4
        have hb4 : Below w2.heap.size w2 W4 := by rw [← hW]; exact HB.out.1.alloc HB.out.1.size _
        clear hW
        go_roundg (m - (done ++ [kv t c]).length)
        case measure => have := HX.out.2.2.2.2.2.2.1; simp at this ⊢; omega
        case rel =>
          obtain ⟨hr2, hb02, hrg, hsl, hle, hsn, hdl, hdn⟩ := HX.out
          rw [HB.out.2] at hsn
          have hsn' : hsOf L (done ++ [kv t c]) = hsOf L done := by rw [hsn]; simp
          refine ⟨done ++ [kv t c], rfl, Lib.hid ⟨hr2.below hb4, hb02.trans (hb4.mono hb02.size), ?_, hle, hdn⟩⟩
          rw [hsn']
          exact hsl.below hb4
      | cons p l =>
        obtain ⟨no, ⟨pt, pc, ps⟩, pat⟩ := p
        refine (ringFirst _ _ _ (no, (pt, pc, ps), pat) l _ (by have := HX.out.2.2.1; rw [hq] at this; exact this)).mono ?_
        rintro e w3 ⟨rfl, hb3⟩
        have hsl3 := HX.out.2.2.2.1.below hb3
        have hs3 := (HX.out.2.1.trans (hb3.mono HX.out.2.1.size)).size
        have HB := Lib.hid (And.intro hb3 (And.intro hq (And.intro hsl3 hs3)))
        clear hb3 hq o0 hsl3 hs3
        obtain ⟨i0, hi, hz0, hz1, hz2⟩ := info_parts pk_info
        go_wp2_with (at_builtin; go_loud (refine wpList_append_at rfl (.tmp 29) (.tmp 31) 43 rfl (w0.heap.size + 1) 37 i0 (.agg #[.int .u64 0, .int .i64 0, .int .i64 0, .string ByteArray.empty, .int .u64 0]) 5 48 Try.underlying43 hi hz0 hz1 hz2 rfl (by decide) (.slice A (hsOf L done).length cap) (hsOf L done).length ((hsOf L done).flatMap pC) rfl (HB.out.2.2.1.below (((Below.refl _ _).alloc (Nat.le_refl _) _).alloc (by simp) _)) ⟨w3.heap.size + 1, 0, none⟩ 1 [.int .u64 no, .int .i64 pt, .int .i64 pc, .string ps, .int .u64 pat] rfl rfl (fun j u hj => by rw [Addr.add_lit, Nat.zero_add, ((Blk.new (w3.alloc (.cells #[.int .u64 no, .int .i64 pt, .int .i64 pc, .string ps, .int .u64 pat] 37)) 37 #[.int .u64 no, .int .i64 pt, .int .i64 pc, .string ps, .int .u64 pat]).same_g (g' := w3.heap.size + 1) (by simp)).cell j, ← Array.getElem?_toList]; exact hj) (fun u hu => by simp at hu; rcases hu with rfl | rfl | rfl | rfl | rfl <;> rfl) (by have := HB.out.2.2.2; simp; omega) (by unfold maxLen; omega) (by omega) ?_; intro v' w5 ho5 hg5 hv5))
        have hb5 : Below w2.heap.size w2 ((w3.alloc (.cells #[.int .u64 no, .int .i64 pt, .int .i64 pc, .string ps, .int .u64 pat] 37)).alloc (.cells #[.int .u64 no, .int .i64 pt, .int .i64 pc, .string ps, .int .u64 pat] 37)) := (HB.out.1.alloc HB.out.1.size _).alloc (by have := HB.out.1.size; simp; omega) _
        have HY := Lib.hid (And.intro ho5 (And.intro hg5 (And.intro hv5 hb5)))
        clear ho5 hg5 hv5 hb5
        obtain ⟨A5, cap5, he5, _⟩ := HY.out.1.len
        subst he5
        go_wp2_with fail
        go_roundg (m - (done ++ [kv t c]).length)
        case measure => have := HX.out.2.2.2.2.2.2.1; simp at this ⊢; omega
        case rel =>
          obtain ⟨hr2, hb02, hrg, hsl, hle, hsn, hdl, hdn⟩ := HX.out
          obtain ⟨ho5, hg5, hv5, hb5⟩ := HY.out
          rw [HB.out.2.1] at hsn
          have hsn' : hsOf L (done ++ [kv t c]) = hsOf L done ++ [(no, (pt, pc, ps), pat)] := by rw [hsn]; rfl
          have hown1 : ∀ k, (Value.slice A (hsOf L done).length cap).ownBlock = some k → w0.heap.size + 1 ≤ k := fun k hk => (hsl.lt k hk).1
          have hbw : But (fun k => (Value.slice A (hsOf L done).length cap).ownBlock = some k) w2.heap.size w2 w5 := (But.of_below hb5).trans ((but_grown hg5 _ (fun k hk => hk)).mono hb5.size fun _ _ h => h)
          refine ⟨done ++ [kv t c], rfl, Lib.hid ⟨hr2.but hbw (fun hk => ?_) (fun hk => ?_), hb02.trans (hbw.below (fun k hk he => ?_) hb02.size), ?_, hle, hdn⟩⟩
          · have := hown1 _ hk; have := HQ.out.1.lt _ HQ.out.1.cm.1; omega
          · have := hown1 _ hk; omega
          · have := hown1 _ he; omega
          · rw [hsn', List.length_append, List.flatMap_append, List.flatMap_cons, List.flatMap_nil, List.append_nil]; exact ho5
end

end Go.Proofs.Ytkeiafiembfaeaa
