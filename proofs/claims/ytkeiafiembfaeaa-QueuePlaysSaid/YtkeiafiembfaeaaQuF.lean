/- Put. -/
import Derived.Test.YtkeiafiembfaeaaQuE
import Derived.Test.YtkeiafiembfaeaaReg
set_option linter.unusedSimpArgs false
set_option linter.unusedVariables false
namespace Go.Proofs.Ytkeiafiembfaeaa
open Go.RowKit
attribute [local irreducible] wpMix

/-- What Put's boxes hold: the queues, terminal, class, bytes, time, the own queue (or none). -/
structure PutEnv (W : World) (g b : Nat) (t c : Int) (s : ByteArray) (ti : Int) (x : Value) : Prop where
  q : Blk W g 24 #[ptr b]
  t : Blk W (g + 1) 3 #[.int .i64 t]
  c : Blk W (g + 2) 3 #[.int .i64 c]
  s : Blk W (g + 3) 9 #[.string s]
  a : Blk W (g + 4) 32 #[.int .u64 ti]
  o : Blk W (g + 5) 61 #[x]
theorem PutEnv.keep {W W' : World} {g b : Nat} {t c : Int} {s : ByteArray} {ti : Int} {x : Value} (h : PutEnv W g b t c s ti x) (hk : ∀ k, g ≤ k → k < W.heap.size → W'.heap[k]? = W.heap[k]?) : PutEnv W' g b t c s ti x where
  q := (hk _ (by omega) h.q.lt).trans h.q
  t := (hk _ (by omega) h.t.lt).trans h.t
  c := (hk _ (by omega) h.c.lt).trans h.c
  s := (hk _ (by omega) h.s.lt).trans h.s
  a := (hk _ (by omega) h.a.lt).trans h.a
  o := (hk _ (by omega) h.o.lt).trans h.o
theorem PutEnv.below {W W' : World} {g b : Nat} {t c : Int} {s : ByteArray} {ti : Int} {x : Value} (h : PutEnv W g b t c s ti x) (hb : Below W.heap.size W W') : PutEnv W' g b t c s ti x := h.keep fun k _ hk => hb.block k hk

section
variable {w W : World} {b : Nat} {n most room last : Int} {L : List Pk} {mb : Nat} {f : Value → Option Value} {ob rb : Int → Int → Nat} {v : Int → Int → Value} {col : Nat → Int} {F : Nat → Prop} {g : Nat} {t c ti : Int} {s : ByteArray}

set_option maxHeartbeats 1000000 in
set_option maxRecDepth 100000 in
theorem put7 (h : QsIs W b n most room last L mb f ob rb v col F) (hF : ∀ k, F k → k < g) (ht : InR n t c) (he : PutEnv W g b t c s ti (ptr (ob t c))) (hr : ((qof L t c).length : Int) < most) (hm : most ≤ 10000) (h0 : 0 ≤ last) (h1 : last < 9223372036854775808) :
    Calls Try.prog 36 #[ptr (g + 5), ptr g, ptr (g + 1), ptr (g + 2), ptr (g + 3), ptr (g + 4)] W fun r w' => r = .returned (.int .i64 0) ∧ RingPut (rb t c) most (v t c) (qof L t c ++ [(last + 1, (t, c, s), ti)]) W w' := by
  have hrg := h.ring t c ht
  have hlt := he.o.lt
  obtain ⟨S, hSd⟩ : ∃ S : Nat → Prop, ∀ k, S k ↔ (k = rb t c ∨ (v t c).ownBlock = some k) := ⟨_, fun _ => Iff.rfl⟩
  have hSF : ∀ k, S k → F k ∧ (col k = 3 + 3 * (3 * t + c) ∨ col k = 4 + 3 * (3 * t + c)) := fun k hk => by
    rcases (hSd k).1 hk with rfl | e
    · have := h.cr t c ht; exact ⟨this.1, .inl this.2⟩
    · have := h.cv t c k ht e; exact ⟨this.1, .inr this.2⟩
  have nS : ∀ k, g ≤ k → ¬ S k := fun k hk hs => by have := hF k (hSF k hs).1; omega
  have hr' := ht
  unfold InR at hr'
  have nb : ¬ S b := fun hs => by have := (hSF b hs).2; rw [h.cb.2] at this; omega
  have no : ¬ S (ob t c) := fun hs => by have := (hSF _ hs).2; rw [(h.co t c ht).2] at this; omega
  have d0 : ∀ X : Cls fun w' => But S W.heap.size W w', X.W.cell? ⟨g + 5, 0, none⟩ = some (ptr (ob t c)) := fun X => (but_cell X _ _ he.o.lt (nS _ (by omega))).trans (he.o.cell 0)
  have d1 : ∀ X : Cls fun w' => But S W.heap.size W w', X.W.cell? ⟨g, 0, none⟩ = some (ptr b) := fun X => (but_cell X _ _ he.q.lt (nS _ (by omega))).trans (he.q.cell 0)
  have d2 : ∀ X : Cls fun w' => But S W.heap.size W w', X.W.cell? ⟨g + 1, 0, none⟩ = some (.int .i64 t) := fun X => (but_cell X _ _ he.t.lt (nS _ (by omega))).trans (he.t.cell 0)
  have d3 : ∀ X : Cls fun w' => But S W.heap.size W w', X.W.cell? ⟨g + 2, 0, none⟩ = some (.int .i64 c) := fun X => (but_cell X _ _ he.c.lt (nS _ (by omega))).trans (he.c.cell 0)
  have d4 : ∀ X : Cls fun w' => But S W.heap.size W w', X.W.cell? ⟨g + 3, 0, none⟩ = some (.string s) := fun X => (but_cell X _ _ he.s.lt (nS _ (by omega))).trans (he.s.cell 0)
  have d5 : ∀ X : Cls fun w' => But S W.heap.size W w', X.W.cell? ⟨g + 4, 0, none⟩ = some (.int .u64 ti) := fun X => (but_cell X _ _ he.a.lt (nS _ (by omega))).trans (he.a.cell 0)
  have d6 : ∀ X : Cls fun w' => But S W.heap.size W w', X.W.cell? ⟨ob t c, 0, none⟩ = some (ptr (rb t c)) := fun X => (but_cell X _ _ (h.one t c ht).lt no).trans ((h.one t c ht).cell 0)
  have d7 : ∀ X : Cls fun w' => But S W.heap.size W w', X.W.cell? ⟨b, 4, none⟩ = some (.int .u64 last) := fun X => (but_cell X _ _ h.blk.lt nb).trans (h.blk.cell 4)
  have hw : IntKind.u64.wrap (last + 1) = last + 1 := IntWalk.u64_in _ (by omega)
  have HK := Lib.hid (And.intro hrg (And.intro hSd (And.intro hr hm)))
  clear h hF ht he hr hm h0 h1 hrg hlt hSF nS nb no hr' hSd
  go_enter Try.func36, Try.ntmps36
  go_upto_region 1 with fail
  refine wp_region_sub [14] (fun w' => But S W.heap.size W w') (by kernel_rfl) (by kernel_rfl) ((But.refl _ _ _).drew) (fun _ => ?_)
  iterate 14 (refine mix_read (by kernel_rfl) (by rfl) (by rfl) (by rfl) (of_decide_eq_true (by kernel_rfl)) ?_; apply Exists.intro; apply Exists.intro; refine ⟨fun w' hw' K hK => ?_, ?_, ?_⟩; (obtain ⟨X, rfl⟩ := hw'; go_wp2_with fail; first | exact ⟨rfl, rfl⟩ | exact rfl); rfl)
  (refine mix_act (by rfl) (by rfl) (fun K hK => ?_))
  go_wp2_with fail
  refine (ringPut _ _ _ _ ((last + 1, (t, c, s), ti) : Pk) W.drew (HK.out.1.keep rfl fun _ _ => rfl) HK.out.2.2.1 (by have := HK.out.2.2.2; omega)).mono ?_
  rintro e w2 ⟨rfl, v', hr2, hb2, hv2⟩
  have H2 := Lib.hid (And.intro hr2 (And.intro hb2 hv2))
  have hbS := Lib.hid ((But.refl S W.heap.size W).drew.trans (hb2.mono (Nat.le_refl _) fun k _ hk => (HK.out.2.1 k).2 hk))
  clear hr2 hb2 hv2
  clear d0 d1 d2 d3 d4 d5 d6 d7 hw
  go_wp2_with fail
  refine ⟨.mk hbS.out, ?_⟩
  iterate 1 (refine mix_read (by kernel_rfl) (by rfl) (by rfl) (by rfl) (of_decide_eq_true (by kernel_rfl)) ?_; apply Exists.intro; apply Exists.intro; refine ⟨fun w' hw' K hK => ?_, ?_, ?_⟩; (obtain ⟨X, rfl⟩ := hw'; go_wp2_with fail; first | exact ⟨rfl, rfl⟩ | exact rfl); rfl)
  refine mix_nil ?_
  go_wp2_with fail
  go_ret
  exact ⟨rfl, v', H2.out.1, (But.refl _ W.heap.size W).drew.trans H2.out.2.1, H2.out.2.2⟩
end

end Go.Proofs.Ytkeiafiembfaeaa
