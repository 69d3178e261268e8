/- Words for a range over a function, at the wide fence. Plain theorems, no program. -/
import Derived.Test.YtnhbcpopnhdhiaaReg
import Derived.Test.YtnhbcpopnhdhiaaOpen
import Derived.RangeFuncNested
import Derived.RangeFuncBound
import Derived.RangeFuncCalls
import Derived.RangeFuncLeaves
import Derived.RangeFuncBox
import Derived.RangeFuncFrom
import Derived.RangeFuncWrites
import Derived.Shelf.Abstract
import Derived.Shelf.RegionOpen
import Derived.OwnWalkIn
import Derived.TacticsInMore
import Derived.LoopNIn
import Derived.LoopIn
set_option linter.unusedSimpArgs false
set_option linter.unusedVariables false
namespace Go.Proofs.Ytnhbcpopnhdhiaa
open Go.RowKit

theorem Rd.below {w w' : World} {B : Nat} {A : Option Addr} {vs : List Value} (h : Rd w B A vs) (hb : Below B w w') : Rd w' B A vs := by
  rcases h with h | ⟨b, o, hA, hlt, hc⟩
  · exact .inl h
  · exact .inr ⟨b, o, hA, hlt, fun j u hu => (hb.cell (p := ⟨b, o + j, none⟩) hlt).trans (hc j u hu)⟩
theorem Rd.but {S : Nat → Prop} {w w' : World} {B : Nat} {A : Option Addr} {vs : List Value} (h : Rd w B A vs) (hb : But S B w w') (hS : ∀ k, k < B → ¬ S k) : Rd w' B A vs := h.below (hb.below hS (Nat.le_refl _))
theorem Rd.more {w : World} {B B' : Nat} {A : Option Addr} {vs : List Value} (h : Rd w B A vs) (hB : B ≤ B') : Rd w B' A vs := by
  rcases h with h | ⟨b, o, hA, hlt, hc⟩
  · exact .inl h
  · exact .inr ⟨b, o, hA, by omega, hc⟩
theorem Rd.at_ {w : World} {B : Nat} {A : Option Addr} {vs : List Value} (h : Rd w B A vs) {k : Nat} (hk : k < vs.length) :
    ∃ b o, A = some ⟨b, o, none⟩ ∧ b < B ∧ w.cell? ⟨b, o + k, none⟩ = some (vs.getD k undef) := by
  rcases h with h | ⟨b, o, hA, hlt, hc⟩
  · subst h; simp at hk
  · exact ⟨b, o, hA, hlt, by rw [hc k (vs.getD k undef) (by simp [hk])]⟩

/-- What lies below n0, and the blocks of T, lie as they lay. -/
structure Keep (n0 : Nat) (T : Nat → Prop) (W W' : World) : Prop where
  size : W.heap.size ≤ W'.heap.size
  same : ∀ k, k < W.heap.size → (k < n0 ∨ T k) → W'.heap[k]? = W.heap[k]?

theorem Keep.refl (n0 : Nat) (T : Nat → Prop) (W : World) : Keep n0 T W W := ⟨Nat.le_refl _, fun _ _ _ => rfl⟩
theorem Keep.trans {n0 : Nat} {T : Nat → Prop} {A B C : World} (h : Keep n0 T A B) (k : Keep n0 T B C) : Keep n0 T A C :=
  ⟨Nat.le_trans h.size k.size, fun i hi ht => (k.same i (Nat.lt_of_lt_of_le hi h.size) ht).trans (h.same i hi ht)⟩
theorem Keep.mono {n0 n1 : Nat} {T T' : Nat → Prop} {A B : World} (h : Keep n0 T A B) (hn : n1 ≤ n0) (hT : ∀ k, T' k → T k) : Keep n1 T' A B :=
  ⟨h.size, fun k hk ht => h.same k hk (ht.elim (fun e => .inl (by omega)) (fun e => .inr (hT k e)))⟩
theorem Keep.alloc (n0 : Nat) (T : Nat → Prop) (W : World) (o : Obj) : Keep n0 T W (W.alloc o) := ⟨by simp, fun k hk _ => Below.heap_alloc W o k hk⟩
theorem Keep.drew (n0 : Nat) (T : Nat → Prop) (W : World) : Keep n0 T W W.drew := ⟨Nat.le_refl _, fun _ _ _ => rfl⟩
theorem Keep.setCell {n0 : Nat} {T : Nat → Prop} (W : World) {p : Addr} (hp : n0 ≤ p.block) (hT : ¬ T p.block) (v : Value) : Keep n0 T W (W.setCell p v) :=
  ⟨by simp [World.setCell], fun k _ hk => Below.heap_setCell _ _ _ _ (by rintro rfl; rcases hk with hk | hk; omega; exact hT hk)⟩
theorem Keep.of_but {n0 : Nat} {T S : Nat → Prop} {B : Nat} {W W' : World} (h : But S B W W') (hB : W.heap.size ≤ B) (hS : ∀ k, S k → ¬ (k < n0 ∨ T k)) : Keep n0 T W W' :=
  ⟨h.size, fun k hk ht => h.block k (by omega) (fun e => hS k e ht)⟩
theorem Keep.of_below {n0 : Nat} {T : Nat → Prop} {W W' : World} (h : Below W.heap.size W W') : Keep n0 T W W' := ⟨h.size, fun k hk _ => h.block k hk⟩

theorem Rd.keep {n0 : Nat} {T : Nat → Prop} {w w' : World} {A : Option Addr} {vs : List Value} (h : Rd w n0 A vs) (hk : Keep n0 T w w') (hn : n0 ≤ w.heap.size) : Rd w' n0 A vs := by
  rcases h with h | ⟨b, o, hA, hlt, hc⟩
  · exact .inl h
  · exact .inr ⟨b, o, hA, hlt, fun j u hu => (World.cell?_of_block (w := w) (hk.same b (by omega) (.inl hlt))).trans (hc j u hu)⟩

/-- It does not hang on the blocks of T. -/
def Ign {β : Type} (T : Nat → Prop) (J : β → World → Prop) : Prop := ∀ s A A', J s A → But T A.heap.size A A' → J s A'

theorem Ign.and {β : Type} {T : Nat → Prop} {J J' : β → World → Prop} (h : Ign T J) (k : Ign T J') : Ign T (fun s W => J s W ∧ J' s W) :=
  fun s A A' hs hb => ⟨h s A A' hs.1 hb, k s A A' hs.2 hb⟩
theorem Ign.blk {β : Type} {T : Nat → Prop} {g : β → Nat} {t : β → TypeId} {cs : β → Array Value} (hg : ∀ s, ¬ T (g s)) : Ign T (fun (s : β) W => Blk W (g s) (t s) (cs s)) :=
  fun s A A' hs hb => hb.blk hs.lt (hg s) hs
theorem Ign.but {β : Type} {T S : Nat → Prop} {B : Nat} {w : World} (hB : B ≤ w.heap.size) (hS : ∀ k, k < B → T k → S k) : Ign (β := β) T (fun s W => But S B w W) :=
  fun s A A' hs hb => hs.trans (hb.mono (Nat.le_trans hB hs.size) hS)
theorem Ign.below {β : Type} {T : Nat → Prop} {B : Nat} {w : World} (hB : B ≤ w.heap.size) (hS : ∀ k, k < B → ¬ T k) : Ign (β := β) T (fun s W => Below B w W) :=
  fun s A A' hs hb => hs.trans (hb.below hS (Nat.le_trans hB hs.size))
theorem Ign.pure {β : Type} {T : Nat → Prop} {p : β → Prop} : Ign T (fun (s : β) (_ : World) => p s) := fun _ _ _ h _ => h
theorem Ign.size {β : Type} {T : Nat → Prop} {n : β → Nat} : Ign T (fun (s : β) (W : World) => n s ≤ W.heap.size) := fun _ _ _ h hb => Nat.le_trans h hb.size

/-- An iterator's contract: it tells xs, one behind the other, as long as the rounds say so; between two rounds it writes to the blocks of T and to new ones alone; it leans on what lies below n0 and on the blocks of T. -/
def Iter {α : Type} (P : Program) (gf : Nat) (lb : Array Value) (encs : α → Array Value) (n0 : Nat) (T : Nat → Prop) (xs : List α) (w0 : World) : Prop :=
  ∀ (l : Nat) (J Jx : List α → World → Prop) (W : World), Keep n0 T w0 W → Ign T J → Ign T Jx →
    (∀ pre x W1, (pre ++ [x]) <+: xs → J pre W1 → YieldAt Fence.wide 0 P l (encs x) W1 fun e W' =>
      (e = .returned (.bool true) ∧ J (pre ++ [x]) W' ∧ Keep n0 T W1 W') ∨ (e = .returned (.bool false) ∧ Jx (pre ++ [x]) W')) →
    J [] W →
    CallsIn Fence.wide 0 P gf (#[.func (.yield l) #[] #[]] ++ lb) W fun e W' => (∃ v, e = .returned v) ∧ (J xs W' ∨ ∃ pre, pre <+: xs ∧ Jx pre W')

/-- How a round may be left: B: the loop's two blocks lie at B, B + 1. -/
def roundEnd {α : Type} (n0 B : Nat) (T : Nat → Prop) (I : List α → World → Prop) (Ix : Code → List α → World → Prop) (xs : List α) (W : World) : Exit → Act → World → Prop
  | .normal, _, W' => Keep n0 (fun k => T k ∨ k = B ∨ k = B + 1) W W' ∧ I xs W'
  | .ret, _, W' => Keep n0 (fun k => T k ∨ k = B ∨ k = B + 1) W W' ∧ Ix .ret xs W'
  | .exit id, _, W' => Keep n0 (fun k => T k ∨ k = B ∨ k = B + 1) W W' ∧ Ix (.exit id) xs W'
  | .goto t, _, W' => Keep n0 (fun k => T k ∨ k = B ∨ k = B + 1) W W' ∧ Ix (.goto t) xs W'
  | .panic _, _, _ => False
  | .outgrown, _, _ => False

theorem heap_lt {W : World} {k : Nat} {o : Obj} (h : W.heap[k]? = some o) : k < W.heap.size := (Array.getElem?_eq_some_iff.1 h).1

theorem but_putObj {S : Nat → Prop} (B : Nat) (W : World) {l : Nat} (o : Obj) (hl : S l) : But S B W (W.putObj l o) :=
  ⟨rfl, rfl, rfl, by simp, fun k _ hk => World.putObj_heap_other (fun e => hk (e ▸ hl))⟩

/-- A range over a function, in a function's own body. -/
theorem wp_range {α : Type} {P : Program} {g : Operand} {ps : Array Tmp} {assign body : Code} {Q : Exit → Act → World → Prop} {a : Act} {w : World}
    {gf : Nat} {lb : Array Value} {encs : α → Array Value} {n0 : Nat} {T : Nat → Prop} {xs : List α}
    (hg : a.eval g = .func (.func gf) #[] lb) (eg : ∀ args w, (callFunc gf args).run P w = .ok (.enter gf args) w) (hit : Iter P gf lb encs n0 T xs w)
    (hn0 : n0 ≤ w.heap.size) (hT : ∀ k, T k → k < w.heap.size) (hps : ∀ x, (encs x).size = ps.size)
    (I : List α → World → Prop) (Ix : Code → List α → World → Prop) (M : List α → α → Act → World → Prop)
    (hI : Ign (fun k => T k ∨ k = w.heap.size ∨ k = w.heap.size + 1) I) (hIx : ∀ c, Ign (fun k => T k ∨ k = w.heap.size ∨ k = w.heap.size + 1) (Ix c))
    (hM : ∀ pre x a, Ign (fun k => T k ∨ k = w.heap.size ∨ k = w.heap.size + 1) (fun (_ : Unit) => M pre x a)) (h0 : I [] w)
    (hassign : ∀ (l : Nat) (pre : List α) (x : α) (W : World), (pre ++ [x]) <+: xs → I pre W →
      assign.wpIn (Fence.wide.inRound l) 0 P (Exit.then (fun a1 W1 => Keep n0 (fun k => T k ∨ k = w.heap.size ∨ k = w.heap.size + 1) W W1 ∧ M pre x a1 W1) (fun _ _ _ => False))
        { tmps := (ps.zip (encs x)).foldl (fun t (p, v) => t.setIfInBounds p v) a.tmps, defers := [] } W)
    (hbody : ∀ (l : Nat) (pre : List α) (x : α) (a1 : Act) (W : World), (pre ++ [x]) <+: xs → M pre x a1 W → w.heap.size + 1 < W.heap.size →
      body.wpIn (Fence.wide.inRound l) 0 P (roundEnd n0 w.heap.size T I Ix (pre ++ [x]) W) a1 W)
    (hdone : ∀ (W : World), I xs W → W.heap[w.heap.size]? = some (.deferred (some [])) → Q .normal { a with defers := { target := .collected w.heap.size, args := #[] } :: a.defers } W)
    (hstop : ∀ (c : Code) (pre : List α) (W : World), pre <+: xs → Ix c pre W → W.heap[w.heap.size]? = some (.deferred (some [])) → c.wp P Q { a with defers := { target := .collected w.heap.size, args := #[] } :: a.defers } W) :
    (Code.rangeFunc g ps assign body).wp P Q a w := by
  refine (wpIn_wide (n := 1)).1 (wpIn_rangeFunc ?_)
  intro fn hfn
  obtain ⟨rec, hrec⟩ : ∃ rec : LoopState → Option Code → Loop, rec = fun st pe => { state := st, pending := pe, fn, tmps := a.tmps, params := ps, assign, body, defers := w.heap.size } := ⟨_, rfl⟩
  obtain ⟨W1, hW1⟩ : ∃ W1, (w.alloc (.deferred (some []))).alloc (.loop (rec .ready none)) = W1 := ⟨_, rfl⟩
  have hL1 : W1.heap[w.heap.size + 1]? = some (.loop (rec .ready none)) := by
    rw [← hW1]; have := World.alloc_heap_new (w.alloc (.deferred (some []))) (.loop (rec .ready none)); rwa [World.size_alloc] at this
  have hK1 : W1.heap[w.heap.size]? = some (.deferred (some [])) := by
    rw [← hW1]; exact (Below.heap_alloc _ _ _ (by simp)).trans (World.alloc_heap_new w _)
  have hb1 : Below w.heap.size w W1 := by rw [← hW1]; exact ((Below.refl _ w).alloc (Nat.le_refl _) _).alloc (by simp) _
  have hI1 : I [] W1 := hI _ _ _ h0 (.of_below hb1)
  refine ⟨w.heap.size + 1, [{ target := .collected w.heap.size, args := #[] }], W1, { target := .fn (.func gf) lb, args := #[.func (.yield (w.heap.size + 1)) #[] #[]] }, W1, gf,
    #[.func (.yield (w.heap.size + 1)) #[] #[]] ++ lb, W1, ?_, ?_, ?_, ?_, fun h => absurd h (by decide), ?_⟩
  · rw [← hW1, hrec]; exact run_enterLoop_outer _ _ _ _ _
  · simp only [resolve, hg]
    simp [go_sem]
  · intro f' _; trivial
  · simp [invoke, go_sem, eg]
  · have hTl : ¬ T (w.heap.size + 1) := fun e => by have := hT _ e; omega
    have hTD : ¬ T w.heap.size := fun e => by have := hT _ e; omega
    have hign : ∀ {A A' : World}, But T A.heap.size A A' → But (fun k => T k ∨ k = w.heap.size ∨ k = w.heap.size + 1) A.heap.size A A' := fun h => h.mono (Nat.le_refl _) (fun k _ e => .inl e)
    refine (hit (w.heap.size + 1)
      (fun pre W => I pre W ∧ W.heap[w.heap.size + 1]? = some (.loop (rec .ready none)) ∧ W.heap[w.heap.size]? = some (.deferred (some [])))
      (fun pre W => ∃ c, Ix c pre W ∧ W.heap[w.heap.size + 1]? = some (.loop (rec .done (some c))) ∧ W.heap[w.heap.size]? = some (.deferred (some [])))
      W1 (.of_below hb1)
      (fun s A A' hs hb => ⟨hI s A A' hs.1 (hign hb), (hb.block _ (heap_lt hs.2.1) hTl).trans hs.2.1, (hb.block _ (heap_lt hs.2.2) hTD).trans hs.2.2⟩)
      (fun s A A' hs hb => by
        obtain ⟨c, hc, hl, hk⟩ := hs
        exact ⟨c, hIx c s A A' hc (hign hb), (hb.block _ (heap_lt hl) hTl).trans hl, (hb.block _ (heap_lt hk) hTD).trans hk⟩)
      ?_ ⟨hI1, hL1, hK1⟩).mono ?_
    · rintro pre x W hpre ⟨hi, hl, hk⟩
      have hlt : w.heap.size + 1 < W.heap.size := heap_lt hl
      have hy := run_yield (P := P) (args := encs x) hl (by rw [hrec]; exact hps x)
      rw [hrec] at hy
      refine ⟨fn, _, assign, body, hy, roundIn_of_wpIn hfn (wpIn_mono (hassign (w.heap.size + 1) pre x W hpre hi) ?_)⟩
      rintro e a1 W2 he
      cases e with
      | normal =>
        obtain ⟨hk2, hm2⟩ := he
        have hl2 : W2.heap[w.heap.size + 1]? = some (.loop (rec .ready none)) := (hk2.same _ hlt (.inr (.inr (.inr rfl)))).trans hl
        have hD2 : W2.heap[w.heap.size]? = some (.deferred (some [])) := (hk2.same _ (by omega) (.inr (.inr (.inl rfl)))).trans hk
        have hlt2 : w.heap.size + 1 < W2.heap.size := heap_lt hl2
        refine ⟨_, run_beginRound hl2 (by rw [hrec]), ?_⟩
        have hl3 : (W2.putObj (w.heap.size + 1) (.loop { rec .ready none with state := .busy })).heap[w.heap.size + 1]? = some (.loop { rec .ready none with state := .busy }) := World.putObj_heap_same hlt2
        have hD3 : (W2.putObj (w.heap.size + 1) (.loop { rec .ready none with state := .busy })).heap[w.heap.size]? = some (.deferred (some [])) := (World.putObj_heap_other (by omega)).trans hD2
        have hm3 : M pre x a1 (W2.putObj (w.heap.size + 1) (.loop { rec .ready none with state := .busy })) := hM pre x a1 () _ _ hm2 (but_putObj _ _ _ (.inr (.inr rfl)))
        have hkp : Keep n0 T W (W2.putObj (w.heap.size + 1) (.loop { rec .ready none with state := .busy })) :=
          (hk2.mono (Nat.le_refl _) (fun k h => .inl h)).trans (.of_but (S := (· = w.heap.size + 1)) (but_putObj _ _ _ rfl) (Nat.le_refl _) (by rintro k rfl (h | h); omega; exact hTl h))
        refine wpIn_mono (hbody (w.heap.size + 1) pre x a1 _ hpre hm3 (by rw [World.putObj_size]; exact hlt2)) ?_
        have fin : ∀ (jump : Option Code) (W3 : World), Keep n0 (fun k => T k ∨ k = w.heap.size ∨ k = w.heap.size + 1) (W2.putObj (w.heap.size + 1) (.loop { rec .ready none with state := .busy })) W3 →
            (Instr.endRound (w.heap.size + 1) jump).run P W3 = .ok (.bool jump.isNone) (W3.putObj (w.heap.size + 1) (.loop (rec (if jump.isNone then .ready else .done) jump))) ∧
            (W3.putObj (w.heap.size + 1) (.loop (rec (if jump.isNone then .ready else .done) jump))).heap[w.heap.size + 1]? = some (.loop (rec (if jump.isNone then .ready else .done) jump)) ∧
            (W3.putObj (w.heap.size + 1) (.loop (rec (if jump.isNone then .ready else .done) jump))).heap[w.heap.size]? = some (.deferred (some [])) := fun jump W3 hk3 => by
          have hl4 := (hk3.same _ (by rw [World.putObj_size]; exact hlt2) (.inr (.inr (.inr rfl)))).trans hl3
          have hD4 := (hk3.same _ (by rw [World.putObj_size]; omega) (.inr (.inr (.inl rfl)))).trans hD3
          have := run_endRound (P := P) jump hl4
          rw [hrec] at this ⊢
          exact ⟨this, World.putObj_heap_same (heap_lt hl4), (World.putObj_heap_other (by omega)).trans hD4⟩
        rintro e a3 W3 hp
        cases e with
        | normal =>
          obtain ⟨hk3, hi3⟩ := hp
          obtain ⟨hr, hl5, hD5⟩ := fin none W3 hk3
          refine ⟨_, _, hr, .inl ⟨rfl, ⟨hI _ _ _ hi3 (but_putObj _ _ _ (.inr (.inr rfl))), hl5, hD5⟩, hkp.trans ((hk3.mono (Nat.le_refl _) (fun k h => .inl h)).trans ?_)⟩⟩
          exact .of_but (S := (· = w.heap.size + 1)) (but_putObj _ _ _ rfl) (Nat.le_refl _) (by rintro k rfl (h | h); omega; exact hTl h)
        | ret =>
          obtain ⟨hk3, hi3⟩ := hp
          obtain ⟨hr, hl5, hD5⟩ := fin (some .ret) W3 hk3
          exact ⟨_, _, hr, .inr ⟨rfl, .ret, hIx _ _ _ _ hi3 (but_putObj _ _ _ (.inr (.inr rfl))), hl5, hD5⟩⟩
        | exit id =>
          obtain ⟨hk3, hi3⟩ := hp
          obtain ⟨hr, hl5, hD5⟩ := fin (some (.exit id)) W3 hk3
          exact ⟨_, _, hr, .inr ⟨rfl, .exit id, hIx _ _ _ _ hi3 (but_putObj _ _ _ (.inr (.inr rfl))), hl5, hD5⟩⟩
        | goto t =>
          obtain ⟨hk3, hi3⟩ := hp
          obtain ⟨hr, hl5, hD5⟩ := fin (some (.goto t)) W3 hk3
          exact ⟨_, _, hr, .inr ⟨rfl, .goto t, hIx _ _ _ _ hi3 (but_putObj _ _ _ (.inr (.inr rfl))), hl5, hD5⟩⟩
        | panic ch => exact hp.elim
        | outgrown => exact hp.elim
      | exit id => exact he.elim
      | goto t => exact he.elim
      | ret => exact he.elim
      | panic ch => exact he.elim
      | outgrown => exact he.elim
    · rintro e W2 ⟨⟨v, rfl⟩, (⟨hi, hl, hk⟩ | ⟨pre, hSp, c, hi, hl, hk⟩)⟩
      · refine ⟨none, _, by have := run_endLoop (P := P) hl (by rw [hrec]; simp); rw [hrec] at this; exact this, hdone _ ?_ ((World.putObj_heap_other (by omega)).trans hk)⟩
        exact hI _ _ _ hi (but_putObj _ _ _ (.inr (.inr rfl)))
      · refine ⟨some c, _, by have := run_endLoop (P := P) hl (by rw [hrec]; simp); rw [hrec] at this; exact this, wpIn_wide.2 (hstop c pre _ hSp ?_ ((World.putObj_heap_other (by omega)).trans hk))⟩
        exact hIx _ _ _ _ hi (but_putObj _ _ _ (.inr (.inr rfl)))

/-- The same, where the loop's variables lie in slots. -/
theorem wp_range_plain {α : Type} {P : Program} {g : Operand} {ps : Array Tmp} {assign body : Code} {Q : Exit → Act → World → Prop} {a : Act} {w : World}
    {gf : Nat} {lb : Array Value} {encs : α → Array Value} {n0 : Nat} {T : Nat → Prop} {xs : List α}
    (hg : a.eval g = .func (.func gf) #[] lb) (eg : ∀ args w, (callFunc gf args).run P w = .ok (.enter gf args) w) (hit : Iter P gf lb encs n0 T xs w)
    (hn0 : n0 ≤ w.heap.size) (hT : ∀ k, T k → k < w.heap.size) (hps : ∀ x, (encs x).size = ps.size)
    (I : List α → World → Prop) (Ix : Code → List α → World → Prop) (a₁ : α → Act)
    (hI : Ign (fun k => T k ∨ k = w.heap.size ∨ k = w.heap.size + 1) I) (hIx : ∀ c, Ign (fun k => T k ∨ k = w.heap.size ∨ k = w.heap.size + 1) (Ix c)) (h0 : I [] w)
    (hassign : ∀ (l : Nat) (x : α) (W : World) (K : Act → World → Prop), K (a₁ x) W →
      assign.wpIn (Fence.wide.inRound l) 0 P (Exit.then K (fun _ _ _ => False)) { tmps := (ps.zip (encs x)).foldl (fun t (p, v) => t.setIfInBounds p v) a.tmps, defers := [] } W)
    (hbody : ∀ (l : Nat) (pre : List α) (x : α) (W : World), (pre ++ [x]) <+: xs → I pre W → w.heap.size + 1 < W.heap.size →
      body.wpIn (Fence.wide.inRound l) 0 P (roundEnd n0 w.heap.size T I Ix (pre ++ [x]) W) (a₁ x) W)
    (hdone : ∀ (W : World), I xs W → W.heap[w.heap.size]? = some (.deferred (some [])) → Q .normal { a with defers := { target := .collected w.heap.size, args := #[] } :: a.defers } W)
    (hstop : ∀ (c : Code) (pre : List α) (W : World), pre <+: xs → Ix c pre W → W.heap[w.heap.size]? = some (.deferred (some [])) → c.wp P Q { a with defers := { target := .collected w.heap.size, args := #[] } :: a.defers } W) :
    (Code.rangeFunc g ps assign body).wp P Q a w :=
  wp_range hg eg hit hn0 hT hps I Ix (fun pre x a1 W => a1 = a₁ x ∧ I pre W) hI hIx (fun pre x a => Ign.pure.and (fun _ A A' h hb => hI pre A A' h hb)) h0
    (fun l pre x W hp hi => hassign l x W _ ⟨Keep.refl _ _ _, rfl, hi⟩)
    (fun l pre x a1 W hp hm hs => by obtain ⟨rfl, hi⟩ := hm; exact hbody l pre x W hp hi hs) hdone hstop

/-- A function whose body holds a range over a function: its contract, out of its body's walk. -/
theorem calls_of_marks {P : Program} {f : FuncId} {fn : Func} {c : Code} {args : Array Value} {w : World} {R : Ending → World → Prop}
    (hf : P.funcs[f]? = some fn) (hb : fn.body = some c)
    (h : c.wp P (bodyPostM Fence.wide 0 P fn R) { tmps := args ++ Array.replicate (fn.ntmps - args.size) undef, defers := [] } w) : Calls P f args w R :=
  callsIn_wide.1 (callsIn_of_wp_marks hf hb trivial (wpIn_wide.2 h))

/-- It returns ahead of any such loop. -/
theorem marks_ret0 {P : Program} {fn : Func} {R : Ending → World → Prop} {tmps : Array Value} {w : World} {v : Value} (hr : (results fn tmps).run P w = .ok v w) (hR : R (.returned v) w) :
    bodyPostM Fence.wide 0 P fn R .ret { tmps := tmps, defers := [] } w := ⟨v, hr, hR⟩
/-- It returns behind one. -/
theorem marks_ret1 {P : Program} {fn : Func} {R : Ending → World → Prop} {tmps : Array Value} {w : World} {v : Value} {D : Nat} (hK : w.heap[D]? = some (.deferred (some [])))
    (hr : (results fn tmps).run P (w.putObj D (.deferred none)) = .ok v (w.putObj D (.deferred none))) (hR : R (.returned v) (w.putObj D (.deferred none))) :
    bodyPostM Fence.wide 0 P fn R .ret { tmps := tmps, defers := [{ target := .collected D, args := #[] }] } w := by
  refine ⟨by simp, .inl ⟨_, _, rfl, run_takeDeferred hK, v, hr, hR⟩⟩
theorem marks_end1 {P : Program} {fn : Func} {R : Ending → World → Prop} {tmps : Array Value} {w : World} {v : Value} {D : Nat} (hK : w.heap[D]? = some (.deferred (some [])))
    (hr : (results fn tmps).run P (w.putObj D (.deferred none)) = .ok v (w.putObj D (.deferred none))) (hR : R (.returned v) (w.putObj D (.deferred none))) :
    bodyPostM Fence.wide 0 P fn R .normal { tmps := tmps, defers := [{ target := .collected D, args := #[] }] } w := by
  refine ⟨by simp, .inl ⟨_, _, rfl, run_takeDeferred hK, v, hr, hR⟩⟩

theorem Blk.putObj {w : World} {g : Nat} {t : TypeId} {cs : Array Value} {D : Nat} (h : Blk w g t cs) (o : Obj) (hD : g ≠ D) : Blk (w.putObj D o) g t cs := (World.putObj_heap_other hD).trans h
theorem But.putObj {S : Nat → Prop} {B : Nat} {w w' : World} (h : But S B w w') {D : Nat} (o : Obj) (hD : D < B → S D) : But S B w (w'.putObj D o) :=
  h.trans ⟨rfl, rfl, rfl, by simp, fun k hk hs => World.putObj_heap_other (fun e => hs (e ▸ hD (e ▸ hk)))⟩

end Go.Proofs.Ytnhbcpopnhdhiaa
