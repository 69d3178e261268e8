/- Regions that draw their order: loads and arithmetic (they leave the world alone) beside a chain of operations that act on it, one after the other: one walk in the order of the text serves every order. Plain theorems, no program. -/
import Derived.Test.YtkeiafiembfaeaaMem
import Derived.Deep.Quiet
import Derived.StillTail
set_option linter.unusedSimpArgs false
set_option linter.unusedVariables false
namespace Go.Proofs.Ytkeiafiembfaeaa
open Go.RowKit

/-- The exits of an operation that may not leave. -/
def NoExit : Exit → Act → World → Prop := fun _ _ _ => False

/-- What a reading operation yields in the world w: the value v, and the world stays. -/
def stillUpon (v : Value) (w : World) : Result Next → Prop
  | .ok (.value u) w' => w' = w ∧ u = v
  | .ok .skip w' => w' = w ∧ v = undef
  | _ => False

attribute [go_sem] stillUpon

theorem stillUpon_eq {v u : Value} {w : World} {r : Result Next} (h : stillUpon v w r) (k : stillUpon u w r) : v = u := by
  cases r with
  | ok n w' => cases n <;> simp only [stillUpon] at h k <;> first | exact h.2.symm.trans k.2 | exact h.2.trans k.2.symm
  | halt x w' => simp only [stillUpon] at h

section
variable {P : Program} {ops : Array Oper} {C : World → Prop} {acts : List Nat}

/-- j waits for i, by an edge or by a few. -/
def waitsK (ops : Array Oper) (i : Nat) : Nat → Nat → Bool
  | 0, j => Region.waitsFor .any ops j i
  | n + 1, j => Region.waitsFor .any ops j i || (match ops[j]? with
    | some oj => oj.after.any fun e => Region.binds .any e && waitsK ops i n e.on
    | none => false)
def waits2 (ops : Array Oper) (j i : Nat) : Bool := waitsK ops i 3 j
def chainOK (ops : Array Oper) : List Nat → Bool
  | i :: j :: rest => waits2 ops j i && chainOK ops (j :: rest)
  | _ => true

def Closed (ops : Array Oper) (listed : Array Bool) : Prop :=
  ∀ j oj, ops[j]? = some oj → listed.getD j false = true → ∀ e ∈ oj.after, Region.binds .any e = true → listed.getD e.on false = true

theorem Closed.set {i : Nat} {listed : Array Bool} (inv : Closed ops listed) (hi : i ∈ Region.ready .any ops listed) : Closed ops (listed.setIfInBounds i true) := by
  obtain ⟨_, oi, hoi, hall⟩ := mem_ready.1 hi
  intro j oj hj hl e he hb
  by_cases hij : i = j
  · subst hij
    have : oj = oi := Option.some.inj (hj.symm.trans hoi)
    subst this
    exact getD_set_true (hall e he hb)
  · rw [getD_set_ne false hij] at hl
    exact getD_set_true (inv j oj hj hl e he hb)

theorem waitsK_un {i : Nat} {listed : Array Bool} (inv : Closed ops listed) (hun : listed.getD i false = false) : ∀ n j, waitsK ops i n j = true →
    listed.getD j false = false ∧ j ∉ Region.ready .any ops listed := by
  have one : ∀ j, Region.waitsFor .any ops j i = true → listed.getD j false = false ∧ j ∉ Region.ready .any ops listed := by
    intro j h
    obtain ⟨oj, hoj, e, he, hb, hon⟩ := Region.waitsFor_spec h
    constructor
    · cases hl : listed.getD j false with
      | false => rfl
      | true =>
        have := inv j oj hoj hl e he hb
        rw [hon, hun] at this
        cases this
    · intro hr
      obtain ⟨_, o', ho', hall⟩ := mem_ready.1 hr
      have : o' = oj := Option.some.inj (ho'.symm.trans hoj)
      subst this
      have := hall e he hb
      rw [hon, hun] at this
      cases this
  intro n
  induction n with
  | zero => exact one
  | succ n ih =>
    intro j h
    simp only [waitsK, Bool.or_eq_true] at h
    rcases h with h | h
    · exact one j h
    · cases hoj : ops[j]? with
      | none => rw [hoj] at h; cases h
      | some oj =>
        rw [hoj] at h
        obtain ⟨e, he, hb⟩ := Array.any_eq_true'.1 h
        simp only [Bool.and_eq_true] at hb
        have h1 := (ih e.on hb.2).1
        constructor
        · cases hl : listed.getD j false with
          | false => rfl
          | true =>
            have := inv j oj hoj hl e he hb.1
            rw [h1] at this
            cases this
        · intro hr
          obtain ⟨_, o', ho', hall⟩ := mem_ready.1 hr
          have : o' = oj := Option.some.inj (ho'.symm.trans hoj)
          subst this
          have := hall e he hb.1
          rw [h1] at this
          cases this
theorem waits2_un {i j : Nat} {listed : Array Bool} (inv : Closed ops listed) (h : waits2 ops j i = true) (hun : listed.getD i false = false) :
    listed.getD j false = false ∧ j ∉ Region.ready .any ops listed := waitsK_un inv hun 3 j h

theorem chain_un {listed : Array Bool} (inv : Closed ops listed) : ∀ (l : List Nat) (i : Nat), chainOK ops (i :: l) = true → listed.getD i false = false →
    ∀ j ∈ l, listed.getD j false = false ∧ j ∉ Region.ready .any ops listed
  | [], _, _, _, j, hj => by cases hj
  | k :: l, i, hc, hun, j, hj => by
    simp only [chainOK, Bool.and_eq_true] at hc
    have hk := waits2_un inv hc.1 hun
    rcases List.mem_cons.1 hj with rfl | hj
    · exact hk
    · exact chain_un inv l k hc.2 hk.1 j hj

/-- Operation i is the last one, in whatever order: it waits for each other one. -/
def lastB (ops : Array Oper) (i : Nat) : Bool := i + 1 == ops.size && (List.range i).all (fun j => waits2 ops i j)

theorem last_only {i j : Nat} {listed : Array Bool} (inv : Closed ops listed) (h : lastB ops i = true) (hi : i ∈ Region.ready .any ops listed) (hj : j ∈ Region.ready .any ops listed) : j = i := by
  simp only [lastB, Bool.and_eq_true, beq_iff_eq] at h
  obtain ⟨hjun, oj, hoj, _⟩ := mem_ready.1 hj
  have hjs : j < ops.size := (Array.getElem?_eq_some_iff.1 hoj).1
  rcases Nat.lt_trichotomy j i with hlt | rfl | hgt
  · exact absurd hi (waits2_un inv (List.all_eq_true.1 h.2 j (List.mem_range.2 hlt)) (getD_both hjun)).2
  · rfl
  · omega

theorem last_done {i : Nat} {listed : Array Bool} (inv : Closed ops listed) (h : lastB ops i = true) (hi : i ∈ Region.ready .any ops listed) : Region.ready .any ops (listed.setIfInBounds i true) = [] := by
  cases hr : Region.ready .any ops (listed.setIfInBounds i true) with
  | nil => rfl
  | cons j l =>
    exfalso
    have hj : j ∈ Region.ready .any ops (listed.setIfInBounds i true) := by rw [hr]; exact List.mem_cons_self ..
    simp only [lastB, Bool.and_eq_true, beq_iff_eq] at h
    obtain ⟨hjun, oj, hoj, _⟩ := mem_ready.1 hj
    have hjs : j < ops.size := (Array.getElem?_eq_some_iff.1 hoj).1
    have hiun := (mem_ready.1 hi).1
    have his : i < listed.size := by
      rcases Nat.lt_or_ge i listed.size with h' | h'
      · exact h'
      · simp [Array.getElem?_eq_none h'] at hiun
    rcases Nat.lt_trichotomy j i with hlt | rfl | hgt
    · have hjun' : listed.getD j false = false := by rw [← getD_set_ne (i := i) (j := j) false (by omega)]; exact getD_both hjun
      exact absurd hi (waits2_un inv (List.all_eq_true.1 h.2 j (List.mem_range.2 hlt)) hjun').2
    · simp [his] at hjun
    · omega

/-- Operation i comes up. -/
def mOp (P : Program) (ops : Array Oper) (acts : List Nat) (C : World → Prop) (i : Nat) (K : Act → World → Prop) (a : Act) (w : World) : Prop :=
  match ops[i]? with
  | none => K a w
  | some o =>
    if Region.wanted o (yielded ops a.tmps) = true then
      (if acts.contains i = true then o.wp P a w (fun a' w' => (lastB ops i = true ∨ C w') ∧ K a' w') NoExit
       else ∃ v, (∀ w', C w' → stillUpon v w' ((execOp a.eval o).run P w')) ∧ K (a.put o.dst v) w)
    else K (a.put o.dst undef) w

def mixAny (P : Program) (ops : Array Oper) (acts : List Nat) (C : World → Prop) (Q : Act → World → Prop) : Nat → Array Bool → Act → World → Prop
  | 0, listed, a, w => Region.ready .any ops listed = [] ∧ Q a w
  | fuel + 1, listed, a, w =>
    (Region.ready .any ops listed = [] → Q a w) ∧
    ∀ i ∈ Region.ready .any ops listed, mOp P ops acts C i (mixAny P ops acts C Q fuel (listed.setIfInBounds i true)) a w

/-- The walk in the order of the text. -/
def wpMix (P : Program) (ops : Array Oper) (acts : List Nat) (C : World → Prop) (Q : Act → World → Prop) : Nat → List Oper → Act → World → Prop
  | _, [], a, w => Q a w
  | k, o :: rest, a, w =>
    if Region.wanted o (yielded ops a.tmps) = true then
      (if acts.contains k = true then o.wp P a w (fun a' w' => (lastB ops k = true ∨ C w') ∧ wpMix P ops acts C Q (k + 1) rest a' w') NoExit
       else ∃ v, (∀ w', C w' → stillUpon v w' ((execOp a.eval o).run P w')) ∧ wpMix P ops acts C Q (k + 1) rest (a.put o.dst v) w)
    else wpMix P ops acts C Q (k + 1) rest (a.put o.dst undef) w

theorem wp_noExit {o : Oper} {a : Act} {w : World} {K K' : Act → World → Prop} {Q : Exit → Act → World → Prop} (h : ∀ a w, K a w → K' a w) (hh : o.wp P a w K NoExit) : o.wp P a w K' Q := by
  unfold Oper.wp at *
  generalize (execOp a.eval o).run P w = r at *
  cases r with
  | ok n w' =>
    cases n <;> simp only [Oper.upon] at hh ⊢ <;>
      first
        | exact h _ _ hh
        | exact Calls.mono hh (fun e w'' he => by cases e <;> first | exact h _ _ he | exact he.elim | (obtain ⟨_, _, hf⟩ := he; exact hf.elim))
        | exact Rows.mono hh (fun _ _ he => h _ _ he)
  | halt x w' => cases x <;> simp only [Oper.upon] at hh ⊢ <;> exact hh.elim

/-- What becomes of the frame. -/
theorem wp_track {o : Oper} {a : Act} {w : World} {K : Act → World → Prop} (hh : o.wp P a w K NoExit) :
    o.wp P a w (fun a' w' => K a' w' ∧ ∃ d u, a' = ({ a with defers := d } : Act).put o.dst u) NoExit := by
  unfold Oper.wp at *
  generalize (execOp a.eval o).run P w = r at *
  cases r with
  | ok n w' =>
    cases n <;> simp only [Oper.upon] at hh ⊢ <;>
      first
        | exact ⟨hh, a.defers, _, rfl⟩
        | exact ⟨hh, _, _, rfl⟩
        | exact Calls.mono hh (fun e w'' he => by cases e <;> first | exact ⟨he, a.defers, _, rfl⟩ | exact he.elim | (obtain ⟨_, _, hf⟩ := he; exact hf.elim))
        | exact Rows.mono hh (fun _ _ he => ⟨he, a.defers, _, rfl⟩)
  | halt x w' => cases x <;> simp only [Oper.upon] at hh ⊢ <;> exact hh.elim

/-- There is an outcome. -/
theorem wp_some {o : Oper} {a : Act} {w : World} {K : Act → World → Prop} (hh : o.wp P a w K NoExit) : ∃ a' w', K a' w' := by
  unfold Oper.wp at *
  generalize (execOp a.eval o).run P w = r at *
  cases r with
  | ok n w' =>
    cases n <;> simp only [Oper.upon] at hh
    case enter f args =>
      obtain ⟨e, w'', fr, hR, _⟩ := hh []
      cases e with
      | returned v => exact ⟨_, _, hR⟩
      | panicked chain => exact hR.elim
      | outgrown => obtain ⟨_, _, hf⟩ := hR; exact hf.elim
    case row r args =>
      obtain ⟨v, w'', hR, _⟩ := hh default []
      exact ⟨_, _, hR⟩
    all_goals exact ⟨_, _, hh⟩
  | halt x w' => cases x <;> simp only [Oper.upon] at hh <;> exact hh.elim

theorem mOp_mono {i : Nat} {a : Act} {w : World} {K K' : Act → World → Prop} (h : ∀ a w, K a w → K' a w) (hh : mOp P ops acts C i K a w) : mOp P ops acts C i K' a w := by
  unfold mOp at *
  split
  · rename_i ho; simp only [ho] at hh; exact h _ _ hh
  · rename_i o ho
    simp only [ho] at hh
    by_cases hw : Region.wanted o (yielded ops a.tmps) = true
    · rw [if_pos hw] at hh ⊢
      by_cases hA : acts.contains i = true
      · rw [if_pos hA] at hh ⊢; exact wp_noExit (fun a w hk => ⟨hk.1, h _ _ hk.2⟩) hh
      · rw [if_neg hA] at hh ⊢; obtain ⟨v, h1, h2⟩ := hh; exact ⟨v, h1, h _ _ h2⟩
    · rw [if_neg hw] at hh ⊢; exact h _ _ hh

theorem wpOp_of_mOp {i : Nat} {a : Act} {w : World} {K K' : Act → World → Prop} {Q : Exit → Act → World → Prop} (hC : C w) (h : ∀ a w, C w → K a w → K' a w) (hl : lastB ops i = true → ∀ a w, K a w → K' a w) (hh : mOp P ops acts C i K a w) : wpOp P ops Q i K' a w := by
  unfold mOp at hh
  unfold wpOp
  split
  · rename_i ho; simp only [ho] at hh; exact h _ _ hC hh
  · rename_i o ho
    simp only [ho] at hh
    by_cases hw : Region.wanted o (yielded ops a.tmps) = true
    · rw [if_pos hw] at hh ⊢
      refine .inl ?_
      by_cases hA : acts.contains i = true
      · rw [if_pos hA] at hh; exact wp_noExit (fun a w hk => hk.1.elim (fun e => hl e _ _ hk.2) (fun e => h _ _ e hk.2)) hh
      · rw [if_neg hA] at hh
        obtain ⟨v, h1, h2⟩ := hh
        have h3 := h1 w hC
        unfold Oper.wp
        generalize (execOp a.eval o).run P w = r at *
        cases r with
        | ok n w' =>
          cases n <;> simp only [stillUpon] at h3 <;> simp only [Oper.upon]
          · rw [h3.1, h3.2]; exact h _ _ hC h2
          · rw [h3.1, ← h3.2]; exact h _ _ hC h2
        | halt x w' => simp only [stillUpon] at h3
    · rw [if_neg hw] at hh ⊢; exact h _ _ hC hh

theorem mix_end {Q : Act → World → Prop} {fuel : Nat} {listed : Array Bool} {a : Act} {w : World} (hr : Region.ready .any ops listed = []) (h : mixAny P ops acts C Q fuel listed a w) : Q a w := by
  cases fuel with
  | zero => exact h.2
  | succ fuel => exact h.1 hr

theorem any_end {Q : Exit → Act → World → Prop} {fuel : Nat} {listed : Array Bool} {a : Act} {w : World} (hr : Region.ready .any ops listed = []) (h : Q .normal a w) : wpAny P .any ops Q fuel listed a w := by
  cases fuel with
  | zero => exact ⟨hr, h⟩
  | succ fuel => exact ⟨fun _ => h, fun i hi => by rw [hr] at hi; cases hi⟩

theorem wpAny_of_mix {Q : Act → World → Prop} {Q' : Exit → Act → World → Prop} (hQ : ∀ a w, Q a w → Q' .normal a w) : ∀ (fuel : Nat) (listed : Array Bool) (a : Act) (w : World), C w → Closed ops listed →
    mixAny P ops acts C Q fuel listed a w → wpAny P .any ops Q' fuel listed a w
  | 0, _, _, _, hw, _, h => ⟨h.1, hQ _ _ h.2⟩
  | fuel + 1, _, _, _, hw, inv, h => ⟨fun h0 => hQ _ _ (h.1 h0), fun i hi => wpOp_of_mOp hw (fun a' w' hw' => wpAny_of_mix hQ fuel _ a' w' hw' (inv.set hi))
      (fun hl a' w' hm => any_end (last_done inv hl hi) (hQ _ _ (mix_end (last_done inv hl hi) hm))) (h.2 i hi)⟩

/-- Operation o (number i) reads, or is passed over: what it leaves. -/
def YieldsM (P : Program) (ops : Array Oper) (acts : List Nat) (C : World → Prop) (i : Nat) (o : Oper) (v : Value) (a : Act) : Prop :=
  (Region.wanted o (yielded ops a.tmps) = true ∧ acts.contains i = false ∧ ∀ w, C w → stillUpon v w ((execOp a.eval o).run P w)) ∨
  (Region.wanted o (yielded ops a.tmps) = false ∧ v = undef)

theorem YieldsM.mOp {i : Nat} {o : Oper} {v : Value} {a : Act} {w : World} (hi : ops[i]? = some o) (hy : YieldsM P ops acts C i o v a) {K : Act → World → Prop} (h : K (a.put o.dst v) w) : mOp P ops acts C i K a w := by
  unfold Proofs.Ytkeiafiembfaeaa.mOp
  simp only [hi]
  rcases hy with ⟨hw, hA, hv⟩ | ⟨hw, rfl⟩
  · rw [if_pos hw, if_neg (by rw [hA]; exact Bool.false_ne_true)]; exact ⟨v, hv, h⟩
  · rw [if_neg (by rw [hw]; exact Bool.false_ne_true)]; exact h

theorem YieldsM.of_same {i : Nat} {o : Oper} {v : Value} {a a' : Act} (hy : YieldsM P ops acts C i o v a) (he : execOp a'.eval o = execOp a.eval o)
    (hw : Region.wanted o (yielded ops a'.tmps) = Region.wanted o (yielded ops a.tmps)) : YieldsM P ops acts C i o v a' := by
  unfold YieldsM at *
  rw [he, hw]
  exact hy

theorem mOp_put {i j : Nat} {oi oj : Oper} {v : Value} (hj : ops[j]? = some oj) (hap : oi.apart ops oj = true)
    (hsi : ∀ cs b, oi.op ≠ .select cs b) (hsj : ∀ cs b, oj.op ≠ .select cs b) {K : Act → World → Prop} {a : Act} {w : World}
    (hy : YieldsM P ops acts C i oi v a) (h : mOp P ops acts C j K (a.put oi.dst v) w) :
    mOp P ops acts C j (fun a' w' => YieldsM P ops acts C i oi v a' ∧ K (a'.put oi.dst v) w') a w := by
  obtain ⟨h1, h2, h3⟩ := Oper.apart_spec hap
  have keep : ∀ (a : Act), YieldsM P ops acts C i oi v a → ∀ u, YieldsM P ops acts C i oi v (a.put oj.dst u) := fun a hy u =>
    hy.of_same (execOp_put oi hsi a oj.dst u h3) (wanted_put oi a oj.dst u h3)
  have keepD : ∀ d, YieldsM P ops acts C i oi v { a with defers := d } := fun d => hy.of_same rfl rfl
  unfold mOp at *
  simp only [hj] at *
  rw [wanted_put oj a oi.dst v h1] at h
  by_cases hw : Region.wanted oj (yielded ops a.tmps) = true
  · rw [if_pos hw] at h ⊢
    by_cases hA : acts.contains j = true
    · rw [if_pos hA] at h ⊢
      unfold Oper.wp at *
      rw [execOp_put oj hsj a oi.dst v h1] at h
      generalize (execOp a.eval oj).run P w = r at *
      cases r with
      | ok n w' =>
        cases n <;> simp only [Oper.upon] at h ⊢
        case value u => exact ⟨h.1, keep a hy u, by rw [← Act.put_comm a v u h2]; exact h.2⟩
        case skip => exact ⟨h.1, keep a hy _, by rw [← Act.put_comm a v undef h2]; exact h.2⟩
        case defer d =>
          refine ⟨h.1, keep _ (keepD _) _, ?_⟩
          have := h.2
          rw [Act.put_defers, Act.put_comm _ v undef h2] at this
          exact this
        case enter f args =>
          refine Calls.mono h (fun e w'' he => ?_)
          cases e with
          | returned u => exact ⟨he.1, keep a hy u, by rw [← Act.put_comm a v u h2]; exact he.2⟩
          | panicked c => exact he.elim
          | outgrown => obtain ⟨_, _, hf⟩ := he; exact hf.elim
        case row row args => exact Rows.mono h (fun u w'' he => ⟨he.1, keep a hy u, by rw [← Act.put_comm a v u h2]; exact he.2⟩)
      | halt x w' => cases x <;> simp only [Oper.upon] at h ⊢ <;> exact h.elim
    · rw [if_neg hA] at h ⊢
      obtain ⟨u, hu, hn⟩ := h
      refine ⟨u, fun w' hw' => ?_, keep a hy u, by rw [← Act.put_comm a v u h2]; exact hn⟩
      have := hu w' hw'
      rwa [execOp_put oj hsj a oi.dst v h1] at this
  · rw [if_neg hw] at h ⊢
    exact ⟨keep a hy _, by rw [← Act.put_comm a v undef h2]; exact h⟩

theorem mixAny_still {Q : Act → World → Prop} {i : Nat} {oi : Oper} {v : Value} (hi : ops[i]? = some oi) (hsel : ∀ (j : Nat) (o : Oper) cs b, ops[j]? = some o → o.op ≠ .select cs b) :
    ∀ (fuel : Nat) (listed : Array Bool) (a : Act) (w : World),
      (∀ j oj, ops[j]? = some oj → j ≠ i → listed.getD j true = false → (∀ e ∈ oj.after, Region.binds .any e = true → e.on ≠ i) → oi.apart ops oj = true) →
      i ∈ Region.ready .any ops listed → YieldsM P ops acts C i oi v a →
      mixAny P ops acts C Q fuel (listed.setIfInBounds i true) (a.put oi.dst v) w → mixAny P ops acts C Q (fuel + 1) listed a w := by
  intro fuel
  induction fuel with
  | zero =>
    intro listed a w _ hr hy H
    refine ⟨fun h => (by rw [h] at hr; cases hr), fun j hj => ?_⟩
    by_cases hji : j = i
    · subst hji; exact hy.mOp hi H
    · have := ready_mono hj hji
      rw [H.1] at this
      cases this
  | succ fuel ih =>
    intro listed a w hfree hr hy H
    refine ⟨fun h => (by rw [h] at hr; cases hr), fun j hj => ?_⟩
    by_cases hji : j = i
    · subst hji; exact hy.mOp hi H
    · have h1 := H.2 j (ready_mono hj hji)
      obtain ⟨hjun, oj, hoj, hall⟩ := mem_ready.1 hj
      have hnot : ∀ e ∈ oj.after, Region.binds .any e = true → e.on ≠ i := fun e he hb heq => by
        have h1 := hall e he hb
        rw [heq, getD_both (mem_ready.1 hr).1] at h1
        cases h1
      have h2 := mOp_put hoj (hfree j oj hoj hji hjun hnot) (fun cs b => hsel i oi cs b hi) (fun cs b => hsel j oj cs b hoj) hy h1
      have hfree' : ∀ k ok, ops[k]? = some ok → k ≠ i → (listed.setIfInBounds j true).getD k true = false →
          (∀ e ∈ ok.after, Region.binds .any e = true → e.on ≠ i) → oi.apart ops ok = true := fun k ok hk hki hun hno => by
        refine hfree k ok hk hki ?_ hno
        by_cases hjk : j = k
        · subst hjk; exact hjun
        · rw [getD_set_ne true hjk] at hun; exact hun
      refine mOp_mono (fun a' w' h3 => ih (listed.setIfInBounds j true) a' w' hfree' (ready_mono hr (Ne.symm hji)) h3.1 ?_) h2
      rw [Array.setIfInBounds_comm _ _ hji]
      exact h3.2

theorem put_un {o : Oper} {a : Act} {d : List Deferred} {u : Value} {oj : Oper} (hsj : ∀ cs b, oj.op ≠ .select cs b) (h1 : ∀ t, o.dst = some t → t ∉ oj.looksAt ops) :
    execOp (({ a with defers := d } : Act).put o.dst u).eval oj = execOp a.eval oj ∧ Region.wanted oj (yielded ops (({ a with defers := d } : Act).put o.dst u).tmps) = Region.wanted oj (yielded ops a.tmps) := by
  refine ⟨?_, ?_⟩
  · rw [execOp_put oj hsj _ o.dst u h1]; rfl
  · rw [wanted_put oj _ o.dst u h1]

/-- What a state behind i says of another operation that reads. -/
theorem yields_of_mOp {j : Nat} {oj : Oper} (hj : ops[j]? = some oj) (hA : acts.contains j = false) {K : Act → World → Prop} {a : Act} {w : World} (h : mOp P ops acts C j K a w) :
    ∃ v, YieldsM P ops acts C j oj v a ∧ K (a.put oj.dst v) w := by
  unfold mOp at h
  simp only [hj] at h
  by_cases hw : Region.wanted oj (yielded ops a.tmps) = true
  · rw [if_pos hw, if_neg (by rw [hA]; exact Bool.false_ne_true)] at h
    obtain ⟨v, h1, h2⟩ := h
    exact ⟨v, .inl ⟨hw, hA, h1⟩, h2⟩
  · rw [if_neg hw] at h
    exact ⟨undef, .inr ⟨by simpa using hw, rfl⟩, h⟩

theorem YieldsM.det {j : Nat} {oj : Oper} {a : Act} {v u : Value} (h : YieldsM P ops acts C j oj v a) (k : YieldsM P ops acts C j oj u a) {w : World} (hw : C w) : v = u := by
  rcases h with ⟨h1, _, h2⟩ | ⟨h1, h2⟩ <;> rcases k with ⟨k1, _, k2⟩ | ⟨k1, k2⟩
  · exact stillUpon_eq (h2 w hw) (k2 w hw)
  · rw [h1] at k1; cases k1
  · rw [h1] at k1; cases k1
  · rw [h2, k2]

theorem mixAny_act {Q : Act → World → Prop} {i : Nat} {oi : Oper} (hi : ops[i]? = some oi) (hsel : ∀ (j : Nat) (o : Oper) cs b, ops[j]? = some o → o.op ≠ .select cs b)
    (hA : acts.contains i = true) :
    ∀ (fuel : Nat) (listed : Array Bool) (a : Act) (w : World), Closed ops listed →
      (∀ j oj, ops[j]? = some oj → j ≠ i → listed.getD j true = false → (∀ e ∈ oj.after, Region.binds .any e = true → e.on ≠ i) → oi.apart ops oj = true) →
      (∀ listed', Closed ops listed' → listed'.getD i false = false → (∀ k, listed.getD k false = true → listed'.getD k false = true) → ∀ j ∈ Region.ready .any ops listed', j ≠ i → acts.contains j = false) →
      i ∈ Region.ready .any ops listed → Region.wanted oi (yielded ops a.tmps) = true →
      oi.wp P a w (fun a' w' => (lastB ops i = true ∨ C w') ∧ mixAny P ops acts C Q fuel (listed.setIfInBounds i true) a' w') NoExit → mixAny P ops acts C Q (fuel + 1) listed a w := by
  intro fuel
  have self : ∀ (fuel : Nat) (listed : Array Bool) (a : Act) (w : World), Region.wanted oi (yielded ops a.tmps) = true →
      oi.wp P a w (fun a' w' => (lastB ops i = true ∨ C w') ∧ mixAny P ops acts C Q fuel (listed.setIfInBounds i true) a' w') NoExit → mOp P ops acts C i (mixAny P ops acts C Q fuel (listed.setIfInBounds i true)) a w := by
    intro fuel listed a w hw H
    unfold mOp
    simp only [hi]
    rw [if_pos hw, if_pos hA]
    exact H
  induction fuel with
  | zero =>
    intro listed a w inv _ _ hr hw H
    refine ⟨fun h => (by rw [h] at hr; cases hr), fun j hj => ?_⟩
    by_cases hji : j = i
    · subst hji; exact self _ _ _ _ hw H
    · obtain ⟨a', w', hc, hm⟩ := wp_some H
      have := ready_mono hj hji
      rw [hm.1] at this
      cases this
  | succ fuel ih =>
    intro listed a w inv hfree hoth hr hw H
    have hun : listed.getD i false = false := getD_both (mem_ready.1 hr).1
    refine ⟨fun h => (by rw [h] at hr; cases hr), fun j hj => ?_⟩
    by_cases hji : j = i
    · subst hji; exact self _ _ _ _ hw H
    · have hnl : ¬ lastB ops i = true := fun e => hji (last_only inv e hr hj)
      obtain ⟨hjun, oj, hoj, hall⟩ := mem_ready.1 hj
      have hnot : ∀ e ∈ oj.after, Region.binds .any e = true → e.on ≠ i := fun e he hb heq => by
        have h1 := hall e he hb
        rw [heq, hun] at h1
        cases h1
      have hap := hfree j oj hoj hji hjun hnot
      obtain ⟨h1, h2, h3⟩ := Oper.apart_spec hap
      have hsi : ∀ cs b, oi.op ≠ .select cs b := fun cs b => hsel i oi cs b hi
      have hsj : ∀ cs b, oj.op ≠ .select cs b := fun cs b => hsel j oj cs b hoj
      have hAj := hoth listed inv hun (fun k h => h) j hj hji
      have HT := wp_track H
      obtain ⟨a1, w1, ⟨hc1, hm1⟩, d1, u1, ha1⟩ := wp_some HT
      obtain ⟨v, hy1, _⟩ := yields_of_mOp hoj hAj (hm1.2 j (ready_mono hj hji))
      have hyj : YieldsM P ops acts C j oj v a := by
        have e := put_un (ops := ops) (a := a) (d := d1) (u := u1) hsj h1
        rw [ha1] at hy1
        exact hy1.of_same e.1.symm e.2.symm
      refine hyj.mOp hoj ?_
      have hfree' : ∀ k ok, ops[k]? = some ok → k ≠ i → (listed.setIfInBounds j true).getD k true = false →
          (∀ e ∈ ok.after, Region.binds .any e = true → e.on ≠ i) → oi.apart ops ok = true := fun k ok hk hki hun' hno => by
        refine hfree k ok hk hki ?_ hno
        by_cases hjk : j = k
        · subst hjk; exact hjun
        · rw [getD_set_ne true hjk] at hun'; exact hun'
      refine ih (listed.setIfInBounds j true) (a.put oj.dst v) w (inv.set hj) hfree' (fun l' hl' hu' hsub => hoth l' hl' hu' (fun k hk => hsub k (getD_set_true hk))) (ready_mono hr (Ne.symm hji)) ?_ ?_
      · rw [wanted_put oi a oj.dst v h3]; exact hw
      · -- i, behind j
        have HT2 : oi.wp P a w (fun a' w' => (lastB ops i = true ∨ C w') ∧ mixAny P ops acts C Q fuel ((listed.setIfInBounds j true).setIfInBounds i true) (a'.put oj.dst v) w') NoExit := by
          refine wp_noExit (fun a' w' hk => ?_) HT
          obtain ⟨⟨hc', hm'⟩, d', u', ha'⟩ := hk
          obtain ⟨v', hy', hk'⟩ := yields_of_mOp hoj hAj (hm'.2 j (ready_mono hj hji))
          have hv : v' = v := by
            have e := put_un (ops := ops) (a := a) (d := d') (u := u') hsj h1
            rw [ha'] at hy'
            exact (hy'.of_same e.1.symm e.2.symm).det hyj (hc'.resolve_left hnl)
          subst hv
          refine ⟨hc', ?_⟩
          rw [Array.setIfInBounds_comm _ _ hji]
          exact hk'
        unfold Oper.wp at HT2 ⊢
        rw [execOp_put oi hsi a oj.dst v h3]
        generalize (execOp a.eval oi).run P w = r at *
        have h2' : ∀ d, oj.dst = some d → oi.dst ≠ some d := fun d hd he => h2 d he hd
        cases r with
        | ok n w' =>
          cases n <;> simp only [Oper.upon] at HT2 ⊢
          case value u => exact ⟨HT2.1, by rw [Act.put_comm a v u h2']; exact HT2.2⟩
          case skip => exact ⟨HT2.1, by rw [Act.put_comm a v undef h2']; exact HT2.2⟩
          case defer d => exact ⟨HT2.1, by rw [Act.put_defers, Act.put_comm _ v undef h2']; exact HT2.2⟩
          case enter f args =>
            refine Calls.mono HT2 (fun e w'' he => ?_)
            cases e with
            | returned u => exact ⟨he.1, by rw [Act.put_comm a v u h2']; exact he.2⟩
            | panicked c => exact he.elim
            | outgrown => obtain ⟨_, _, hf⟩ := he; exact hf.elim
          case row row args => exact Rows.mono HT2 (fun u w'' he => ⟨he.1, by rw [Act.put_comm a v u h2']; exact he.2⟩)
        | halt x w' => cases x <;> simp only [Oper.upon] at HT2 ⊢ <;> exact HT2.elim

def actsB (ops : Array Oper) (acts : List Nat) : Bool := acts.all fun k => chainOK ops (k :: acts.filter (fun j => decide (k < j)))

theorem mixAny_lex {Q : Act → World → Prop} (hs : Region.noSelect ops = true) (hacts : actsB ops acts = true) : ∀ (l : List Oper) (k : Nat) (listed : Array Bool) (a : Act) (w : World),
    (∀ j, l[j]? = ops[k + j]?) → (∀ m, m < k → listed.getD m false = true) → Closed ops listed →
    Region.lexFrom .any ops l.length k listed = true → wpMix P ops acts C Q k l a w → mixAny P ops acts C Q l.length listed a w
  | [], _, _, _, _, _, _, _, hB, h => ⟨by simpa [Region.lexFrom] using hB, h⟩
  | o :: l, k, listed, a, w, hl, hpre, inv, hB, h => by
    have h0 : ops[k]? = some o := by simpa using (hl 0).symm
    simp only [List.length_cons, Region.lexFrom, Bool.and_eq_true] at hB
    obtain ⟨⟨hr, hf⟩, hB'⟩ := hB
    have hr' : k ∈ Region.ready .any ops listed := by simpa using hr
    have hl' : ∀ j, l[j]? = ops[k + 1 + j]? := fun j => by have := hl (j + 1); simpa [Nat.add_assoc, Nat.add_comm 1 j] using this
    have hks : k < listed.size := by
      rcases Nat.lt_or_ge k listed.size with h' | h'
      · exact h'
      · have := (mem_ready.1 hr').1
        simp [Array.getElem?_eq_none h'] at this
    have hpre' : ∀ m, m < k + 1 → (listed.setIfInBounds k true).getD m false = true := fun m hm => by
      rcases Nat.lt_or_ge m k with h' | h'
      · exact getD_set_true (hpre m h')
      · have : m = k := by omega
        subst this
        simp [hks]
    have hsel := Region.noSelect_spec hs
    simp only [wpMix] at h
    by_cases hw : Region.wanted o (yielded ops a.tmps) = true
    · rw [if_pos hw] at h
      by_cases hA : acts.contains k = true
      · rw [if_pos hA] at h
        refine mixAny_act h0 hsel hA l.length listed a w inv (Region.free_spec h0 hf) ?_ hr' hw (wp_noExit (fun a' w' hk => ⟨hk.1, mixAny_lex hs hacts l (k + 1) _ a' w' hl' hpre' (inv.set hr') hB' hk.2⟩) h)
        intro listed' inv' hun' hsub j hj hjk
        cases hAj : acts.contains j with
        | false => rfl
        | true =>
          exfalso
          rcases Nat.lt_or_ge j k with hlt | hge
          · have h1 := hsub j (hpre j hlt)
            have h2 := getD_both (mem_ready.1 hj).1
            rw [h1] at h2; cases h2
          · have hk : k ∈ acts := by simpa using hA
            have hj' : j ∈ acts := by simpa using hAj
            have hch := List.all_eq_true.1 hacts k hk
            exact (chain_un inv' _ k hch hun' j (List.mem_filter.2 ⟨hj', by simpa using (by omega : k < j)⟩)).2 hj
      · rw [if_neg hA] at h
        obtain ⟨v, h1, h2⟩ := h
        exact mixAny_still h0 hsel l.length listed a w (Region.free_spec h0 hf) hr' (.inl ⟨hw, by simpa using hA, h1⟩) (mixAny_lex hs hacts l (k + 1) _ _ w hl' hpre' (inv.set hr') hB' h2)
    · rw [if_neg hw] at h
      exact mixAny_still h0 hsel l.length listed a w (Region.free_spec h0 hf) hr' (.inr ⟨by simpa using hw, rfl⟩) (mixAny_lex hs hacts l (k + 1) _ _ w hl' hpre' (inv.set hr') hB' h)

/-- **One walk of the order of the text serves every order.** acts: the numbers of the operations that act on the world. -/
theorem wp_region_mix {id : Nat} {Q : Exit → Act → World → Prop} {a : Act} {w : World} {l : List Oper} (acts : List Nat) (C : World → Prop) (hm : P.follows .mixedOrders = true)
    (hB : (Region.lexB .any l.toArray && actsB l.toArray acts) = true) (hC : C w.drew)
    (h : wpMix P l.toArray acts C (fun a' w' => Q .normal a' w') 0 l a w.drew) : (Code.region id l.toArray true).wp P Q a w := by
  simp only [Region.lexB, Bool.and_eq_true] at hB
  refine wp_region_any hm (wpAny_of_mix (Q := fun a' w' => Q .normal a' w') (C := C) (acts := acts) (fun _ _ h => h) _ _ _ _ hC (fun j oj _ hl => by rw [getD_replicate_false] at hl; cases hl) ?_)
  have := mixAny_lex (C := C) hB.1.1 hB.2 l 0 (Array.replicate l.toArray.size false) a w.drew (by simp) (fun m hm => absurd hm (by omega))
    (fun j oj _ hl => by rw [getD_replicate_false] at hl; cases hl) (by simpa using hB.1.2) h
  simpa using this

/-! The steps of the walk. -/
theorem mix_nil {Q : Act → World → Prop} {k : Nat} {a : Act} {w : World} (h : Q a w) : wpMix P ops acts C Q k [] a w := h
theorem mix_skip {Q : Act → World → Prop} {k : Nat} {o : Oper} {rest : List Oper} {a : Act} {w : World} (hw : Region.wanted o (yielded ops a.tmps) = false)
    (h : wpMix P ops acts C Q (k + 1) rest (a.put o.dst undef) w) : wpMix P ops acts C Q k (o :: rest) a w := by
  simp only [wpMix]
  rw [if_neg (by rw [hw]; exact Bool.false_ne_true)]
  exact h
theorem mix_still {Q : Act → World → Prop} {k : Nat} {o : Oper} {rest : List Oper} {a : Act} {w : World} (hw : Region.wanted o (yielded ops a.tmps) = true) (hA : acts.contains k = false)
    (h : ∀ K : Act → Prop, (∀ a', wpMix P ops acts C Q (k + 1) rest a' w → K a') → ∃ v, (∀ w', C w' → stillUpon v w' ((execOp a.eval o).run P w')) ∧ K (a.put o.dst v)) :
    wpMix P ops acts C Q k (o :: rest) a w := by
  simp only [wpMix]
  rw [if_pos hw, if_neg (by rw [hA]; exact Bool.false_ne_true)]
  exact h _ (fun _ h => h)
theorem mix_act {Q : Act → World → Prop} {k : Nat} {o : Oper} {rest : List Oper} {a : Act} {w : World} (hw : Region.wanted o (yielded ops a.tmps) = true) (hA : acts.contains k = true)
    (h : ∀ K : Act → World → Prop, (∀ a' w', C w' ∧ wpMix P ops acts C Q (k + 1) rest a' w' → K a' w') → o.wp P a w K NoExit) :
    wpMix P ops acts C Q k (o :: rest) a w := by
  simp only [wpMix]
  rw [if_pos hw, if_pos hA]
  exact h _ (fun _ _ h => ⟨.inr h.1, h.2⟩)
/-- The last operation, for which all others have come: the class is not asked any more. -/
theorem mix_last {Q : Act → World → Prop} {k : Nat} {o : Oper} {a : Act} {w : World} (hw : Region.wanted o (yielded ops a.tmps) = true) (hA : acts.contains k = true) (hl : lastB ops k = true)
    (h : ∀ K : Act → World → Prop, (∀ a' w', Q a' w' → K a' w') → o.wp P a w K NoExit) :
    wpMix P ops acts C Q k [o] a w := by
  simp only [wpMix]
  rw [if_pos hw, if_pos hA]
  exact h _ (fun _ _ h => ⟨.inl hl, h⟩)

end

/-- Operations that read and reckon. -/
def plainOp : Op → Bool
  | .move _ | .assign _ | .pick .. | .load .. | .nilCheck _ | .binOp .. | .unOp .. | .convert .. | .fieldAddr .. | .field .. | .indexAddr .. | .index .. | .slice .. | .makeInterface .. | .makeFunc .. | .lookup .. | .extract .. | .build .. => true
  | .call { callee := .builtin .len, .. } | .call { callee := .builtin .cap, .. } | .call { callee := .builtin .min, .. } | .call { callee := .builtin .max, .. } => true
  | _ => false

theorem runV {P : Program} {s : Sem Value} {w w' : World} {n : Next} (h : ((do pure (Next.value (← s))) : Sem Next).run P w = .ok n w') : ∃ u, n = .value u := by
  simp only [Sem.run_bind] at h
  cases hs : s.run P w with
  | ok x w1 => rw [hs] at h; simp [Result.andThen] at h; exact ⟨_, h.1.symm⟩
  | halt x w1 => rw [hs] at h; simp [Result.andThen] at h

theorem runV' {r : Result Value} {w' : World} {n : Next} (h : (r.andThen fun a w' => Result.ok (Next.value a) w') = .ok n w') : ∃ u, n = .value u := by
  cases r with
  | ok x w1 => simp [Result.andThen] at h; exact ⟨_, h.1.symm⟩
  | halt x w1 => simp [Result.andThen] at h

theorem plain_value {P : Program} {o : Oper} {ρ : Operand → Value} {w w' : World} {n : Next} (hp : plainOp o.op = true) (h : (execOp ρ o).run P w = .ok n w') : ∃ u, n = .value u := by
  obtain ⟨dst, op, type, pos, after, guard⟩ := o
  unfold execOp at h
  cases op
  case move x => simp [Sem.run_pure] at h; exact ⟨_, h.1.symm⟩
  case assign x => simp [Sem.run_pure] at h; exact ⟨_, h.1.symm⟩
  case pick c a b =>
    simp only [Sem.run_bind] at h
    cases hs : (asBool (ρ c)).run P w with
    | ok x w1 => rw [hs] at h; simp [Result.andThen] at h; exact ⟨_, h.1.symm⟩
    | halt x w1 => rw [hs] at h; simp [Result.andThen] at h
  case nilCheck x =>
    simp only at h
    split at h
    · simp [runtimePanic, Sem.run_bind] at h
    · simp [runtimePanic, Sem.run_bind] at h
    · simp [runtimePanic, Sem.run_bind] at h
    · split at h
      · simp [runtimePanic, Sem.run_bind] at h
      · simp only [Sem.run_bind, Result.andThen] at h
        (repeat' split at h) <;> first | (simp [unsupported, halt, Sem.run] at h; done) | (simp [Sem.run_pure] at h; done) | (simp [Sem.run_pure] at h; obtain ⟨h, _⟩ := h; exact ⟨_, h.symm⟩)
      · simp [Sem.run_pure] at h; exact ⟨_, h.1.symm⟩
    · simp [Sem.run_pure] at h; exact ⟨_, h.1.symm⟩
  case call c =>
    obtain ⟨callee, args, argTypes⟩ := c
    cases callee with
    | value f => simp [plainOp] at hp
    | invoke r m => simp [plainOp] at hp
    | builtin b =>
      cases b <;> first
        | (simp [plainOp] at hp; done)
        | (simp only [resolve, invoke, builtin, Sem.run_bind, Sem.run_pure, Result.andThen_ok] at h
           exact runV' h)
  all_goals first
    | (simp [plainOp] at hp; done)
    | exact runV h

/-- A reading operation, by the walk's own steps: in each world of the class it leaves the same frame and the world as it is. -/
theorem mix_read {P : Program} {ops : Array Oper} {C : World → Prop} {acts : List Nat} {Q : Act → World → Prop} {k : Nat} {o : Oper} {rest : List Oper} {a : Act} {w : World} {d : Tmp}
    (hw : Region.wanted o (yielded ops a.tmps) = true) (hA : acts.contains k = false) (hp : plainOp o.op = true) (hd : o.dst = some d) (hs : d < a.tmps.size)
    (hh : ∃ a1 v, (∀ w', C w' → ∀ K : Act → World → Prop, (∀ a' w'', a1 = a' ∧ w' = w'' → K a' w'') → o.wp P a w' K NoExit) ∧ a.put (some d) v = a1 ∧
      wpMix P ops acts C Q (k + 1) rest a1 w) : wpMix P ops acts C Q k (o :: rest) a w := by
  obtain ⟨a1, v, h, ha, hk⟩ := hh
  simp only [wpMix]
  rw [if_pos hw, if_neg (by rw [hA]; exact Bool.false_ne_true)]
  refine ⟨v, fun w' hw' => ?_, by rw [hd, ha]; exact hk⟩
  have h1 := h w' hw' (fun a' w'' => a1 = a' ∧ w' = w'') (fun _ _ h => h)
  unfold Oper.wp at h1
  cases hr : (execOp a.eval o).run P w' with
  | halt x w1 => rw [hr] at h1; cases x <;> simp only [Oper.upon] at h1 <;> exact h1.elim
  | ok n w1 =>
    obtain ⟨u, rfl⟩ := plain_value hp hr
    rw [hr] at h1
    simp only [Oper.upon, hd] at h1
    refine ⟨h1.2.symm, ?_⟩
    have h2 := ha.trans h1.1
    simp only [Act.put] at h2
    have h3 := congrArg (fun (x : Act) => x.tmps[d]?) h2
    simp only [Array.getElem?_setIfInBounds_self_of_lt hs] at h3
    exact (Option.some.inj h3).symm

/-- The worlds of which J holds, as a class that the walk sees through. -/
structure Cls (J : World → Prop) where
  W : World
  h : J W
def InC (J : World → Prop) : World → Prop := fun w' => ∃ X : Cls J, w' = X.W
theorem InC.mk {J : World → Prop} {w : World} (h : J w) : InC J w := ⟨⟨w, h⟩, rfl⟩
theorem InC.out {J : World → Prop} {w : World} (h : InC J w) : J w := by obtain ⟨X, rfl⟩ := h; exact X.h

/-- What lay below B in w lies so in each world of the class. -/
theorem sub_cell {B : Nat} {w : World} (X : Cls fun W => Below B w W) (b o : Nat) (h : b < B) : X.W.cell? ⟨b, o, none⟩ = w.cell? ⟨b, o, none⟩ := X.h.cell (p := ⟨b, o, none⟩) h
theorem sub_frozen {B : Nat} {w : World} (X : Cls fun W => Below B w W) (b o : Nat) (h : b < B) : X.W.frozen? ⟨b, o, none⟩ = w.frozen? ⟨b, o, none⟩ := X.h.frozen (p := ⟨b, o, none⟩) h
theorem sub_heap {B : Nat} {w : World} (X : Cls fun W => Below B w W) (b : Nat) (h : b < B) : X.W.heap[b]? = w.heap[b]? := X.h.block b h
theorem but_cell {S : Nat → Prop} {B : Nat} {w : World} (X : Cls fun W => But S B w W) (b o : Nat) (h : b < B) (hs : ¬ S b) : X.W.cell? ⟨b, o, none⟩ = w.cell? ⟨b, o, none⟩ := X.h.cell (p := ⟨b, o, none⟩) h hs
theorem but_frozen {S : Nat → Prop} {B : Nat} {w : World} (X : Cls fun W => But S B w W) (b o : Nat) (h : b < B) (hs : ¬ S b) : X.W.frozen? ⟨b, o, none⟩ = w.frozen? ⟨b, o, none⟩ := X.h.frozen (p := ⟨b, o, none⟩) h hs

attribute [go_sem] InC sub_cell sub_frozen sub_heap but_cell but_frozen

/-- The region's law with its class made of what was below: the tool that is used most. -/
theorem wp_region_sub {P : Program} {id : Nat} {Q : Exit → Act → World → Prop} {a : Act} {w : World} {l : List Oper} (acts : List Nat) (J : World → Prop) (hm : P.follows .mixedOrders = true)
    (hB : (Region.lexB .any l.toArray && actsB l.toArray acts) = true) (hC : J w.drew)
    (h : Nonempty (Cls J) → wpMix P l.toArray acts (InC J) (fun a' w' => Q .normal a' w') 0 l a w.drew) : (Code.region id l.toArray true).wp P Q a w :=
  wp_region_mix acts (InC J) hm hB (.mk hC) (h ⟨⟨_, hC⟩⟩)

end Go.Proofs.Ytkeiafiembfaeaa
