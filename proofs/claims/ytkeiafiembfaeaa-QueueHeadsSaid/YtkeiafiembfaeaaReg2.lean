/- Regions that draw their order, where two operations that act on the world are not ordered: one walk for each of the two orders. Plain theorems, no program. -/
import Derived.Test.YtkeiafiembfaeaaReg
set_option linter.unusedSimpArgs false
set_option linter.unusedVariables false
namespace Go.Proofs.Ytkeiafiembfaeaa
open Go.RowKit

section
variable {P : Program} {ops : Array Oper} {C : World → Prop} {acts : List Nat}

/-- The walk in an order of one's own. -/
def wpMixO (P : Program) (ops : Array Oper) (acts : List Nat) (C : World → Prop) (Q : Act → World → Prop) : List Nat → Act → World → Prop
  | [], a, w => Q a w
  | k :: rest, a, w => mOp P ops acts C k (wpMixO P ops acts C Q rest) a w

def ordFrom (ops : Array Oper) : List Nat → Array Bool → Bool
  | [], listed => (Region.ready .any ops listed).isEmpty
  | k :: rest, listed => (Region.ready .any ops listed).contains k && Region.free .any ops listed k && ordFrom ops rest (listed.setIfInBounds k true)

/-- The acting ones come in this order, each waiting for the one before. -/
def actsO (ops : Array Oper) (acts : List Nat) : List Nat → Bool
  | [] => true
  | k :: rest => (!acts.contains k || chainOK ops (k :: rest.filter (fun j => acts.contains j))) && actsO ops acts rest

theorem mixAny_ord {Q : Act → World → Prop} (hs : Region.noSelect ops = true) : ∀ (ord done : List Nat) (listed : Array Bool) (a : Act) (w : World),
    (∀ m ∈ done, listed.getD m false = true) → (∀ m, acts.contains m = true → m ∈ done ∨ m ∈ ord) → Closed ops listed → actsO ops acts ord = true →
    ordFrom ops ord listed = true → wpMixO P ops acts C Q ord a w → mixAny P ops acts C Q ord.length listed a w
  | [], _, _, _, _, _, _, _, _, hB, h => ⟨by simpa [ordFrom] using hB, h⟩
  | k :: ord, done, listed, a, w, hpre, hall, inv, hact, hB, h => by
    simp only [ordFrom, Bool.and_eq_true] at hB
    obtain ⟨⟨hr, hf⟩, hB'⟩ := hB
    have hr' : k ∈ Region.ready .any ops listed := by simpa using hr
    obtain ⟨hkun, o, h0, _⟩ := mem_ready.1 hr'
    simp only [actsO, Bool.and_eq_true] at hact
    have hks : k < listed.size := by
      rcases Nat.lt_or_ge k listed.size with h' | h'
      · exact h'
      · simp [Array.getElem?_eq_none h'] at hkun
    have hpre' : ∀ m ∈ k :: done, (listed.setIfInBounds k true).getD m false = true := fun m hm => by
      rcases List.mem_cons.1 hm with rfl | hm
      · simp [hks]
      · exact getD_set_true (hpre m hm)
    have hall' : ∀ m, acts.contains m = true → m ∈ k :: done ∨ m ∈ ord := fun m hm => by
      rcases hall m hm with h1 | h1
      · exact .inl (List.mem_cons_of_mem _ h1)
      · rcases List.mem_cons.1 h1 with rfl | h1
        · exact .inl (List.mem_cons_self ..)
        · exact .inr h1
    have hsel := Region.noSelect_spec hs
    have go := fun (a' : Act) (w' : World) (h' : wpMixO P ops acts C Q ord a' w') => mixAny_ord hs ord (k :: done) _ a' w' hpre' hall' (inv.set hr') hact.2 hB' h'
    simp only [wpMixO, mOp, h0] at h
    by_cases hw : Region.wanted o (yielded ops a.tmps) = true
    · rw [if_pos hw] at h
      by_cases hA : acts.contains k = true
      · rw [if_pos hA] at h
        refine mixAny_act h0 hsel hA ord.length listed a w inv (Region.free_spec h0 hf) ?_ hr' hw (wp_noExit (fun a' w' hk => ⟨hk.1, go a' w' hk.2⟩) h)
        intro listed' inv' hun' hsub j hj hjk
        cases hAj : acts.contains j with
        | false => rfl
        | true =>
          exfalso
          rcases hall j hAj with h1 | h1
          · have h3 := hsub j (hpre j h1)
            have h2 := getD_both (mem_ready.1 hj).1
            rw [h3] at h2; cases h2
          · rcases List.mem_cons.1 h1 with rfl | h1
            · exact hjk rfl
            · have hch : chainOK ops (k :: ord.filter (fun j => acts.contains j)) = true := by
                have h4 := hact.1
                rw [hA] at h4
                simpa using h4
              exact (chain_un inv' _ k hch hun' j (List.mem_filter.2 ⟨h1, hAj⟩)).2 hj
      · rw [if_neg hA] at h
        obtain ⟨v, h1, h2⟩ := h
        exact mixAny_still h0 hsel ord.length listed a w (Region.free_spec h0 hf) hr' (.inl ⟨hw, by simpa using hA, h1⟩) (go _ _ h2)
    · rw [if_neg hw] at h
      exact mixAny_still h0 hsel ord.length listed a w (Region.free_spec h0 hf) hr' (.inr ⟨by simpa using hw, rfl⟩) (go _ _ h)

/-- l lists the rest, each behind what it waits for. -/
def LinFrom (ops : Array Oper) : Array Bool → List Nat → Prop
  | listed, [] => Region.ready .any ops listed = []
  | listed, i :: l => i ∈ Region.ready .any ops listed ∧ LinFrom ops (listed.setIfInBounds i true) l

theorem wpOps_of_any {Q : Exit → Act → World → Prop} : ∀ (fuel : Nat) (l : List Nat) (listed : Array Bool) (a : Act) (w : World), LinFrom ops listed l → wpAny P .any ops Q fuel listed a w → wpOps P ops Q l a w
  | 0, [], _, _, _, _, h => h.2
  | 0, i :: l, _, _, _, hl, h => by have := hl.1; rw [h.1] at this; cases this
  | fuel + 1, [], _, _, _, hl, h => h.1 hl
  | fuel + 1, i :: l, listed, a, w, hl, h => by
    rw [wpOps_cons]
    exact wpOp_mono (fun a' w' h' => wpOps_of_any fuel l _ a' w' hl.2 h') (h.2 i hl.1)

/-- How many are still to be listed. -/
def unl (listed : Array Bool) (n : Nat) : Nat := (List.range n).countP (fun i => !listed.getD i true)

theorem unl_set {listed : Array Bool} {n i : Nat} (hi : i < n) (hun : listed.getD i true = false) : unl (listed.setIfInBounds i true) n < unl listed n := by
  unfold unl
  induction n with
  | zero => omega
  | succ n ih =>
    rw [List.range_succ, List.countP_append, List.countP_append]
    by_cases he : i = n
    · subst he
      have h1 : (List.range i).countP (fun j => !(listed.setIfInBounds i true).getD j true) = (List.range i).countP (fun j => !listed.getD j true) := by
        apply List.countP_congr
        intro j hj
        have : i ≠ j := by have := List.mem_range.1 hj; omega
        rw [getD_set_ne true this]
      have hks : i < listed.size := by
        rcases Nat.lt_or_ge i listed.size with h' | h'
        · exact h'
        · simp [Array.getElem?_eq_none h'] at hun
      have hun' := hun
      simp [hks] at hun'
      rw [h1]
      simp [hks, hun']
    · have h2 := ih (by omega)
      have h3 : [n].countP (fun j => !(listed.setIfInBounds i true).getD j true) = [n].countP (fun j => !listed.getD j true) := by
        apply List.countP_congr
        intro j hj
        have : j = n := by simpa using hj
        subst this
        rw [getD_set_ne true he]
      rw [h3]; omega

theorem lin_of_go : ∀ (fuel t : Nat) (listed : Array Bool), unl listed ops.size ≤ fuel → LinFrom ops listed (Region.linearise.go .any ops fuel t listed []) := by
  intro fuel
  induction fuel with
  | zero =>
    intro t listed hf
    simp only [Region.linearise.go, List.reverse_nil, LinFrom]
    cases hr : Region.ready .any ops listed with
    | nil => rfl
    | cons i l =>
      exfalso
      have hi : i ∈ Region.ready .any ops listed := by rw [hr]; exact List.mem_cons_self ..
      obtain ⟨hun, o, ho, _⟩ := mem_ready.1 hi
      have := unl_set (n := ops.size) (Array.getElem?_eq_some_iff.1 ho).1 hun
      omega
  | succ fuel ih =>
    intro t listed hf
    simp only [Region.linearise.go]
    change LinFrom ops listed (match (Region.ready .any ops listed)[t % (Region.ready .any ops listed).length]? with
      | some i => Region.linearise.go .any ops fuel (t / (Region.ready .any ops listed).length) (listed.setIfInBounds i true) [i]
      | none => [].reverse)
    cases hi : (Region.ready .any ops listed)[t % (Region.ready .any ops listed).length]? with
    | none =>
      simp only [List.reverse_nil, LinFrom]
      cases hr : Region.ready .any ops listed with
      | nil => rfl
      | cons x xs =>
        rw [hr] at hi
        have hlt : t % (x :: xs).length < (x :: xs).length := Nat.mod_lt _ (by simp)
        simp at hi
        simp at hlt
        omega
    | some i =>
      simp only []
      rw [linearise_go_acc, List.reverse_singleton, List.singleton_append]
      have hmem := List.mem_of_getElem? hi
      obtain ⟨hun, o, ho, _⟩ := mem_ready.1 hmem
      have := unl_set (n := ops.size) (Array.getElem?_eq_some_iff.1 ho).1 hun
      exact ⟨hmem, ih _ _ (by omega)⟩

/-- Every order that the edges allow. -/
def wpLin (P : Program) (ops : Array Oper) (Q : Exit → Act → World → Prop) (a : Act) (w : World) : Prop :=
  ∀ l, LinFrom ops (Array.replicate ops.size false) l → wpOps P ops Q l a w

theorem wp_region_lin {id : Nat} {Q : Exit → Act → World → Prop} {a : Act} {w : World} (hm : P.follows .mixedOrders = true) (h : wpLin P ops Q a w.drew) : (Code.region id ops true).wp P Q a w :=
  wp_region_draw fun t => by
    simp only [Region.schedule, hm, Bool.true_or, if_true]
    refine h _ (lin_of_go _ _ _ ?_)
    unfold unl
    exact Nat.le_trans (List.countP_le_length) (by simp)

/-- One edge more: j waits for i. -/
def addE (ops : Array Oper) (i j : Nat) : Array Oper := ops.modify j (fun o => { o with after := o.after.push { on := i, ground := .data } })

theorem addE_get (ops : Array Oper) (i j k : Nat) : (addE ops i j)[k]? = (ops[k]?).map (fun o => if j = k then { o with after := o.after.push { on := i, ground := .data } } else o) := by
  unfold addE
  rw [Array.getElem?_modify]
  split
  · rfl
  · cases ops[k]? <;> rfl
@[simp] theorem addE_size (ops : Array Oper) (i j : Nat) : (addE ops i j).size = ops.size := by simp [addE]

theorem ready_addE {i j k : Nat} {listed : Array Bool} : k ∈ Region.ready .any (addE ops i j) listed ↔ k ∈ Region.ready .any ops listed ∧ (k = j → listed.getD i false = true) := by
  constructor
  · intro h
    obtain ⟨hun, o, ho, hall⟩ := mem_ready.1 h
    rw [addE_get] at ho
    cases hk : ops[k]? with
    | none => rw [hk] at ho; cases ho
    | some o' =>
      rw [hk] at ho
      simp only [Option.map_some, Option.some.injEq] at ho
      by_cases hjk : j = k
      · rw [if_pos hjk] at ho
        subst ho
        refine ⟨mem_ready.2 ⟨hun, o', hk, fun e he hb => hall e (by simp [he]) hb⟩, fun _ => ?_⟩
        exact hall { on := i, ground := .data } (by simp) rfl
      · rw [if_neg hjk] at ho
        subst ho
        exact ⟨mem_ready.2 ⟨hun, o', hk, hall⟩, fun e => absurd e.symm hjk⟩
  · rintro ⟨h, hj⟩
    obtain ⟨hun, o, ho, hall⟩ := mem_ready.1 h
    refine mem_ready.2 ⟨hun, _, by rw [addE_get, ho]; rfl, ?_⟩
    intro e he hb
    dsimp only at he
    by_cases hjk : j = k
    · rw [if_pos hjk] at he
      simp only [Array.mem_push] at he
      rcases he with he | he
      · exact hall e he hb
      · subst he; exact hj hjk.symm
    · rw [if_neg hjk] at he
      exact hall e he hb

theorem lin_addE_done {i j : Nat} : ∀ (l : List Nat) (listed : Array Bool), listed.getD i false = true → LinFrom ops listed l → LinFrom (addE ops i j) listed l
  | [], listed, hi, h => by
    simp only [LinFrom] at h ⊢
    cases hr : Region.ready .any (addE ops i j) listed with
    | nil => rfl
    | cons k l =>
      have : k ∈ Region.ready .any (addE ops i j) listed := by rw [hr]; exact List.mem_cons_self ..
      have := (ready_addE.1 this).1
      rw [h] at this; cases this
  | k :: l, listed, hi, h => ⟨ready_addE.2 ⟨h.1, fun _ => hi⟩, lin_addE_done l _ (getD_set_true hi) h.2⟩

theorem lin_split {i j : Nat} (hij : i ≠ j) : ∀ (l : List Nat) (listed : Array Bool), listed.size = ops.size → LinFrom ops listed l → LinFrom (addE ops i j) listed l ∨ LinFrom (addE ops j i) listed l
  | [], listed, hsz, h => by
    left
    simp only [LinFrom] at h ⊢
    cases hr : Region.ready .any (addE ops i j) listed with
    | nil => rfl
    | cons k l =>
      have : k ∈ Region.ready .any (addE ops i j) listed := by rw [hr]; exact List.mem_cons_self ..
      have := (ready_addE.1 this).1
      rw [h] at this; cases this
  | k :: l, listed, hsz, h => by
    obtain ⟨hun, o, ho, _⟩ := mem_ready.1 h.1
    have hks : k < listed.size := by rw [hsz]; exact (Array.getElem?_eq_some_iff.1 ho).1
    by_cases hki : k = i
    · subst hki
      left
      exact ⟨ready_addE.2 ⟨h.1, fun e => absurd e hij⟩, lin_addE_done l _ (by simp [hks]) h.2⟩
    · by_cases hkj : k = j
      · subst hkj
        right
        exact ⟨ready_addE.2 ⟨h.1, fun e => absurd e.symm hij⟩, lin_addE_done l _ (by simp [hks]) h.2⟩
      · rcases lin_split hij l (listed.setIfInBounds k true) (by simp [hsz]) h.2 with h1 | h1
        · exact .inl ⟨ready_addE.2 ⟨h.1, fun e => absurd e hkj⟩, h1⟩
        · exact .inr ⟨ready_addE.2 ⟨h.1, fun e => absurd e hki⟩, h1⟩

theorem wanted_addE {i j : Nat} (o : Oper) (x : Array Edge) (tm : Array Value) : Region.wanted { o with after := x } (yielded (addE ops i j) tm) = Region.wanted o (yielded ops tm) := by
  unfold Region.wanted
  cases o.guard with
  | none => rfl
  | some gw =>
    obtain ⟨g, want⟩ := gw
    have hy : yielded (addE ops i j) tm g = yielded ops tm g := by
      unfold yielded
      rw [addE_get]
      cases ops[g]? with
      | none => rfl
      | some o' =>
        simp only [Option.map_some, Option.bind_some]
        by_cases hjg : j = g
        · rw [if_pos hjg]
        · rw [if_neg hjg]
    simp only [hy]

theorem wpOps_addE {i j : Nat} {Q : Exit → Act → World → Prop} : ∀ (l : List Nat) (a : Act) (w : World), wpOps P (addE ops i j) Q l a w → wpOps P ops Q l a w
  | [], _, _, h => h
  | k :: l, a, w, h => by
    rw [wpOps_cons] at h ⊢
    unfold wpOp at h ⊢
    rw [addE_get] at h
    cases hk : ops[k]? with
    | none => rw [hk] at h; exact wpOps_addE l a w h
    | some o =>
      rw [hk] at h
      simp only [Option.map_some] at h
      have key : ∀ x, (if Region.wanted { o with after := x } (yielded (addE ops i j) a.tmps) = true then Oper.wp P { o with after := x } a w (wpOps P (addE ops i j) Q l) Q ∨ (Oper.asks P { o with after := x } a w ∧ LetsOut Q) else wpOps P (addE ops i j) Q l (a.put o.dst undef) w) →
          (if Region.wanted o (yielded ops a.tmps) = true then o.wp P a w (wpOps P ops Q l) Q ∨ (o.asks P a w ∧ LetsOut Q) else wpOps P ops Q l (a.put o.dst undef) w) := by
        intro x hx
        rw [wanted_addE] at hx
        split
        · rename_i hw
          rw [if_pos hw] at hx
          rcases hx with hx | hx
          · exact .inl (Oper.wp_mono (fun a' w' h' => wpOps_addE l a' w' h') hx)
          · exact .inr hx
        · rename_i hw
          rw [if_neg hw] at hx
          exact wpOps_addE l _ _ hx
      by_cases hjk : j = k
      · simp only [hjk, if_true] at h; subst hjk; exact key _ h
      · simp only [if_neg hjk] at h; exact key o.after h

/-- The two orders of i and j. -/
theorem wpLin_split {Q : Exit → Act → World → Prop} {a : Act} {w : World} (i j : Nat) (hij : i ≠ j) (h1 : wpLin P (addE ops i j) Q a w) (h2 : wpLin P (addE ops j i) Q a w) : wpLin P ops Q a w := by
  intro l hl
  rcases lin_split hij l _ (by simp) hl with h | h
  · exact wpOps_addE l a w (h1 l (by simpa using h))
  · exact wpOps_addE l a w (h2 l (by simpa using h))

/-- One order of the acting ones: one walk, in an order of one's own. -/
theorem wpLin_ord {Q : Exit → Act → World → Prop} {a : Act} {w : World} (ord acts : List Nat) (J : World → Prop)
    (hB : (Region.noSelect ops && ordFrom ops ord (Array.replicate ops.size false) && actsO ops acts ord && acts.all (fun m => ord.contains m) && (ord.length == ops.size)) = true) (hC : J w)
    (h : Nonempty (Cls J) → wpMixO P ops acts (InC J) (fun a' w' => Q .normal a' w') ord a w) : wpLin P ops Q a w := by
  simp only [Bool.and_eq_true, beq_iff_eq] at hB
  obtain ⟨⟨⟨⟨hs, ho⟩, ha⟩, hall⟩, hlen⟩ := hB
  intro l hl
  have hcl : Closed ops (Array.replicate ops.size false) := fun j oj _ hl => by rw [getD_replicate_false] at hl; cases hl
  have hm := mixAny_ord (C := InC J) hs ord [] (Array.replicate ops.size false) a w (fun m hm => by cases hm)
    (fun m hm => .inr (by have := List.all_eq_true.1 hall m (by simpa using hm); simpa using this)) hcl ha ho (h ⟨⟨_, hC⟩⟩)
  exact wpOps_of_any ord.length l _ a w hl (wpAny_of_mix (fun _ _ h => h) _ _ _ _ (.mk hC) hcl hm)

theorem waitsFor_addE {i j a b : Nat} (h : Region.waitsFor .any ops a b = true) : Region.waitsFor .any (addE ops i j) a b = true := by
  obtain ⟨o, ho, e, he, hb, hon⟩ := Region.waitsFor_spec h
  unfold Region.waitsFor
  rw [addE_get, ho]
  simp only [Option.map_some]
  refine Array.any_eq_true'.2 ⟨e, ?_, by simp [hb, hon]⟩
  by_cases hj : j = a
  · rw [if_pos hj]; simp [he]
  · rw [if_neg hj]; exact he

theorem waitsK_addE {i j b : Nat} : ∀ (n a : Nat), waitsK ops b n a = true → waitsK (addE ops i j) b n a = true
  | 0, _, h => waitsFor_addE h
  | n + 1, a, h => by
    simp only [waitsK, Bool.or_eq_true] at h ⊢
    rcases h with h | h
    · exact .inl (waitsFor_addE h)
    · right
      cases ho : ops[a]? with
      | none => rw [ho] at h; cases h
      | some o =>
        rw [ho] at h
        rw [addE_get, ho]
        simp only [Option.map_some] at h ⊢
        obtain ⟨e, he, hb⟩ := Array.any_eq_true'.1 h
        simp only [Bool.and_eq_true] at hb
        refine Array.any_eq_true'.2 ⟨e, ?_, by simp [hb.1, waitsK_addE n e.on hb.2]⟩
        by_cases hj : j = a
        · rw [if_pos hj]; simp [he]
        · rw [if_neg hj]; exact he
theorem waits2_addE {i j a b : Nat} (h : waits2 ops a b = true) : waits2 (addE ops i j) a b = true := waitsK_addE 3 a h

theorem lastB_addE {i j k : Nat} (h : lastB ops k = true) : lastB (addE ops i j) k = true := by
  simp only [lastB, Bool.and_eq_true, beq_iff_eq, addE_size] at h ⊢
  exact ⟨h.1, List.all_eq_true.2 fun m hm => waits2_addE (List.all_eq_true.1 h.2 m hm)⟩

theorem mOp_addE {i j k : Nat} {K : Act → World → Prop} {a : Act} {w : World} (h : mOp P ops acts C k K a w) : mOp P (addE ops i j) acts C k K a w := by
  unfold mOp at h ⊢
  rw [addE_get]
  cases hk : ops[k]? with
  | none => rw [hk] at h; exact h
  | some o =>
    rw [hk] at h
    simp only [Option.map_some] at h ⊢
    have key : ∀ x, (if Region.wanted { o with after := x } (yielded (addE ops i j) a.tmps) = true then
        (if acts.contains k = true then Oper.wp P { o with after := x } a w (fun a' w' => (lastB (addE ops i j) k = true ∨ C w') ∧ K a' w') NoExit
         else ∃ v, (∀ w', C w' → stillUpon v w' ((execOp a.eval { o with after := x }).run P w')) ∧ K (a.put o.dst v) w)
      else K (a.put o.dst undef) w) := by
      intro x
      rw [wanted_addE]
      split
      · rename_i hw
        rw [if_pos hw] at h
        split
        · rename_i hA
          rw [if_pos hA] at h
          exact (wp_noExit (o := o) (K := fun a' w' => (lastB ops k = true ∨ C w') ∧ K a' w') (fun a' w' hk => ⟨hk.1.imp lastB_addE id, hk.2⟩) h : Oper.wp P o a w (fun a' w' => (lastB (addE ops i j) k = true ∨ C w') ∧ K a' w') NoExit)
        · rename_i hA
          rw [if_neg hA] at h
          exact h
      · rename_i hw
        rw [if_neg hw] at h
        exact h
    by_cases hjk : j = k
    · simp only [hjk, if_true]; subst hjk; exact key _
    · simp only [if_neg hjk]; exact key o.after

theorem mixO_addE {i j : Nat} {Q : Act → World → Prop} : ∀ (ord : List Nat) (a : Act) (w : World), wpMixO P ops acts C Q ord a w → wpMixO P (addE ops i j) acts C Q ord a w
  | [], _, _, h => h
  | k :: ord, a, w, h => mOp_addE (mOp_mono (fun a' w' h' => mixO_addE ord a' w' h') h)

/-- i ahead of j: the walk, over the region as it stands. -/
theorem wpLin_ord1 {Q : Exit → Act → World → Prop} {a : Act} {w : World} (i j : Nat) (ord acts : List Nat) (J : World → Prop)
    (hB : (Region.noSelect (addE ops i j) && ordFrom (addE ops i j) ord (Array.replicate (addE ops i j).size false) && actsO (addE ops i j) acts ord && acts.all (fun m => ord.contains m) && (ord.length == (addE ops i j).size)) = true) (hC : J w)
    (h : Nonempty (Cls J) → wpMixO P ops acts (InC J) (fun a' w' => Q .normal a' w') ord a w) : wpLin P (addE ops i j) Q a w :=
  wpLin_ord ord acts J hB hC (fun hn => mixO_addE ord a w (h hn))

/-- Two such edges. -/
theorem wpLin_ord2 {Q : Exit → Act → World → Prop} {a : Act} {w : World} (i j i' j' : Nat) (ord acts : List Nat) (J : World → Prop)
    (hB : (Region.noSelect (addE (addE ops i j) i' j') && ordFrom (addE (addE ops i j) i' j') ord (Array.replicate (addE (addE ops i j) i' j').size false) && actsO (addE (addE ops i j) i' j') acts ord && acts.all (fun m => ord.contains m) && (ord.length == (addE (addE ops i j) i' j').size)) = true) (hC : J w)
    (h : Nonempty (Cls J) → wpMixO P ops acts (InC J) (fun a' w' => Q .normal a' w') ord a w) : wpLin P (addE (addE ops i j) i' j') Q a w :=
  wpLin_ord ord acts J hB hC (fun hn => mixO_addE ord a w (mixO_addE ord a w (h hn)))

/-- Three such edges. -/
theorem wpLin_ord3 {Q : Exit → Act → World → Prop} {a : Act} {w : World} (i j i' j' i'' j'' : Nat) (ord acts : List Nat) (J : World → Prop)
    (hB : (Region.noSelect (addE (addE (addE ops i j) i' j') i'' j'') && ordFrom (addE (addE (addE ops i j) i' j') i'' j'') ord (Array.replicate (addE (addE (addE ops i j) i' j') i'' j'').size false) && actsO (addE (addE (addE ops i j) i' j') i'' j'') acts ord && acts.all (fun m => ord.contains m) && (ord.length == (addE (addE (addE ops i j) i' j') i'' j'').size)) = true) (hC : J w)
    (h : Nonempty (Cls J) → wpMixO P ops acts (InC J) (fun a' w' => Q .normal a' w') ord a w) : wpLin P (addE (addE (addE ops i j) i' j') i'' j'') Q a w :=
  wpLin_ord ord acts J hB hC (fun hn => mixO_addE ord a w (mixO_addE ord a w (mixO_addE ord a w (h hn))))

/-! Its steps. -/
theorem mixO_nil {Q : Act → World → Prop} {a : Act} {w : World} (h : Q a w) : wpMixO P ops acts C Q [] a w := h
theorem mixO_read {Q : Act → World → Prop} {k : Nat} {o : Oper} {rest : List Nat} {a : Act} {w : World} {d : Tmp} (ho : ops[k]? = some o)
    (hw : Region.wanted o (yielded ops a.tmps) = true) (hA : acts.contains k = false) (hp : plainOp o.op = true) (hd : o.dst = some d) (hs : d < a.tmps.size)
    (hh : ∃ a1 v, (∀ w', C w' → ∀ K : Act → World → Prop, (∀ a' w'', a1 = a' ∧ w' = w'' → K a' w'') → o.wp P a w' K NoExit) ∧ a.put (some d) v = a1 ∧
      wpMixO P ops acts C Q rest a1 w) : wpMixO P ops acts C Q (k :: rest) a w := by
  obtain ⟨a1, v, h, ha, hk⟩ := hh
  have h1 := mix_read (P := P) (ops := ops) (C := C) (acts := acts) (Q := fun a' w' => wpMixO P ops acts C Q rest a' w') (k := k) (o := o) (rest := []) hw hA hp hd hs ⟨a1, v, h, ha, hk⟩
  simp only [wpMix] at h1
  simp only [wpMixO, mOp, ho]
  exact h1
theorem mixO_act {Q : Act → World → Prop} {k : Nat} {o : Oper} {rest : List Nat} {a : Act} {w : World} (ho : ops[k]? = some o) (hw : Region.wanted o (yielded ops a.tmps) = true) (hA : acts.contains k = true)
    (h : ∀ K : Act → World → Prop, (∀ a' w', C w' ∧ wpMixO P ops acts C Q rest a' w' → K a' w') → o.wp P a w K NoExit) :
    wpMixO P ops acts C Q (k :: rest) a w := by
  simp only [wpMixO, mOp, ho]
  rw [if_pos hw, if_pos hA]
  exact h _ (fun _ _ h => ⟨.inr h.1, h.2⟩)
theorem mixO_last {Q : Act → World → Prop} {k : Nat} {o : Oper} {a : Act} {w : World} (ho : ops[k]? = some o) (hw : Region.wanted o (yielded ops a.tmps) = true) (hA : acts.contains k = true) (hl : lastB ops k = true)
    (h : ∀ K : Act → World → Prop, (∀ a' w', Q a' w' → K a' w') → o.wp P a w K NoExit) :
    wpMixO P ops acts C Q [k] a w := by
  simp only [wpMixO, mOp, ho]
  rw [if_pos hw, if_pos hA]
  exact h _ (fun _ _ h => ⟨.inl hl, h⟩)
end
end Go.Proofs.Ytkeiafiembfaeaa
