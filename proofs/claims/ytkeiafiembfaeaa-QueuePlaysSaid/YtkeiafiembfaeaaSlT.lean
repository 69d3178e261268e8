/- Slices of one's own as things that lie apart. Plain theorems, any program. -/
import Derived.Test.YtkeiafiembfaeaaSep
import Derived.Test.YtkeiafiembfaeaaSl
set_option linter.unusedSimpArgs false
set_option linter.unusedVariables false
namespace Go.Proofs.Ytkeiafiembfaeaa
open Go.RowKit

theorem grown_below {w w' : World} {r : Option Nat} {B : Nat} (h : w.grownBy w' r) (hr : ∀ k, r = some k → B ≤ k) (hB : B ≤ w.heap.size) : Below B w w' :=
  ⟨h.os, h.tape, h.output, h.size, fun k hk => h.block k (by omega) (fun e => by have := hr k e.symm; omega)⟩
theorem but_below {S : Nat → Prop} {w w' : World} {B : Nat} (h : But S w.heap.size w w') (hS : ∀ k, S k → B ≤ k) (hB : B ≤ w.heap.size) : Below B w w' :=
  h.below (fun k hk hs => by have := hS k hs; omega) hB

/-- A slice of one's own. -/
def SlT (base : Nat) (e : TypeId) (size : Nat) (v : Value) (n : Nat) (xs : List Value) : Thing := fun w F => OwnsAt w base e size v n xs ∧ ∀ k, F k ↔ v.ownBlock = some k
theorem SlT.loc (base : Nat) (e : TypeId) (size : Nat) (v : Value) (n : Nat) (xs : List Value) : Local (SlT base e size v n xs) :=
  ⟨fun _ _ h k hk => (h.1.lt k ((h.2 k).1 hk)).2, fun _ _ _ _ h hb hS => ⟨h.1.but hb (fun k hk => ⟨(h.1.lt k hk).2, hS k ((h.2 k).2 hk)⟩), h.2⟩⟩

/-- An act on the thing i. -/
theorem Sep.act {B : Nat} {w0 w w' : World} {L : List Thing} (h : Sep B w0 w L) (i : Nat) {T T' : Thing} (hi : L[i]? = some T) (hT' : Local T') (hc : ∀ F, T w F → Acts T' F w w') : Sep B w0 w' (L.set i T') := by
  obtain ⟨hl, ⟨Fs, h1, h2, h3⟩, h4, h5⟩ := h
  exact Sep.acts_at hl h1 h2 h3 h4 h5 hi hT' (hc (Fs i) (h1 i T hi))
theorem SlT.grown {base : Nat} {e : TypeId} {size : Nat} {v v' : Value} {n n' : Nat} {xs xs' : List Value} {w w' : World} {F : Nat → Prop} (h : SlT base e size v n xs w F) (ho : OwnsAt w' base e size v' n' xs') (hg : w.grownBy w' v.ownBlock)
    (hv : v'.ownBlock = v.ownBlock ∨ ∃ g, v'.ownBlock = some g ∧ w.heap.size ≤ g) : Acts (SlT base e size v' n' xs') F w w' := by
  refine ⟨fun k => v'.ownBlock = some k, ⟨ho, fun _ => Iff.rfl⟩, ⟨hg.os, hg.tape, hg.output, hg.size, fun k hk hF => hg.block k hk (fun e => hF ((h.2 k).2 e.symm))⟩, fun k hk => ?_⟩
  rcases hv with e | ⟨g, e, hlt⟩
  · left; rw [e] at hk; exact (h.2 k).2 hk
  · right; rw [e] at hk; cases hk; exact hlt
theorem Sep.grow {B : Nat} {w0 w w' : World} {L : List Thing} {base : Nat} {e : TypeId} {size : Nat} {v v' : Value} {n n' : Nat} {xs xs' : List Value} (h : Sep B w0 w L) (i : Nat) (hi : L[i]? = some (SlT base e size v n xs)) (ho : OwnsAt w' base e size v' n' xs') (hg : w.grownBy w' v.ownBlock)
    (hv : v'.ownBlock = v.ownBlock ∨ ∃ g, v'.ownBlock = some g ∧ w.heap.size ≤ g) : Sep B w0 w' (L.set i (SlT base e size v' n' xs')) :=
  h.act i hi (SlT.loc _ _ _ _ _ _) fun _ hF => hF.grown ho hg hv
theorem Sep.nilS {B : Nat} {w0 w : World} {L : List Thing} (h : Sep B w0 w L) (base : Nat) (e : TypeId) (size : Nat) : Sep B w0 w (L ++ [SlT base e size (.slice none 0 0) 0 []]) :=
  h.new (SlT.loc base e size (.slice none 0 0) 0 []) (F' := fun _ => False) ⟨OwnsAt.nil _ _ _ _, fun k => by simp [Value.ownBlock]⟩ (fun _ h => h.elim) (Below.refl _ _)
theorem Sep.own {B : Nat} {w0 w : World} {L : List Thing} (h : Sep B w0 w L) (i : Nat) {base : Nat} {e : TypeId} {size : Nat} {v : Value} {n : Nat} {xs : List Value} (hi : L[i]? = some (SlT base e size v n xs)) : OwnsAt w base e size v n xs := by
  obtain ⟨_, ⟨Fs, h1, _⟩, _⟩ := h
  exact (h1 i _ hi).1

theorem Sep.look {B : Nat} {w0 w : World} {L : List Thing} (h : Sep B w0 w L) (i : Nat) {T : Thing} (hi : L[i]? = some T) : ∃ F, T w F := by
  obtain ⟨_, ⟨Fs, h1, _⟩, _⟩ := h
  exact ⟨Fs i, h1 i T hi⟩
theorem Sep.same {B : Nat} {w0 w : World} {L L' : List Thing} (h : Sep B w0 w L) (e : L = L') : Sep B w0 w L' := e ▸ h
theorem Sep.dropLast {B : Nat} {w0 w : World} {L : List Thing} {T : Thing} (h : Sep B w0 w (L ++ [T])) : Sep B w0 w L := by
  obtain ⟨hl, ⟨Fs, h1, h2, h3⟩, h4⟩ := h
  refine ⟨fun U hU => hl U (List.mem_append_left _ hU), ⟨fun i k => i < L.length ∧ Fs i k, fun i U hi => ?_, fun i j k hij hi hj => h2 i j k hij hi.2 hj.2, fun i k hi => ⟨(h3 i k hi.2).1, hi.1⟩⟩, h4⟩
  have hil : i < L.length := (List.getElem?_eq_some_iff.1 hi).1
  have := h1 i U (by rw [List.getElem?_append_left hil]; exact hi)
  have e : (fun k => i < L.length ∧ Fs i k) = Fs i := by funext k; simp [hil]
  show U w (fun k => i < L.length ∧ Fs i k)
  rw [e]; exact this
/-- A block of one's own. -/
def BlkT (b : Nat) (t : TypeId) (cs : Array Value) : Thing := fun w F => Blk w b t cs ∧ ∀ k, F k ↔ k = b
theorem BlkT.loc (b : Nat) (t : TypeId) (cs : Array Value) : Local (BlkT b t cs) :=
  ⟨fun _ _ h k hk => by rw [(h.2 k).1 hk]; exact h.1.lt, fun _ _ _ _ h hb hS => ⟨hb.blk h.1.lt (hS b ((h.2 b).2 rfl)) h.1, h.2⟩⟩
theorem Sep.blk {B : Nat} {w0 w : World} {L : List Thing} (h : Sep B w0 w L) (i : Nat) {b : Nat} {t : TypeId} {cs : Array Value} (hi : L[i]? = some (BlkT b t cs)) : Blk w b t cs := by
  obtain ⟨F, hF⟩ := h.look i hi
  exact hF.1
theorem Sep.newBlk {B : Nat} {w0 w w' : World} {L : List Thing} (h : Sep B w0 w L) {b : Nat} {t : TypeId} {cs : Array Value} (hb : Blk w' b t cs) (hlt : w.heap.size ≤ b) (hw : Below w.heap.size w w') : Sep B w0 w' (L ++ [BlkT b t cs]) :=
  h.new (BlkT.loc b t cs) (F' := fun k => k = b) ⟨hb, fun _ => Iff.rfl⟩ (fun k hk => by omega) hw

end Go.Proofs.Ytkeiafiembfaeaa
