/- The rules: voice, who is old, none. -/
import Derived.Test.YtnhbcpopnhdhiaaPickB
set_option linter.unusedSimpArgs false
set_option linter.unusedVariables false
namespace Go.Proofs.Ytnhbcpopnhdhiaa
open Go.RowKit Go.Shelf
attribute [local irreducible] wpMix

def someP (p : Cv → Bool) (l : List Cv) : Option Cv := firstP (fun x => countsF x && p x) l

/-- A function value that gives the first of those that count and are asked for. -/
def FnS (w : World) (v : Value) (l : List Cv) : Prop := ∃ K fs cap, v = .func (.func K) fs cap ∧ (∀ args w, (callFunc K args).run Try.prog w = .ok (.enter K args) w) ∧
  ∀ W, Below w.heap.size w W → ∀ vi p, FnC W vi p → Calls Try.prog K (fs ++ #[vi] ++ cap) W fun e W' => e = .returned (.tuple #[.agg (cA ((someP p l).getD noCand)), .bool (someP p l).isSome]) ∧ Below W.heap.size W W'
theorem FnS.below {w w' : World} {v : Value} {l : List Cv} (h : FnS w v l) (hb : Below w.heap.size w w') : FnS w' v l := by
  obtain ⟨K, fs, cap, rfl, h1, h2⟩ := h
  exact ⟨K, fs, cap, rfl, h1, fun W hW => h2 W (hb.trans (hW.mono hb.size))⟩

theorem FnC.and {w : World} {g : Nat} {v : Value} {p : Cv → Bool} (hB : Blk w g 52 #[v]) (hp : FnC w v p) : FnC w (.func (.func 19) #[] #[.pointer (some ⟨g, 0, none⟩)]) (fun x => countsF x && p x) :=
  ⟨_, _, _, rfl, enters_of Try.func19 (by kernel_rfl) rfl, fun W hW ⟨n, m, a, b⟩ => by
    simp only [List.append_toArray, List.nil_append]
    exact and_any g v p W (hB.below hW hB.lt) (hp.below hW) n m a b⟩
theorem FnC.old (w : World) : FnC w (.func (.func 22) #[] #[]) (fun x => x.2.2.2) :=
  ⟨_, _, _, rfl, enters_of Try.func22 (by kernel_rfl) rfl, fun W _ x => by simp only [List.append_toArray, List.nil_append]; exact old_any x W⟩
theorem FnC.voice (w : World) : FnC w (.func (.func 24) #[] #[]) (fun x => x.2.2.1) :=
  ⟨_, _, _, rfl, enters_of Try.func24 (by kernel_rfl) rfl, fun W _ x => by simp only [List.append_toArray, List.nil_append]; exact voice_any x W⟩
theorem FnC.mode {w : World} {g : Nat} {m : Int} (hB : Blk w g 3 #[.int .i64 m]) : FnC w (.func (.func 28) #[] #[.pointer (some ⟨g, 0, none⟩)]) (fun x => x.2.1 == m) :=
  ⟨_, _, _, rfl, enters_of Try.func28 (by kernel_rfl) rfl, fun W hW x => by simp only [List.append_toArray, List.nil_append]; exact eq1_any g m W (hB.below hW hB.lt) x⟩

set_option maxHeartbeats 1000000 in
theorem some_any (g : Nat) (v vi : Value) (p : Cv → Bool) (l : List Cv) (w : World) (hB : Blk w g 30 #[v]) (hv : SlAt w 4 v l.length (l.flatMap cC)) (hp : FnC w vi p) :
    Calls Try.prog 17 #[vi, .pointer (some ⟨g, 0, none⟩)] w fun e w' => e = .returned (.tuple #[.agg (cA ((someP p l).getD noCand)), .bool (someP p l).isSome]) ∧ Below w.heap.size w w' := by
  have c0 := hB.cell 0
  have hl := hB.lt
  obtain ⟨K, fs, fc, hvi, _⟩ := id hp
  subst hvi
  have H := Lib.hid (And.intro hv hp)
  clear hB hv hp
  obtain ⟨⟨n, m, vo, ol⟩, hr⟩ : ∃ r, (someP p l).getD noCand = r := ⟨_, rfl⟩
  obtain ⟨sm, hs⟩ : ∃ s, (someP p l).isSome = s := ⟨_, rfl⟩
  rw [hr, hs]
  have HR := Lib.hid (And.intro hr hs)
  clear hr hs
  go_enter Try.func17, Try.ntmps17
  go_wp2_with fail
  generalize hW1 : World.alloc _ _ = W1
  have z2 : Blk W1 w.heap.size 52 #[.func (.func K) fs fc] := by rw [← hW1]; exact (Blk.new _ _ _).alloc _
  have z3 : Blk W1 (w.heap.size + 1) 45 #[.int .u64 0, .int .i64 0, .bool false, .bool false] := by rw [← hW1]; exact (Blk.new _ _ _).same_g (by simp)
  have b1 : Below w.heap.size w W1 := by rw [← hW1]; exact ((Below.refl _ _).alloc (Nat.le_refl _) _).alloc (by simp) _
  clear hW1
  have hc := first_any v _ _ l W1 (H.out.1.below b1) (FnC.and z2 (H.out.2.below b1))
  unfold someP at HR
  rw [HR.out.1, HR.out.2] at hc
  refine hc.mono ?_
  clear hc
  rintro e w2 ⟨rfl, hb⟩
  have z3' := z3.below hb z3.lt
  have f0 := z3'.frozen 0
  have f1 := z3'.frozen 1
  have f2 := z3'.frozen 2
  have f3 := z3'.frozen 3
  have c0 := z3'.cell 0
  have c1 := z3'.cell 1
  have c2 := z3'.cell 2
  have c3 := z3'.cell 3
  have HB := Lib.hid (And.intro z3' (b1.trans (hb.mono b1.size)))
  clear z2 z3 z3' b1 hb
  simp only [cA]
  go_wp2_with fail
  have hfin := (((HB.out.1.set_ 0 (.int .u64 n)).set_ 1 (.int .i64 m)).set_ 2 (.bool vo)).set_ 3 (.bool ol)
  refine bodyPost_ret (res_cell_tmp rfl _ _ (w.heap.size + 1) 45 _ _ rfl hfin Try.underlying45 rfl (by kernel_rfl)) rfl ⟨rfl, ?_⟩
  exact (((HB.out.2.setCell (p := ⟨w.heap.size + 1, 0, none⟩) (by simp) _).setCell (p := ⟨w.heap.size + 1, 1, none⟩) (by simp) _).setCell (p := ⟨w.heap.size + 1, 2, none⟩) (by simp) _).setCell (p := ⟨w.heap.size + 1, 3, none⟩) (by simp) _

theorem FnS.mk {w : World} {g : Nat} {v : Value} {l : List Cv} (hB : Blk w g 30 #[v]) (hv : SlAt w 4 v l.length (l.flatMap cC)) : FnS w (.func (.func 17) #[] #[.pointer (some ⟨g, 0, none⟩)]) l :=
  ⟨_, _, _, rfl, enters_of Try.func17 (by kernel_rfl) rfl, fun W hW vi p hp => by
    simp only [List.append_toArray, List.nil_append]
    exact some_any g v vi p l W (hB.below hW hB.lt) (hv.below hW) hp⟩

end Go.Proofs.Ytnhbcpopnhdhiaa
