/- A sharer's answers, as Pick asks for them; costs that are all alike. -/
import Derived.Test.YtnhbcpopnhdhiaaPickG
import Derived.Test.YtnhbcpopnhdhiaaDrvD
set_option linter.unusedSimpArgs false
set_option linter.unusedVariables false
namespace Go.Proofs.Ytnhbcpopnhdhiaa
open Go.RowKit Go.Shelf
attribute [local irreducible] wpMix

theorem SlAt.rd {w : World} {size n cap : Nat} {A : Option Addr} {xs : List Value} (h : SlAt w size (.slice A n cap) n xs) (hs : 0 < size) : Rd w w.heap.size A xs := by
  obtain ⟨hl, A', cap', he, hc, hm, h⟩ := h
  cases he
  rcases h with rfl | ⟨b, o, hA, hb, hx⟩
  · left; exact List.eq_nil_of_length_eq_zero (by simpa using hl)
  · exact .inr ⟨b, o, hA, hb, hx⟩

/-- What a sharer answers. -/
def RNd (b : Nat) (q : Int) (df : Nat → Int) (pt : Nat) (fed : Bool) (cost weight : Nat → Int) (zs : List Int) (m : Int) (nx : Option Addr) (N : Nat) (W : World) : Prop :=
  (modesOf zs = [] ∧ m = 0 ∧ nx = some ⟨b, 0, none⟩) ∨
  (modesOf zs ≠ [] ∧ ∃ bx df' pt' fed', NextR q (wants zs) cost weight df pt fed (df', pt', fed') ∧ Dok df' ∧ (1 ≤ pt' ∧ pt' ≤ 28) ∧ m = (pt' : Int) ∧ nx = some ⟨bx, 0, none⟩ ∧ N ≤ bx ∧ Blk W bx 51 (dCells q df' pt' fed'))
theorem RNd.stab (b : Nat) (q : Int) (df : Nat → Int) (pt : Nat) (fed : Bool) (cost weight : Nat → Int) : Stab (RNd b q df pt fed cost weight) := by
  rintro zs m nx N W1 W' h hb
  rcases h with h | ⟨hz, bx, df', pt', fed', h1, h2, h3, h4, h5, h6, h7⟩
  · exact .inl h
  · exact .inr ⟨hz, bx, df', pt', fed', h1, h2, h3, h4, h5, h6, hb.blk h7.lt (by omega) h7⟩
theorem drr_next (b : Nat) (w : World) (q : Int) (df : Nat → Int) (pt : Nat) (fed : Bool) (hp : 1 ≤ pt ∧ pt ≤ 28) (hq : 1000 ≤ q ∧ q ≤ 1000000) (hdf : Dok df) (hB : Blk w b 51 (dCells q df pt fed))
    (cost weight : Nat → Int) (vc vw : Value) (hvc : FnInt w cost vc) (hvw : FnInt w weight vw) : NextC w (some ⟨b, 0, none⟩) vc vw (RNd b q df pt fed cost weight) := by
  intro W hW A len cap zs hv hn
  obtain ⟨A', cap', he, _, _⟩ := hv.len
  cases he
  refine (next_any b W q df pt fed hp hq hdf (hB.below hW hB.lt) A zs.length cap zs rfl (by omega) (hv.rd (by decide)) cost weight vc vw (hvc.below hW) (hvw.below hW)).mono ?_
  rintro e W' ⟨hb, hcase⟩
  refine ⟨hb, ?_⟩
  rcases hcase with ⟨hz, rfl⟩ | ⟨hz, bx, df', pt', fed', h1, h2, h3, rfl, h4, h5⟩
  · exact ⟨0, _, rfl, .inl ⟨hz, rfl, rfl⟩⟩
  · exact ⟨_, _, rfl, .inr ⟨hz, bx, df', pt', fed', h1, h2, h3, rfl, rfl, h4, h5⟩⟩

theorem same1_any (g : Nat) (n m : Int) (w : World) (hB : Blk w g 3 #[.int .i64 n]) : Calls Try.prog 33 #[.int .i64 m, .pointer (some ⟨g, 0, none⟩)] w fun e w' => e = .returned (.int .i64 n) ∧ Below w.heap.size w w' := by
  have c0 := hB.cell 0
  clear hB
  go_enter Try.func33, Try.ntmps33
  go_wp2_with fail
  go_ret
  exact ⟨rfl, Below.refl _ _⟩
theorem same_fn {w : World} {g : Nat} {n : Int} (hB : Blk w g 3 #[.int .i64 n]) : FnInt w (fun _ => n) (.func (.func 33) #[] #[.pointer (some ⟨g, 0, none⟩)]) :=
  ⟨_, _, _, rfl, enters_of Try.func33 (by kernel_rfl) rfl, fun m W hW _ _ => by
    simp only [List.append_toArray, List.nil_append]
    exact same1_any g n m W (hB.below hW hB.lt)⟩
theorem same_any (n : Int) (w : World) : Calls Try.prog 16 #[.int .i64 n] w fun e w' => e = .returned (.func (.func 33) #[] #[.pointer (some ⟨w.heap.size, 0, none⟩)]) ∧ Below w.heap.size w w' ∧ Blk w' w.heap.size 3 #[.int .i64 n] := by
  go_enter Try.func16, Try.ntmps16
  go_wp2_with fail
  go_ret
  exact ⟨rfl, (Below.refl _ _).alloc (Nat.le_refl _) _, Blk.new _ _ _⟩

end Go.Proofs.Ytnhbcpopnhdhiaa
