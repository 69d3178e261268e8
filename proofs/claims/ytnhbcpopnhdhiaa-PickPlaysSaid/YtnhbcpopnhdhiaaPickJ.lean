/- Pick with a sharer: one contract. -/
import Derived.Test.YtnhbcpopnhdhiaaPickI
set_option linter.unusedSimpArgs false
set_option linter.unusedVariables false
namespace Go.Proofs.Ytnhbcpopnhdhiaa
open Go.RowKit Go.Shelf

abbrev St := (Nat → Int) × Nat × Bool
/-- What is picked, and what becomes of the sharer's state. -/
def PickS (q : Int) (cost weight : Nat → Int) (l : List Cv) (last : Int) (s : St) (pick no mode : Int) (s' : St) : Prop :=
  (voiceMay l last = true ∧ pick = 1 ∧ (∃ c, voiceOf l = some c ∧ no = c.1 ∧ mode = c.2.1) ∧ s' = s) ∨
  (voiceMay l last = false ∧ pick = 2 ∧ (∃ c, oldOf l = some c ∧ no = c.1 ∧ mode = c.2.1) ∧ s' = s) ∨
  (voiceMay l last = false ∧ oldOf l = none ∧ modesOf (wantL l) ≠ [] ∧ pick = 3 ∧ NextR q (wants (wantL l)) cost weight s.1 s.2.1 s.2.2 s' ∧ ∃ c, modeOf l (s'.2.1 : Int) = some c ∧ no = c.1 ∧ mode = c.2.1) ∨
  (voiceMay l last = false ∧ oldOf l = none ∧ modesOf (wantL l) = [] ∧ pick = 0 ∧ no = 0 ∧ mode = 0 ∧ s' = s)
def Sok (s : St) : Prop := Dok s.1 ∧ 1 ≤ s.2.1 ∧ s.2.1 ≤ 28

theorem pick_drr (vl vc vw : Value) (last : Int) (b : Nat) (q : Int) (s : St) (l : List Cv) (cost weight : Nat → Int) (w : World) (hl : SlAt w 4 vl l.length (l.flatMap cC)) (hn : l.length ≤ 1000000)
    (hq : 1000 ≤ q ∧ q ≤ 1000000) (hs : Sok s) (hB : Blk w b 51 (dCells q s.1 s.2.1 s.2.2)) (hvc : FnInt w cost vc) (hvw : FnInt w weight vw) :
    Calls Try.prog 11 #[vl, .int .i64 last, .pointer (some ⟨b, 0, none⟩), vc, vw] w fun e w' => Below w.heap.size w w' ∧ ∃ pick no mode bx s', e = .returned (.agg (chA pick no mode (some ⟨bx, 0, none⟩))) ∧
      PickS q cost weight l last s pick no mode s' ∧ Sok s' ∧ Blk w' bx 51 (dCells q s'.1 s'.2.1 s'.2.2) ∧ ((pick = 3 ∧ w.heap.size ≤ bx) ∨ (pick ≠ 3 ∧ bx = b)) := by
  have f1 : isFn vc := by obtain ⟨K, fs, cap, rfl, _⟩ := hvc; exact .inr ⟨_, _, _, rfl⟩
  have f2 : isFn vw := by obtain ⟨K, fs, cap, rfl, _⟩ := hvw; exact .inr ⟨_, _, _, rfl⟩
  refine (pick_any vl vc vw last _ l w (RNd b q s.1 s.2.1 s.2.2 cost weight) (RNd.stab _ _ _ _ _ _ _) hl hn f1 f2 (drr_next b w q s.1 s.2.1 s.2.2 hs.2 hq hs.1 hB cost weight vc vw hvc hvw)).mono ?_
  rintro e w' ⟨hb, hcase⟩
  have hB' := hB.below hb hB.lt
  refine ⟨hb, ?_⟩
  rcases hcase with ⟨hv, rfl⟩ | ⟨hv, ho, rfl⟩ | ⟨hv, ho, m, nx, N, hN1, hN2, hrn, rfl⟩
  · have hsm : (voiceOf l).isSome = true := by unfold voiceMay at hv; rw [Bool.and_eq_true] at hv; exact hv.1
    obtain ⟨c, hc⟩ := Option.isSome_iff_exists.1 hsm
    exact ⟨1, _, _, b, s, rfl, .inl ⟨hv, rfl, ⟨c, hc, by rw [hc]; rfl, by rw [hc]; rfl⟩, rfl⟩, hs, hB', .inr ⟨by decide, rfl⟩⟩
  · obtain ⟨c, hc⟩ := Option.isSome_iff_exists.1 ho
    exact ⟨2, _, _, b, s, rfl, .inr (.inl ⟨hv, rfl, ⟨c, hc, by rw [hc]; rfl, by rw [hc]; rfl⟩, rfl⟩), hs, hB', .inr ⟨by decide, rfl⟩⟩
  · have ho' : oldOf l = none := by simpa using ho
    rcases hrn with ⟨hz, rfl, rfl⟩ | ⟨hz, bx, df', pt', fed', h1, h2, h3, rfl, rfl, h4, h5⟩
    · have hm : modeOf l 0 = none := by
        unfold modeOf
        rw [someP_none]
        intro x hx hc
        rw [(modesOf_wantL l).1 hz x hx] at hc
        cases hc
      rw [hm]
      exact ⟨0, 0, 0, b, s, rfl, .inr (.inr (.inr ⟨hv, ho', hz, rfl, rfl, rfl, rfl⟩)), hs, hB', .inr ⟨by decide, rfl⟩⟩
    · obtain ⟨c, hc⟩ := wants_mode h1.want
      simp only at hc
      rw [hc]
      exact ⟨3, _, _, bx, (df', pt', fed'), rfl, .inr (.inr (.inl ⟨hv, ho', hz, rfl, h1, c, hc, rfl, rfl⟩)), ⟨h2, h3⟩, h5, .inl ⟨rfl, by omega⟩⟩

end Go.Proofs.Ytnhbcpopnhdhiaa
