/- A sharer that is nil, a cost that is nil. -/
import Derived.Test.YtnhbcpopnhdhiaaPickK
import Derived.Laws.EntriesVeiled
set_option linter.unusedSimpArgs false
set_option linter.unusedVariables false
namespace Go.Proofs.Ytnhbcpopnhdhiaa
open Go.RowKit Go.Shelf
attribute [local irreducible] wpMix

theorem next_nil (w : World) (vc vw : Value) (h1 : isFn vc) (h2 : isFn vw) : NextC w none vc vw (fun _ m nx _ _ => m = 0 ∧ nx = none) := by
  intro W hW A len cap zs hv hn
  clear hv hn hW
  rcases h1 with rfl | ⟨K, fs, fc, rfl⟩ <;> rcases h2 with rfl | ⟨K2, fs2, fc2, rfl⟩
  all_goals
    go_enter Try.func27, Try.ntmps27
    go_wp2_with fail
    refine bodyPost_ret (results_tmp2 rfl _ _ _) rfl ⟨?_, 0, none, rfl, rfl, rfl⟩
    exact ((Below.refl _ _).alloc (Nat.le_refl _) _).alloc (by simp) _
theorem nil_eql (X : World) : (binOp .eql 29 .nilFunc .nilFunc).run Try.prog X = Result.ok (.bool true) X := by kernel_rfl
theorem next_nilcost (b : Nat) (w : World) (vw : Value) (h2 : isFn vw) : NextC w (some ⟨b, 0, none⟩) .nilFunc vw (fun _ m nx _ _ => m = 0 ∧ nx = some ⟨b, 0, none⟩) := by
  intro W hW A len cap zs hv hn
  clear hv hn hW
  rcases h2 with rfl | ⟨K2, fs2, fc2, rfl⟩
  all_goals
    go_enter Try.func27, Try.ntmps27
    go_wp2_with fail
    simp only [nil_eql]
    go_wp2_with fail
    refine bodyPost_ret (results_tmp2 rfl _ _ _) rfl ⟨?_, 0, _, rfl, rfl, rfl⟩
    exact ((Below.refl _ _).alloc (Nat.le_refl _) _).alloc (by simp) _

/-- Nothing to share: what Pick answers where its sharer gives nothing. -/
theorem pick_none (vl vc vw : Value) (last : Int) (d : Option Addr) (l : List Cv) (w : World) (hl : SlAt w 4 vl l.length (l.flatMap cC)) (hn : l.length ≤ 1000000) (h1 : isFn vc) (h2 : isFn vw)
    (hN : NextC w d vc vw (fun _ m nx _ _ => m = 0 ∧ nx = d)) (hv : voiceMay l last = false) (ho : (oldOf l).isSome = false) (hm : modeOf l 0 = none) :
    Calls Try.prog 11 #[vl, .int .i64 last, .pointer d, vc, vw] w fun e w' => Below w.heap.size w w' ∧ e = .returned (.agg (chA 0 0 0 d)) := by
  refine (pick_any vl vc vw last d l w _ (fun _ _ _ _ _ _ h _ => h) hl hn h1 h2 hN).mono ?_
  rintro e w' ⟨hb, hcase⟩
  refine ⟨hb, ?_⟩
  rcases hcase with ⟨h, _⟩ | ⟨_, h, _⟩ | ⟨_, _, m, nx, N, _, _, ⟨rfl, rfl⟩, rfl⟩
  · rw [hv] at h; cases h
  · rw [ho] at h; cases h
  · rw [hm]

end Go.Proofs.Ytnhbcpopnhdhiaa
