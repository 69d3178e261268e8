/- A region that draws its order, inside a round of a range over a function: Reg's law at the wide fence. Plain theorems, no program. -/
import Derived.Test.YtgolelpncdadkaaReg
import Derived.OrdersIn
import Derived.RangeFuncCalls
import Derived.OwnWalkIn
set_option linter.unusedSimpArgs false
set_option linter.unusedVariables false
namespace Go.Proofs.Ytgolelpncdadkaa
open Go.RowKit

section
variable {P : Program} {ops : Array Oper} {acts : List Nat} {C : World → Prop}

theorem rowsIn_of {l n : Nat} {row : String} {args : Array Value} {w : World} {R : Value → World → Prop} (h : Rows P row args w R) : RowsIn (Fence.wide.inRound l) n P row args w R :=
  fun c cs _ => let ⟨v, w', r, s⟩ := h c cs; ⟨v, w', r, stepsIn_wide.2 s⟩

theorem operIn_of {l n : Nat} {o : Oper} {a : Act} {w : World} {K : Act → World → Prop} {Q : Exit → Act → World → Prop} (hd : ∀ c, o.op ≠ .defer c) (h : o.wp P a w K NoExit) : o.wpIn (Fence.wide.inRound l) n P a w K Q := by
  refine ⟨fun _ _ => trivial, ?_⟩
  have hs : o.semAt (Fence.wide.inRound l).round a.eval = execOp a.eval o := Oper.semAt_eq _ _ _ hd
  rw [hs]
  have h : o.wp P a w K Q := wp_noExit (fun _ _ h => h) h
  unfold Oper.wp at h
  generalize (execOp a.eval o).run P w = r at *
  cases r with
  | ok x w' =>
    cases x <;> simp only [Oper.upon, Oper.uponIn] at h ⊢
    all_goals first
      | exact h
      | exact h.elim
      | exact ⟨fun e => by simp [Fence.wide] at e, (CallsIn.inRound l ((callsIn_wide (n := n - 1)).2 h))⟩
      | exact ⟨fun e => by simp [Fence.wide] at e, rowsIn_of h⟩
  | halt x w' => cases x <;> simp only [Oper.upon, Oper.uponIn] at h ⊢ <;> first | exact h | exact h.elim

def noDefer (ops : Array Oper) : Bool := ops.all fun o => match o.op with | .defer _ => false | _ => true
theorem noDefer_at {i : Nat} {o : Oper} (h : noDefer ops = true) (ho : ops[i]? = some o) : ∀ c, o.op ≠ .defer c := by
  intro c e
  obtain ⟨hi, rfl⟩ := Array.getElem?_eq_some_iff.1 ho
  have := Array.all_eq_true.1 h i hi
  simp [e] at this

theorem wpOpIn_of_mOp {l n i : Nat} {a : Act} {w : World} {K K' : Act → World → Prop} {Q : Exit → Act → World → Prop} (hnd : noDefer ops = true) (hC : C w) (h : ∀ a w, C w → K a w → K' a w) (hl : lastB ops i = true → ∀ a w, K a w → K' a w) (hh : mOp P ops acts C i K a w) :
    wpOpIn (Fence.wide.inRound l) n P ops Q i K' a w := by
  unfold mOp at hh
  unfold wpOpIn
  split
  · rename_i ho; simp only [ho] at hh; exact h _ _ hC hh
  · rename_i o ho
    simp only [ho] at hh
    have hd := noDefer_at hnd ho
    by_cases hw : Region.wanted o (yielded ops a.tmps) = true
    · rw [if_pos hw] at hh ⊢
      by_cases hA : acts.contains i = true
      · rw [if_pos hA] at hh; exact Oper.wpIn_mono (Q := Q) (fun a w hk => hk.1.elim (fun e => hl e _ _ hk.2) (fun e => h _ _ e hk.2)) (operIn_of hd hh)
      · rw [if_neg hA] at hh
        obtain ⟨v, h1, h2⟩ := hh
        have h3 := h1 w hC
        refine operIn_of hd ?_
        unfold Oper.wp
        generalize (execOp a.eval o).run P w = r at *
        cases r with
        | ok n w' =>
          cases n <;> simp only [stillUpon] at h3 <;> simp only [Oper.upon]
          · rw [h3.1, h3.2]; exact h _ _ hC h2
          · rw [h3.1, ← h3.2]; exact h _ _ hC h2
        | halt x w' => simp only [stillUpon] at h3
    · rw [if_neg hw] at hh ⊢; exact ⟨fun _ _ => trivial, h _ _ hC hh⟩

theorem anyIn_end {F : Fence} {n : Nat} {Q : Exit → Act → World → Prop} {fuel : Nat} {listed : Array Bool} {a : Act} {w : World} (hr : Region.ready .any ops listed = []) (h : Q .normal a w) : wpAnyIn F n P .any ops Q fuel listed a w := by
  cases fuel with
  | zero => exact ⟨hr, h⟩
  | succ fuel => exact ⟨fun _ => h, fun i hi => by rw [hr] at hi; cases hi⟩

theorem wpAnyIn_of_mix {l n : Nat} {Q : Act → World → Prop} {Q' : Exit → Act → World → Prop} (hnd : noDefer ops = true) (hQ : ∀ a w, Q a w → Q' .normal a w) : ∀ (fuel : Nat) (listed : Array Bool) (a : Act) (w : World), C w → Closed ops listed →
    mixAny P ops acts C Q fuel listed a w → wpAnyIn (Fence.wide.inRound l) n P .any ops Q' fuel listed a w
  | 0, _, _, _, hw, _, h => ⟨h.1, hQ _ _ h.2⟩
  | fuel + 1, _, _, _, hw, inv, h => ⟨fun h0 => hQ _ _ (h.1 h0), fun i hi => wpOpIn_of_mOp hnd hw (fun a' w' hw' => wpAnyIn_of_mix hnd hQ fuel _ a' w' hw' (inv.set hi))
      (fun hl a' w' hm => anyIn_end (last_done inv hl hi) (hQ _ _ (mix_end (last_done inv hl hi) hm))) (h.2 i hi)⟩
end

/-- Reg's law, inside a round. -/
theorem wpIn_region_sub {P : Program} {id lp n : Nat} {Q : Exit → Act → World → Prop} {a : Act} {w : World} {l : List Oper} (acts : List Nat) (J : World → Prop) (hm : P.follows .mixedOrders = true)
    (hB : (Region.lexB .any l.toArray && (actsB l.toArray acts && noDefer l.toArray)) = true) (hC : J w.drew)
    (h : Nonempty (Cls J) → wpMix P l.toArray acts (InC J) (fun a' w' => Q .normal a' w') 0 l a w.drew) : (Code.region id l.toArray true).wpIn (Fence.wide.inRound lp) n P Q a w := by
  simp only [Region.lexB, Bool.and_eq_true] at hB
  refine wpIn_region_any hm (wpAnyIn_of_mix (Q := fun a' w' => Q .normal a' w') (C := InC J) (acts := acts) hB.2.2 (fun _ _ h => h) _ _ _ _ (.mk hC) (fun j oj _ hl => by rw [getD_replicate_false] at hl; cases hl) ?_)
  have := mixAny_lex (C := InC J) hB.1.1 hB.2.1 l 0 (Array.replicate l.toArray.size false) a w.drew (by simp) (fun m hm => absurd hm (by omega))
    (fun j oj _ hl => by rw [getD_replicate_false] at hl; cases hl) (by simpa using hB.1.2) (h ⟨⟨_, hC⟩⟩)
  simpa using this

end Go.Proofs.Ytgolelpncdadkaa
