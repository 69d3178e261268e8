/- string(make([]byte, n)): a string of n noughts. Plain theorems, any program. -/
import Derived.Test.YtkeiafiembfaeaaOwn
import Derived.OwnWalk
import Derived.Laws.IdiomStrings
set_option linter.unusedSimpArgs false
set_option linter.unusedVariables false
namespace Go.Proofs.Ytkeiafiembfaeaa
open Go.RowKit

def zeros (n : Nat) : ByteArray := ⟨(List.replicate n (0 : UInt8)).toArray⟩
theorem zeros_size (n : Nat) : (zeros n).size = n := by simp [zeros, ByteArray.size]

section
variable {P : Program} {w : World}
theorem run_make_zero (t e : TypeId) (ht : P.underlying t = some (.slice e)) (he : P.underlying e = some (.int .u8)) (hi : (P.info? e).map (fun i => (i.zero, i.size, i.bytes)) = some (some (.int .u8 0), 1, 1)) (kl kc : IntKind) (n : Nat) (hn : n ≤ 1000000000) :
    ∃ w', (Instr.makeSlice t (.int kl (n : Int)) (.int kc (n : Int))).run P w = .ok (.slice (some ⟨w.heap.size, 0, none⟩) n n) w' ∧ Below w.heap.size w w' ∧
      ∀ dst, P.underlying dst = some .string → (convert t dst (.slice (some ⟨w.heap.size, 0, none⟩) n n)).run P w' = .ok (.string (zeros n)) w' := by
  obtain ⟨i0, hi0, hz0, hz1, hz2⟩ := info_parts hi
  obtain ⟨w', hrun, ho, hg⟩ := run_make_full (P := P) w w.heap.size t e i0 (.int .u8 0) 1 ht hi0 hz0 hz1 kl kc n (by rw [hz2]; omega) (by unfold maxLen; omega) (Nat.le_refl _)
  refine ⟨w', hrun, ⟨hg.os, hg.tape, hg.output, hg.size, fun k hk => hg.block k hk (by simp)⟩, fun dst hd => ?_⟩
  have hc := run_convert_bytes_back (P := P) w' t dst e ⟨w.heap.size, 0, none⟩ n (List.replicate n (0 : UInt8)) ht he hd (fun j hj => by
    have hj' : j < n := by simpa using hj
    have hcell := ho.cellAt j (by omega)
    rw [Addr.add_lit, Nat.zero_add, hcell, Nat.mul_one, show (Value.int .u8 0).cells = #[.int .u8 0] from rfl, toList_madeCells_one]
    simp [hj'])
  rw [List.length_replicate] at hc
  exact hc
theorem wp_make_zero {o : Oper} {a : Act} {K : Act → World → Prop} {Q : Exit → Act → World → Prop} (l c : Operand) (t e : TypeId) (hop : o.op = Op.makeSlice t l c)
    (ht : P.underlying t = some (.slice e)) (he : P.underlying e = some (.int .u8)) (hi : (P.info? e).map (fun i => (i.zero, i.size, i.bytes)) = some (some (.int .u8 0), 1, 1)) (n : Nat) (hl : a.eval l = .int .i64 (n : Int)) (hc : a.eval c = .int .i64 (n : Int)) (hn : n ≤ 1000000000)
    (h : ∀ w', Below w.heap.size w w' → (∀ dst, P.underlying dst = some .string → (convert t dst (.slice (some ⟨w.heap.size, 0, none⟩) n n)).run P w' = .ok (.string (zeros n)) w') → K (a.put o.dst (.slice (some ⟨w.heap.size, 0, none⟩) n n)) w') : o.wp P a w K Q := by
  obtain ⟨w', hrun, h1, h2⟩ := run_make_zero (P := P) (w := w) t e ht he hi .i64 .i64 n hn
  unfold Oper.wp
  simp [execOp, hop, hl, hc, hrun, Result.andThen]
  exact h w' h1 h2
theorem wpList_make_zero {ops : Array Oper} {rest : List Oper} {o : Oper} {a : Act} {Q : Exit → Act → World → Prop} (hg : o.guard = none) (l c : Operand) (t e : TypeId) (hop : o.op = Op.makeSlice t l c)
    (ht : P.underlying t = some (.slice e)) (he : P.underlying e = some (.int .u8)) (hi : (P.info? e).map (fun i => (i.zero, i.size, i.bytes)) = some (some (.int .u8 0), 1, 1)) (n : Nat) (hl : a.eval l = .int .i64 (n : Int)) (hc : a.eval c = .int .i64 (n : Int)) (hn : n ≤ 1000000000)
    (h : ∀ w', Below w.heap.size w w' → (∀ dst, P.underlying dst = some .string → (convert t dst (.slice (some ⟨w.heap.size, 0, none⟩) n n)).run P w' = .ok (.string (zeros n)) w') → wpList P ops Q rest (a.put o.dst (.slice (some ⟨w.heap.size, 0, none⟩) n n)) w') : wpList P ops Q (o :: rest) a w :=
  wpList_plain hg fun K hK => wp_make_zero l c t e hop ht he hi n hl hc hn fun w' h1 h2 => hK _ _ (h w' h1 h2)
end

end Go.Proofs.Ytkeiafiembfaeaa
