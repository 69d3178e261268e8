/- The reference's Pass. -/
import Derived.Test.YtgolelpncdadkaaAirN
set_option linter.unusedSimpArgs false
set_option linter.unusedVariables false
namespace Go.Proofs.Ytgolelpncdadkaa
open Go.RowKit Go.Shelf

theorem wpList_tail {P : Program} {w : World} {ops : Array Oper} {rest : List Oper} {o : Oper} {a : Act} {Q : Exit → Act → World → Prop} {g off n cap size : Nat} (hg : o.guard = none)
    (t e : TypeId) (x lo : Operand) (ho : o.op = Op.slice t x (some lo) none none) (hlo : a.eval lo = .int .i64 1) (hx : a.eval x = .slice (some ⟨g, off, none⟩) (n + 1) (cap + 1)) (hnc : n ≤ cap)
    (ht : P.underlying t = some (.slice e)) (hs : (P.info? e).map (·.size) = some size) (h : wpList P ops Q rest (a.put o.dst (tailV g off n cap size)) w) : wpList P ops Q (o :: rest) a w :=
  wpList_plain hg fun K hK => wp_tail t e x lo ho hlo hx hnc ht hs (hK _ _ h)

end Go.Proofs.Ytgolelpncdadkaa
