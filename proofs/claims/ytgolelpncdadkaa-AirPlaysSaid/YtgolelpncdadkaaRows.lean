/-
  No cell of these rows narrows 'for every input' (looked for: loops, veiled, ifaces, maps, wideKeys, modest, calm, conditions, laid).
  DERIVED. THE GIVEN ROWS OF THIS SEAT. 4 by the template 'for every input the law returns true; each argument reads behind the call as it read before'; 0 by the template 'total and deterministic' (their statements: YtgolelpncdadkaaTotals.lean).
  GIVEN WITH THE SEED: the statements are not yours to turn. If you find one false, say at which input.
  Laid BY PROGRAM, IN A SANDBOX (cutbox-rows.mjs): the forced cells as the released guide's own fill.sh prints them over the translation ff30ae11d24817bd… (all of the seat's roots in one cut). By AI agents, Wed Nov 11 2026. No macro, syntax, notation, axiom, sorry.
-/
import Derived.Test.YtgolelpncdadkaaChecked
import GoSem.Claim
import GoSem.ClaimJoined
import GoSem.ClaimMapViews
import Derived.JoinedTies
import Derived.KernelRfl
namespace Go.Proofs.Ytgolelpncdadkaa
/- THE CELL 'sum', in the pinned program and in every row, IS THE sha256 OF THE DUMP (.gsa) THAT YtgolelpncdadkaaProg.lean LOADS. Nothing in Lean hashes anything: it is a label: what it is worth is what the hold of that sum in a sandbox is worth. -/
noncomputable def Try.pinned : Pinned := { name := "ytgolelpncdadkaa", sum := "ff30ae11d24817bdbe7020639cd3c97b958a2ffd6ae610af92bda8a935b068ce", checked := Try.checked }
namespace Rows
def none {H : Type} : Left H := { results := [], args := [] }

/-- 'aeriallaw28.AirPlays': WHATEVER THE INPUT: true; the input reads as it did. -/
def airPlaysSpec : ChangeSpec := { name := "airPlays", fn := fun _ => fun
  | [d1, d2] => { results := [.lit (.bool true)], args := [d1, d2] }
  | _ => none }
def airPlaysRow : OpenClaim := { program := "ytgolelpncdadkaa", sum := "ff30ae11d24817bdbe7020639cd3c97b958a2ffd6ae610af92bda8a935b068ce", func := "aerial/aeriallaw28.AirPlays", spec := "airPlays", unfollowed := true, recurses := true, apart := false }
def AirPlaysSaid : Prop := airPlaysRow.holds Try.pinned (OpenSpec.ofChange airPlaysSpec)

/-- ITS FALSE NEIGHBOUR: 'it returns false'. Refute it at one input. -/
def airPlaysWrong : ChangeSpec := { name := "airPlays", fn := fun _ => fun
  | [d1, d2] => { results := [.lit (.bool false)], args := [d1, d2] }
  | _ => none }
def AirPlaysWrongFalsely : Prop := airPlaysRow.holds Try.pinned (OpenSpec.ofChange airPlaysWrong)

/-- 'aeriallaw28.AirTurns': WHATEVER THE INPUT: true; the input reads as it did. -/
def airTurnsSpec : ChangeSpec := { name := "airTurns", fn := fun _ => fun
  | [d1, d2, d3] => { results := [.lit (.bool true)], args := [d1, d2, d3] }
  | _ => none }
def airTurnsRow : OpenClaim := { program := "ytgolelpncdadkaa", sum := "ff30ae11d24817bdbe7020639cd3c97b958a2ffd6ae610af92bda8a935b068ce", func := "aerial/aeriallaw28.AirTurns", spec := "airTurns", unfollowed := true, recurses := true, apart := false }
def AirTurnsSaid : Prop := airTurnsRow.holds Try.pinned (OpenSpec.ofChange airTurnsSpec)

/-- ITS FALSE NEIGHBOUR: 'it returns false'. Refute it at one input. -/
def airTurnsWrong : ChangeSpec := { name := "airTurns", fn := fun _ => fun
  | [d1, d2, d3] => { results := [.lit (.bool false)], args := [d1, d2, d3] }
  | _ => none }
def AirTurnsWrongFalsely : Prop := airTurnsRow.holds Try.pinned (OpenSpec.ofChange airTurnsWrong)

/-- 'aeriallaw28.AirApart': WHATEVER THE INPUT: true; the input reads as it did. -/
def airApartSpec : ChangeSpec := { name := "airApart", fn := fun _ => fun
  | [d1, d2, d3] => { results := [.lit (.bool true)], args := [d1, d2, d3] }
  | _ => none }
def airApartRow : OpenClaim := { program := "ytgolelpncdadkaa", sum := "ff30ae11d24817bdbe7020639cd3c97b958a2ffd6ae610af92bda8a935b068ce", func := "aerial/aeriallaw28.AirApart", spec := "airApart", unfollowed := true, recurses := true, apart := false }
def AirApartSaid : Prop := airApartRow.holds Try.pinned (OpenSpec.ofChange airApartSpec)

/-- ITS FALSE NEIGHBOUR: 'it returns false'. Refute it at one input. -/
def airApartWrong : ChangeSpec := { name := "airApart", fn := fun _ => fun
  | [d1, d2, d3] => { results := [.lit (.bool false)], args := [d1, d2, d3] }
  | _ => none }
def AirApartWrongFalsely : Prop := airApartRow.holds Try.pinned (OpenSpec.ofChange airApartWrong)

/-- 'aeriallaw28.AirKnown': WHATEVER THE INPUT: true; the input reads as it did. -/
def airKnownSpec : ChangeSpec := { name := "airKnown", fn := fun _ => fun
  | [] => { results := [.lit (.bool true)], args := [] }
  | _ => none }
def airKnownRow : OpenClaim := { program := "ytgolelpncdadkaa", sum := "ff30ae11d24817bdbe7020639cd3c97b958a2ffd6ae610af92bda8a935b068ce", func := "aerial/aeriallaw28.AirKnown", spec := "airKnown", unfollowed := true, recurses := true, apart := false }
def AirKnownSaid : Prop := airKnownRow.holds Try.pinned (OpenSpec.ofChange airKnownSpec)

/-- ITS FALSE NEIGHBOUR: 'it returns false'. Refute it at one input. -/
def airKnownWrong : ChangeSpec := { name := "airKnown", fn := fun _ => fun
  | [] => { results := [.lit (.bool false)], args := [] }
  | _ => none }
def AirKnownWrongFalsely : Prop := airKnownRow.holds Try.pinned (OpenSpec.ofChange airKnownWrong)

/- THE SECOND FORM. 'bulk': how many values and letters a reading holds, each counted each time it is reached (what is shared counts as often as it is met; a slice's spare places count too). A statement '..UptoSaid' is the law's where the arguments, and the package variables that the reading takes, are together of bulk at most 1048576: NARROWER than '..Said'. Prove '..Said' where nothing that the law and all that it calls make is longer than what came in: it says more and counts as full. Else prove '..UptoSaid'. A law counts once. -/
mutual
def uptoBulk {H : Type} : DataW H → Nat
  | .lit (.string bytes) => bytes.length + 1
  | .lit _ => 1
  | .nil => 1
  | .ptr d => uptoBulk d + 1
  | .slice elems spare => uptoBulkAll elems + uptoBulkAll spare + 1
  | .agg parts => uptoBulkAll parts + 1
  | .iface _ d => uptoBulk d + 1
  | .map entries => uptoBulkEntries entries + 1
  | .held _ => 1
def uptoBulkAll {H : Type} : List (DataW H) → Nat
  | [] => 0
  | d :: r => uptoBulk d + uptoBulkAll r
def uptoBulkEntries {H : Type} : List (Lit × DataW H) → Nat
  | [] => 0
  | x :: r => uptoBulkEntry x + uptoBulkEntries r
def uptoBulkEntry {H : Type} : Lit × DataW H → Nat
  | (.string bytes, d) => bytes.length + uptoBulk d + 1
  | (_, d) => uptoBulk d + 1
 end
def uptoSmall : (H : Type) → List (DataW H) → Bool := fun _ ds => decide (uptoBulkAll ds ≤ 1048576)
def OpenSpec.upto (s : _root_.Go.ChangeSpec) : _root_.Go.OpenSpec := { _root_.Go.OpenSpec.ofChange s with cond := some uptoSmall }

/-- 'aeriallaw28.AirPlays', WHERE WHAT IT READS IS OF BULK AT MOST 1048576: true; the input reads as it did. -/
def airPlaysUptoRow : OpenClaim := { program := "ytgolelpncdadkaa", sum := "ff30ae11d24817bdbe7020639cd3c97b958a2ffd6ae610af92bda8a935b068ce", func := "aerial/aeriallaw28.AirPlays", spec := "airPlays", unfollowed := true, recurses := true, apart := false, narrowed := true }
def AirPlaysUptoSaid : Prop := airPlaysUptoRow.holds Try.pinned (OpenSpec.upto airPlaysSpec)

/-- 'aeriallaw28.AirTurns', WHERE WHAT IT READS IS OF BULK AT MOST 1048576: true; the input reads as it did. -/
def airTurnsUptoRow : OpenClaim := { program := "ytgolelpncdadkaa", sum := "ff30ae11d24817bdbe7020639cd3c97b958a2ffd6ae610af92bda8a935b068ce", func := "aerial/aeriallaw28.AirTurns", spec := "airTurns", unfollowed := true, recurses := true, apart := false, narrowed := true }
def AirTurnsUptoSaid : Prop := airTurnsUptoRow.holds Try.pinned (OpenSpec.upto airTurnsSpec)

/-- 'aeriallaw28.AirApart', WHERE WHAT IT READS IS OF BULK AT MOST 1048576: true; the input reads as it did. -/
def airApartUptoRow : OpenClaim := { program := "ytgolelpncdadkaa", sum := "ff30ae11d24817bdbe7020639cd3c97b958a2ffd6ae610af92bda8a935b068ce", func := "aerial/aeriallaw28.AirApart", spec := "airApart", unfollowed := true, recurses := true, apart := false, narrowed := true }
def AirApartUptoSaid : Prop := airApartUptoRow.holds Try.pinned (OpenSpec.upto airApartSpec)

/-- 'aeriallaw28.AirKnown', WHERE WHAT IT READS IS OF BULK AT MOST 1048576: true; the input reads as it did. -/
def airKnownUptoRow : OpenClaim := { program := "ytgolelpncdadkaa", sum := "ff30ae11d24817bdbe7020639cd3c97b958a2ffd6ae610af92bda8a935b068ce", func := "aerial/aeriallaw28.AirKnown", spec := "airKnown", unfollowed := true, recurses := true, apart := false, narrowed := true }
def AirKnownUptoSaid : Prop := airKnownUptoRow.holds Try.pinned (OpenSpec.upto airKnownSpec)

end Rows
end Go.Proofs.Ytgolelpncdadkaa
