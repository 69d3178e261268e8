/-
  No cell of these rows narrows 'for every input' (looked for: loops, veiled, ifaces, maps, wideKeys, modest, calm, conditions, laid).
  DERIVED. THE GIVEN ROWS OF THIS SEAT. 5 by the template 'for every input the law returns true; each argument reads behind the call as it read before'; 0 by the template 'total and deterministic' (their statements: YtmiobfnjegdhdaaTotals.lean).
  GIVEN WITH THE SEED: the statements are not yours to turn. If you find one false, say at which input.
  Laid BY PROGRAM, IN A SANDBOX (cutbox-rows.mjs): the forced cells as the released guide's own fill.sh prints them over the translation 586ab11b2ed4f792… (all of the seat's roots in one cut). By AI agents, Wed Nov 11 2026. No macro, syntax, notation, axiom, sorry.
-/
import Derived.Test.YtmiobfnjegdhdaaChecked
import GoSem.Claim
import GoSem.ClaimJoined
import GoSem.ClaimMapViews
import Derived.JoinedTies
import Derived.KernelRfl
namespace Go.Proofs.Ytmiobfnjegdhdaa
/- THE CELL 'sum', in the pinned program and in every row, IS THE sha256 OF THE DUMP (.gsa) THAT YtmiobfnjegdhdaaProg.lean LOADS. Nothing in Lean hashes anything: it is a label: what it is worth is what the hold of that sum in a sandbox is worth. -/
noncomputable def Try.pinned : Pinned := { name := "ytmiobfnjegdhdaa", sum := "586ab11b2ed4f79292ec00f893c4acab2eabcdbb4af4be93ea39805bd434c01a", checked := Try.checked }
namespace Rows
def none {H : Type} : Left H := { results := [], args := [] }

/-- 'aeriallaw05.ModcodTells': WHATEVER THE INPUT: true; the input reads as it did. -/
def modcodTellsSpec : ChangeSpec := { name := "modcodTells", fn := fun _ => fun
  | [d] => { results := [.lit (.bool true)], args := [d] }
  | _ => none }
def modcodTellsRow : OpenClaim := { program := "ytmiobfnjegdhdaa", sum := "586ab11b2ed4f79292ec00f893c4acab2eabcdbb4af4be93ea39805bd434c01a", func := "aerial/aeriallaw05.ModcodTells", spec := "modcodTells", unfollowed := true, recurses := true, apart := false }
def ModcodTellsSaid : Prop := modcodTellsRow.holds Try.pinned (OpenSpec.ofChange modcodTellsSpec)

/-- ITS FALSE NEIGHBOUR: 'it returns false'. Refute it at one input. -/
def modcodTellsWrong : ChangeSpec := { name := "modcodTells", fn := fun _ => fun
  | [d] => { results := [.lit (.bool false)], args := [d] }
  | _ => none }
def ModcodTellsWrongFalsely : Prop := modcodTellsRow.holds Try.pinned (OpenSpec.ofChange modcodTellsWrong)

/-- 'aeriallaw05.ModcodNeeds': WHATEVER THE INPUT: true; the input reads as it did. -/
def modcodNeedsSpec : ChangeSpec := { name := "modcodNeeds", fn := fun _ => fun
  | [d1, d2] => { results := [.lit (.bool true)], args := [d1, d2] }
  | _ => none }
def modcodNeedsRow : OpenClaim := { program := "ytmiobfnjegdhdaa", sum := "586ab11b2ed4f79292ec00f893c4acab2eabcdbb4af4be93ea39805bd434c01a", func := "aerial/aeriallaw05.ModcodNeeds", spec := "modcodNeeds", unfollowed := true, recurses := true, apart := false }
def ModcodNeedsSaid : Prop := modcodNeedsRow.holds Try.pinned (OpenSpec.ofChange modcodNeedsSpec)

/-- ITS FALSE NEIGHBOUR: 'it returns false'. Refute it at one input. -/
def modcodNeedsWrong : ChangeSpec := { name := "modcodNeeds", fn := fun _ => fun
  | [d1, d2] => { results := [.lit (.bool false)], args := [d1, d2] }
  | _ => none }
def ModcodNeedsWrongFalsely : Prop := modcodNeedsRow.holds Try.pinned (OpenSpec.ofChange modcodNeedsWrong)

/-- 'aeriallaw05.ModcodSizes': WHATEVER THE INPUT: true; the input reads as it did. -/
def modcodSizesSpec : ChangeSpec := { name := "modcodSizes", fn := fun _ => fun
  | [d] => { results := [.lit (.bool true)], args := [d] }
  | _ => none }
def modcodSizesRow : OpenClaim := { program := "ytmiobfnjegdhdaa", sum := "586ab11b2ed4f79292ec00f893c4acab2eabcdbb4af4be93ea39805bd434c01a", func := "aerial/aeriallaw05.ModcodSizes", spec := "modcodSizes", unfollowed := true, recurses := true, apart := false }
def ModcodSizesSaid : Prop := modcodSizesRow.holds Try.pinned (OpenSpec.ofChange modcodSizesSpec)

/-- ITS FALSE NEIGHBOUR: 'it returns false'. Refute it at one input. -/
def modcodSizesWrong : ChangeSpec := { name := "modcodSizes", fn := fun _ => fun
  | [d] => { results := [.lit (.bool false)], args := [d] }
  | _ => none }
def ModcodSizesWrongFalsely : Prop := modcodSizesRow.holds Try.pinned (OpenSpec.ofChange modcodSizesWrong)

/-- 'aeriallaw05.ModcodOrder': WHATEVER THE INPUT: true; the input reads as it did. -/
def modcodOrderSpec : ChangeSpec := { name := "modcodOrder", fn := fun _ => fun
  | [d1, d2, d3] => { results := [.lit (.bool true)], args := [d1, d2, d3] }
  | _ => none }
def modcodOrderRow : OpenClaim := { program := "ytmiobfnjegdhdaa", sum := "586ab11b2ed4f79292ec00f893c4acab2eabcdbb4af4be93ea39805bd434c01a", func := "aerial/aeriallaw05.ModcodOrder", spec := "modcodOrder", unfollowed := true, recurses := true, apart := false }
def ModcodOrderSaid : Prop := modcodOrderRow.holds Try.pinned (OpenSpec.ofChange modcodOrderSpec)

/-- ITS FALSE NEIGHBOUR: 'it returns false'. Refute it at one input. -/
def modcodOrderWrong : ChangeSpec := { name := "modcodOrder", fn := fun _ => fun
  | [d1, d2, d3] => { results := [.lit (.bool false)], args := [d1, d2, d3] }
  | _ => none }
def ModcodOrderWrongFalsely : Prop := modcodOrderRow.holds Try.pinned (OpenSpec.ofChange modcodOrderWrong)

/-- 'aeriallaw05.ModcodKnown': WHATEVER THE INPUT: true; the input reads as it did. -/
def modcodKnownSpec : ChangeSpec := { name := "modcodKnown", fn := fun _ => fun
  | [] => { results := [.lit (.bool true)], args := [] }
  | _ => none }
def modcodKnownRow : OpenClaim := { program := "ytmiobfnjegdhdaa", sum := "586ab11b2ed4f79292ec00f893c4acab2eabcdbb4af4be93ea39805bd434c01a", func := "aerial/aeriallaw05.ModcodKnown", spec := "modcodKnown", unfollowed := true, recurses := true, apart := false }
def ModcodKnownSaid : Prop := modcodKnownRow.holds Try.pinned (OpenSpec.ofChange modcodKnownSpec)

/-- ITS FALSE NEIGHBOUR: 'it returns false'. Refute it at one input. -/
def modcodKnownWrong : ChangeSpec := { name := "modcodKnown", fn := fun _ => fun
  | [] => { results := [.lit (.bool false)], args := [] }
  | _ => none }
def ModcodKnownWrongFalsely : Prop := modcodKnownRow.holds Try.pinned (OpenSpec.ofChange modcodKnownWrong)

/- THE SECOND FORM. 'bulk': how many values and letters a reading holds, each counted each time it is reached (what is shared counts as often as it is met; a slice's spare places count too). A statement '..UptoSaid' is the law's where the arguments, and the package variables that the reading takes, are together of bulk at most 1048576: NARROWER than '..Said'. Prove '..Said' where nothing that the law and all that it calls make is longer than what came in: it says more and counts as full. Else prove '..UptoSaid'. A law counts once. -/
mutual
def uptoBulk {H : Type} : DataW H → Nat
  | .lit (.string bytes) => bytes.length + 1
  | .lit _ => 1
  | .nil => 1
  | .ptr d => uptoBulk d + 1
  | .slice elems spare => uptoBulkAll elems + uptoBulkAll spare + 1
  | .agg parts => uptoBulkAll parts + 1
  | .iface _ d => uptoBulk d + 1
  | .map entries => uptoBulkEntries entries + 1
  | .held _ => 1
def uptoBulkAll {H : Type} : List (DataW H) → Nat
  | [] => 0
  | d :: r => uptoBulk d + uptoBulkAll r
def uptoBulkEntries {H : Type} : List (Lit × DataW H) → Nat
  | [] => 0
  | x :: r => uptoBulkEntry x + uptoBulkEntries r
def uptoBulkEntry {H : Type} : Lit × DataW H → Nat
  | (.string bytes, d) => bytes.length + uptoBulk d + 1
  | (_, d) => uptoBulk d + 1
 end
def uptoSmall : (H : Type) → List (DataW H) → Bool := fun _ ds => decide (uptoBulkAll ds ≤ 1048576)
def OpenSpec.upto (s : _root_.Go.ChangeSpec) : _root_.Go.OpenSpec := { _root_.Go.OpenSpec.ofChange s with cond := some uptoSmall }

/-- 'aeriallaw05.ModcodTells', WHERE WHAT IT READS IS OF BULK AT MOST 1048576: true; the input reads as it did. -/
def modcodTellsUptoRow : OpenClaim := { program := "ytmiobfnjegdhdaa", sum := "586ab11b2ed4f79292ec00f893c4acab2eabcdbb4af4be93ea39805bd434c01a", func := "aerial/aeriallaw05.ModcodTells", spec := "modcodTells", unfollowed := true, recurses := true, apart := false, narrowed := true }
def ModcodTellsUptoSaid : Prop := modcodTellsUptoRow.holds Try.pinned (OpenSpec.upto modcodTellsSpec)

/-- 'aeriallaw05.ModcodNeeds', WHERE WHAT IT READS IS OF BULK AT MOST 1048576: true; the input reads as it did. -/
def modcodNeedsUptoRow : OpenClaim := { program := "ytmiobfnjegdhdaa", sum := "586ab11b2ed4f79292ec00f893c4acab2eabcdbb4af4be93ea39805bd434c01a", func := "aerial/aeriallaw05.ModcodNeeds", spec := "modcodNeeds", unfollowed := true, recurses := true, apart := false, narrowed := true }
def ModcodNeedsUptoSaid : Prop := modcodNeedsUptoRow.holds Try.pinned (OpenSpec.upto modcodNeedsSpec)

/-- 'aeriallaw05.ModcodSizes', WHERE WHAT IT READS IS OF BULK AT MOST 1048576: true; the input reads as it did. -/
def modcodSizesUptoRow : OpenClaim := { program := "ytmiobfnjegdhdaa", sum := "586ab11b2ed4f79292ec00f893c4acab2eabcdbb4af4be93ea39805bd434c01a", func := "aerial/aeriallaw05.ModcodSizes", spec := "modcodSizes", unfollowed := true, recurses := true, apart := false, narrowed := true }
def ModcodSizesUptoSaid : Prop := modcodSizesUptoRow.holds Try.pinned (OpenSpec.upto modcodSizesSpec)

/-- 'aeriallaw05.ModcodOrder', WHERE WHAT IT READS IS OF BULK AT MOST 1048576: true; the input reads as it did. -/
def modcodOrderUptoRow : OpenClaim := { program := "ytmiobfnjegdhdaa", sum := "586ab11b2ed4f79292ec00f893c4acab2eabcdbb4af4be93ea39805bd434c01a", func := "aerial/aeriallaw05.ModcodOrder", spec := "modcodOrder", unfollowed := true, recurses := true, apart := false, narrowed := true }
def ModcodOrderUptoSaid : Prop := modcodOrderUptoRow.holds Try.pinned (OpenSpec.upto modcodOrderSpec)

/-- 'aeriallaw05.ModcodKnown', WHERE WHAT IT READS IS OF BULK AT MOST 1048576: true; the input reads as it did. -/
def modcodKnownUptoRow : OpenClaim := { program := "ytmiobfnjegdhdaa", sum := "586ab11b2ed4f79292ec00f893c4acab2eabcdbb4af4be93ea39805bd434c01a", func := "aerial/aeriallaw05.ModcodKnown", spec := "modcodKnown", unfollowed := true, recurses := true, apart := false, narrowed := true }
def ModcodKnownUptoSaid : Prop := modcodKnownUptoRow.holds Try.pinned (OpenSpec.upto modcodKnownSpec)

end Rows
end Go.Proofs.Ytmiobfnjegdhdaa
