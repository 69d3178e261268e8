/-
  No cell of these rows narrows 'for every input' (looked for: loops, veiled, ifaces, maps, wideKeys, modest, calm, conditions, laid).
  DERIVED. THE GIVEN ROWS OF THIS SEAT. 4 by the template 'for every input the law returns true; each argument reads behind the call as it read before'; 0 by the template 'total and deterministic' (their statements: YtkpfebgmfkaglaaTotals.lean).
  GIVEN WITH THE SEED: the statements are not yours to turn. If you find one false, say at which input.
  Laid BY PROGRAM, IN A SANDBOX (cutbox-rows.mjs): the forced cells as the released guide's own fill.sh prints them over the translation be07e53191deb55c… (all of the seat's roots in one cut). By AI agents, Wed Nov 11 2026. No macro, syntax, notation, axiom, sorry.
-/
import Derived.Test.YtkpfebgmfkaglaaChecked
import GoSem.Claim
import GoSem.ClaimJoined
import GoSem.ClaimMapViews
import Derived.JoinedTies
import Derived.KernelRfl
namespace Go.Proofs.Ytkpfebgmfkaglaa
/- THE CELL 'sum', in the pinned program and in every row, IS THE sha256 OF THE DUMP (.gsa) THAT YtkpfebgmfkaglaaProg.lean LOADS. Nothing in Lean hashes anything: it is a label: what it is worth is what the hold of that sum in a sandbox is worth. -/
noncomputable def Try.pinned : Pinned := { name := "ytkpfebgmfkaglaa", sum := "be07e53191deb55c4333ac0749d99d380a971e4407ae7a06a393ec42acf3fb64", checked := Try.checked }
namespace Rows
def none {H : Type} : Left H := { results := [], args := [] }

/-- 'aeriallaw30.SpecOrder': WHATEVER THE INPUT: true; the input reads as it did. -/
def specOrderSpec : ChangeSpec := { name := "specOrder", fn := fun _ => fun
  | [d1, d2] => { results := [.lit (.bool true)], args := [d1, d2] }
  | _ => none }
def specOrderRow : OpenClaim := { program := "ytkpfebgmfkaglaa", sum := "be07e53191deb55c4333ac0749d99d380a971e4407ae7a06a393ec42acf3fb64", func := "aerial/aeriallaw30.SpecOrder", spec := "specOrder", unfollowed := true, recurses := true, plainKeys := false, apart := false }
def SpecOrderSaid : Prop := specOrderRow.holds Try.pinned (OpenSpec.ofChange specOrderSpec)

/-- ITS FALSE NEIGHBOUR: 'it returns false'. Refute it at one input. -/
def specOrderWrong : ChangeSpec := { name := "specOrder", fn := fun _ => fun
  | [d1, d2] => { results := [.lit (.bool false)], args := [d1, d2] }
  | _ => none }
def SpecOrderWrongFalsely : Prop := specOrderRow.holds Try.pinned (OpenSpec.ofChange specOrderWrong)

/-- 'aeriallaw30.SpecWindows': WHATEVER THE INPUT: true; the input reads as it did. -/
def specWindowsSpec : ChangeSpec := { name := "specWindows", fn := fun _ => fun
  | [d1, d2, d3] => { results := [.lit (.bool true)], args := [d1, d2, d3] }
  | _ => none }
def specWindowsRow : OpenClaim := { program := "ytkpfebgmfkaglaa", sum := "be07e53191deb55c4333ac0749d99d380a971e4407ae7a06a393ec42acf3fb64", func := "aerial/aeriallaw30.SpecWindows", spec := "specWindows", unfollowed := true, recurses := true, plainKeys := false, apart := false }
def SpecWindowsSaid : Prop := specWindowsRow.holds Try.pinned (OpenSpec.ofChange specWindowsSpec)

/-- ITS FALSE NEIGHBOUR: 'it returns false'. Refute it at one input. -/
def specWindowsWrong : ChangeSpec := { name := "specWindows", fn := fun _ => fun
  | [d1, d2, d3] => { results := [.lit (.bool false)], args := [d1, d2, d3] }
  | _ => none }
def SpecWindowsWrongFalsely : Prop := specWindowsRow.holds Try.pinned (OpenSpec.ofChange specWindowsWrong)

/-- 'aeriallaw30.SpecWithin': WHATEVER THE INPUT: true; the input reads as it did. -/
def specWithinSpec : ChangeSpec := { name := "specWithin", fn := fun _ => fun
  | [d1, d2] => { results := [.lit (.bool true)], args := [d1, d2] }
  | _ => none }
def specWithinRow : OpenClaim := { program := "ytkpfebgmfkaglaa", sum := "be07e53191deb55c4333ac0749d99d380a971e4407ae7a06a393ec42acf3fb64", func := "aerial/aeriallaw30.SpecWithin", spec := "specWithin", unfollowed := true, recurses := true, plainKeys := false, apart := false }
def SpecWithinSaid : Prop := specWithinRow.holds Try.pinned (OpenSpec.ofChange specWithinSpec)

/-- ITS FALSE NEIGHBOUR: 'it returns false'. Refute it at one input. -/
def specWithinWrong : ChangeSpec := { name := "specWithin", fn := fun _ => fun
  | [d1, d2] => { results := [.lit (.bool false)], args := [d1, d2] }
  | _ => none }
def SpecWithinWrongFalsely : Prop := specWithinRow.holds Try.pinned (OpenSpec.ofChange specWithinWrong)

/-- 'aeriallaw30.SpecKnown': WHATEVER THE INPUT: true; the input reads as it did. -/
def specKnownSpec : ChangeSpec := { name := "specKnown", fn := fun _ => fun
  | [] => { results := [.lit (.bool true)], args := [] }
  | _ => none }
def specKnownRow : OpenClaim := { program := "ytkpfebgmfkaglaa", sum := "be07e53191deb55c4333ac0749d99d380a971e4407ae7a06a393ec42acf3fb64", func := "aerial/aeriallaw30.SpecKnown", spec := "specKnown", unfollowed := true, recurses := true, plainKeys := false, apart := false }
def SpecKnownSaid : Prop := specKnownRow.holds Try.pinned (OpenSpec.ofChange specKnownSpec)

/-- ITS FALSE NEIGHBOUR: 'it returns false'. Refute it at one input. -/
def specKnownWrong : ChangeSpec := { name := "specKnown", fn := fun _ => fun
  | [] => { results := [.lit (.bool false)], args := [] }
  | _ => none }
def SpecKnownWrongFalsely : Prop := specKnownRow.holds Try.pinned (OpenSpec.ofChange specKnownWrong)

/- THE SECOND FORM. 'bulk': how many values and letters a reading holds, each counted each time it is reached (what is shared counts as often as it is met; a slice's spare places count too). A statement '..UptoSaid' is the law's where the arguments, and the package variables that the reading takes, are together of bulk at most 1048576: NARROWER than '..Said'. Prove '..Said' where nothing that the law and all that it calls make is longer than what came in: it says more and counts as full. Else prove '..UptoSaid'. A law counts once. -/
mutual
def uptoBulk {H : Type} : DataW H → Nat
  | .lit (.string bytes) => bytes.length + 1
  | .lit _ => 1
  | .nil => 1
  | .ptr d => uptoBulk d + 1
  | .slice elems spare => uptoBulkAll elems + uptoBulkAll spare + 1
  | .agg parts => uptoBulkAll parts + 1
  | .iface _ d => uptoBulk d + 1
  | .map entries => uptoBulkEntries entries + 1
  | .held _ => 1
def uptoBulkAll {H : Type} : List (DataW H) → Nat
  | [] => 0
  | d :: r => uptoBulk d + uptoBulkAll r
def uptoBulkEntries {H : Type} : List (Lit × DataW H) → Nat
  | [] => 0
  | x :: r => uptoBulkEntry x + uptoBulkEntries r
def uptoBulkEntry {H : Type} : Lit × DataW H → Nat
  | (.string bytes, d) => bytes.length + uptoBulk d + 1
  | (_, d) => uptoBulk d + 1
 end
def uptoSmall : (H : Type) → List (DataW H) → Bool := fun _ ds => decide (uptoBulkAll ds ≤ 1048576)
def OpenSpec.upto (s : _root_.Go.ChangeSpec) : _root_.Go.OpenSpec := { _root_.Go.OpenSpec.ofChange s with cond := some uptoSmall }

/-- 'aeriallaw30.SpecOrder', WHERE WHAT IT READS IS OF BULK AT MOST 1048576: true; the input reads as it did. -/
def specOrderUptoRow : OpenClaim := { program := "ytkpfebgmfkaglaa", sum := "be07e53191deb55c4333ac0749d99d380a971e4407ae7a06a393ec42acf3fb64", func := "aerial/aeriallaw30.SpecOrder", spec := "specOrder", unfollowed := true, recurses := true, plainKeys := false, apart := false, narrowed := true }
def SpecOrderUptoSaid : Prop := specOrderUptoRow.holds Try.pinned (OpenSpec.upto specOrderSpec)

/-- 'aeriallaw30.SpecWindows', WHERE WHAT IT READS IS OF BULK AT MOST 1048576: true; the input reads as it did. -/
def specWindowsUptoRow : OpenClaim := { program := "ytkpfebgmfkaglaa", sum := "be07e53191deb55c4333ac0749d99d380a971e4407ae7a06a393ec42acf3fb64", func := "aerial/aeriallaw30.SpecWindows", spec := "specWindows", unfollowed := true, recurses := true, plainKeys := false, apart := false, narrowed := true }
def SpecWindowsUptoSaid : Prop := specWindowsUptoRow.holds Try.pinned (OpenSpec.upto specWindowsSpec)

/-- 'aeriallaw30.SpecWithin', WHERE WHAT IT READS IS OF BULK AT MOST 1048576: true; the input reads as it did. -/
def specWithinUptoRow : OpenClaim := { program := "ytkpfebgmfkaglaa", sum := "be07e53191deb55c4333ac0749d99d380a971e4407ae7a06a393ec42acf3fb64", func := "aerial/aeriallaw30.SpecWithin", spec := "specWithin", unfollowed := true, recurses := true, plainKeys := false, apart := false, narrowed := true }
def SpecWithinUptoSaid : Prop := specWithinUptoRow.holds Try.pinned (OpenSpec.upto specWithinSpec)

/-- 'aeriallaw30.SpecKnown', WHERE WHAT IT READS IS OF BULK AT MOST 1048576: true; the input reads as it did. -/
def specKnownUptoRow : OpenClaim := { program := "ytkpfebgmfkaglaa", sum := "be07e53191deb55c4333ac0749d99d380a971e4407ae7a06a393ec42acf3fb64", func := "aerial/aeriallaw30.SpecKnown", spec := "specKnown", unfollowed := true, recurses := true, plainKeys := false, apart := false, narrowed := true }
def SpecKnownUptoSaid : Prop := specKnownUptoRow.holds Try.pinned (OpenSpec.upto specKnownSpec)

end Rows
end Go.Proofs.Ytkpfebgmfkaglaa
