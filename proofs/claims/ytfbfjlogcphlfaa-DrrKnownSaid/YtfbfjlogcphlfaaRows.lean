/-
  No cell of these rows narrows 'for every input' (looked for: loops, veiled, ifaces, maps, wideKeys, modest, calm, conditions, laid).
  DERIVED. THE GIVEN ROWS OF THIS SEAT. 5 by the template 'for every input the law returns true; each argument reads behind the call as it read before'; 0 by the template 'total and deterministic' (their statements: YtfbfjlogcphlfaaTotals.lean).
  GIVEN WITH THE SEED: the statements are not yours to turn. If you find one false, say at which input.
  Laid BY PROGRAM, IN A SANDBOX (cutbox-rows.mjs): the forced cells as the released guide's own fill.sh prints them over the translation eaaa7bd569da6a6c… (all of the seat's roots in one cut). By AI agents, Wed Nov 11 2026. No macro, syntax, notation, axiom, sorry.
-/
import Derived.Test.YtfbfjlogcphlfaaChecked
import GoSem.Claim
import GoSem.ClaimJoined
import GoSem.ClaimMapViews
import Derived.JoinedTies
import Derived.KernelRfl
namespace Go.Proofs.Ytfbfjlogcphlfaa
/- THE CELL 'sum', in the pinned program and in every row, IS THE sha256 OF THE DUMP (.gsa) THAT YtfbfjlogcphlfaaProg.lean LOADS. Nothing in Lean hashes anything: it is a label: what it is worth is what the hold of that sum in a sandbox is worth. -/
noncomputable def Try.pinned : Pinned := { name := "ytfbfjlogcphlfaa", sum := "eaaa7bd569da6a6c2d1fb1206d49d5080d12fa4c121cded68f2b5594fe522957", checked := Try.checked }
namespace Rows
def none {H : Type} : Left H := { results := [], args := [] }

/-- 'aeriallaw22.DrrPlays': WHATEVER THE INPUT: true; the input reads as it did. -/
def drrPlaysSpec : ChangeSpec := { name := "drrPlays", fn := fun _ => fun
  | [d1, d2, d3] => { results := [.lit (.bool true)], args := [d1, d2, d3] }
  | _ => none }
def drrPlaysRow : OpenClaim := { program := "ytfbfjlogcphlfaa", sum := "eaaa7bd569da6a6c2d1fb1206d49d5080d12fa4c121cded68f2b5594fe522957", func := "aerial/aeriallaw22.DrrPlays", spec := "drrPlays", unfollowed := true, recurses := true, apart := false }
def DrrPlaysSaid : Prop := drrPlaysRow.holds Try.pinned (OpenSpec.ofChange drrPlaysSpec)

/-- ITS FALSE NEIGHBOUR: 'it returns false'. Refute it at one input. -/
def drrPlaysWrong : ChangeSpec := { name := "drrPlays", fn := fun _ => fun
  | [d1, d2, d3] => { results := [.lit (.bool false)], args := [d1, d2, d3] }
  | _ => none }
def DrrPlaysWrongFalsely : Prop := drrPlaysRow.holds Try.pinned (OpenSpec.ofChange drrPlaysWrong)

/-- 'aeriallaw22.DrrBounds': WHATEVER THE INPUT: true; the input reads as it did. -/
def drrBoundsSpec : ChangeSpec := { name := "drrBounds", fn := fun _ => fun
  | [d1, d2] => { results := [.lit (.bool true)], args := [d1, d2] }
  | _ => none }
def drrBoundsRow : OpenClaim := { program := "ytfbfjlogcphlfaa", sum := "eaaa7bd569da6a6c2d1fb1206d49d5080d12fa4c121cded68f2b5594fe522957", func := "aerial/aeriallaw22.DrrBounds", spec := "drrBounds", unfollowed := true, recurses := true, apart := false }
def DrrBoundsSaid : Prop := drrBoundsRow.holds Try.pinned (OpenSpec.ofChange drrBoundsSpec)

/-- ITS FALSE NEIGHBOUR: 'it returns false'. Refute it at one input. -/
def drrBoundsWrong : ChangeSpec := { name := "drrBounds", fn := fun _ => fun
  | [d1, d2] => { results := [.lit (.bool false)], args := [d1, d2] }
  | _ => none }
def DrrBoundsWrongFalsely : Prop := drrBoundsRow.holds Try.pinned (OpenSpec.ofChange drrBoundsWrong)

/-- 'aeriallaw22.DrrFair': WHATEVER THE INPUT: true; the input reads as it did. -/
def drrFairSpec : ChangeSpec := { name := "drrFair", fn := fun _ => fun
  | [d1, d2, d3] => { results := [.lit (.bool true)], args := [d1, d2, d3] }
  | _ => none }
def drrFairRow : OpenClaim := { program := "ytfbfjlogcphlfaa", sum := "eaaa7bd569da6a6c2d1fb1206d49d5080d12fa4c121cded68f2b5594fe522957", func := "aerial/aeriallaw22.DrrFair", spec := "drrFair", unfollowed := true, recurses := true, apart := false }
def DrrFairSaid : Prop := drrFairRow.holds Try.pinned (OpenSpec.ofChange drrFairSpec)

/-- ITS FALSE NEIGHBOUR: 'it returns false'. Refute it at one input. -/
def drrFairWrong : ChangeSpec := { name := "drrFair", fn := fun _ => fun
  | [d1, d2, d3] => { results := [.lit (.bool false)], args := [d1, d2, d3] }
  | _ => none }
def DrrFairWrongFalsely : Prop := drrFairRow.holds Try.pinned (OpenSpec.ofChange drrFairWrong)

/-- 'aeriallaw22.DrrAlone': WHATEVER THE INPUT: true; the input reads as it did. -/
def drrAloneSpec : ChangeSpec := { name := "drrAlone", fn := fun _ => fun
  | [d1, d2, d3] => { results := [.lit (.bool true)], args := [d1, d2, d3] }
  | _ => none }
def drrAloneRow : OpenClaim := { program := "ytfbfjlogcphlfaa", sum := "eaaa7bd569da6a6c2d1fb1206d49d5080d12fa4c121cded68f2b5594fe522957", func := "aerial/aeriallaw22.DrrAlone", spec := "drrAlone", unfollowed := true, recurses := true, apart := false }
def DrrAloneSaid : Prop := drrAloneRow.holds Try.pinned (OpenSpec.ofChange drrAloneSpec)

/-- ITS FALSE NEIGHBOUR: 'it returns false'. Refute it at one input. -/
def drrAloneWrong : ChangeSpec := { name := "drrAlone", fn := fun _ => fun
  | [d1, d2, d3] => { results := [.lit (.bool false)], args := [d1, d2, d3] }
  | _ => none }
def DrrAloneWrongFalsely : Prop := drrAloneRow.holds Try.pinned (OpenSpec.ofChange drrAloneWrong)

/-- 'aeriallaw22.DrrKnown': WHATEVER THE INPUT: true; the input reads as it did. -/
def drrKnownSpec : ChangeSpec := { name := "drrKnown", fn := fun _ => fun
  | [] => { results := [.lit (.bool true)], args := [] }
  | _ => none }
def drrKnownRow : OpenClaim := { program := "ytfbfjlogcphlfaa", sum := "eaaa7bd569da6a6c2d1fb1206d49d5080d12fa4c121cded68f2b5594fe522957", func := "aerial/aeriallaw22.DrrKnown", spec := "drrKnown", unfollowed := true, recurses := true, apart := false }
def DrrKnownSaid : Prop := drrKnownRow.holds Try.pinned (OpenSpec.ofChange drrKnownSpec)

/-- ITS FALSE NEIGHBOUR: 'it returns false'. Refute it at one input. -/
def drrKnownWrong : ChangeSpec := { name := "drrKnown", fn := fun _ => fun
  | [] => { results := [.lit (.bool false)], args := [] }
  | _ => none }
def DrrKnownWrongFalsely : Prop := drrKnownRow.holds Try.pinned (OpenSpec.ofChange drrKnownWrong)

/- THE SECOND FORM. 'bulk': how many values and letters a reading holds, each counted each time it is reached (what is shared counts as often as it is met; a slice's spare places count too). A statement '..UptoSaid' is the law's where the arguments, and the package variables that the reading takes, are together of bulk at most 1048576: NARROWER than '..Said'. Prove '..Said' where nothing that the law and all that it calls make is longer than what came in: it says more and counts as full. Else prove '..UptoSaid'. A law counts once. -/
mutual
def uptoBulk {H : Type} : DataW H → Nat
  | .lit (.string bytes) => bytes.length + 1
  | .lit _ => 1
  | .nil => 1
  | .ptr d => uptoBulk d + 1
  | .slice elems spare => uptoBulkAll elems + uptoBulkAll spare + 1
  | .agg parts => uptoBulkAll parts + 1
  | .iface _ d => uptoBulk d + 1
  | .map entries => uptoBulkEntries entries + 1
  | .held _ => 1
def uptoBulkAll {H : Type} : List (DataW H) → Nat
  | [] => 0
  | d :: r => uptoBulk d + uptoBulkAll r
def uptoBulkEntries {H : Type} : List (Lit × DataW H) → Nat
  | [] => 0
  | x :: r => uptoBulkEntry x + uptoBulkEntries r
def uptoBulkEntry {H : Type} : Lit × DataW H → Nat
  | (.string bytes, d) => bytes.length + uptoBulk d + 1
  | (_, d) => uptoBulk d + 1
 end
def uptoSmall : (H : Type) → List (DataW H) → Bool := fun _ ds => decide (uptoBulkAll ds ≤ 1048576)
def OpenSpec.upto (s : _root_.Go.ChangeSpec) : _root_.Go.OpenSpec := { _root_.Go.OpenSpec.ofChange s with cond := some uptoSmall }

/-- 'aeriallaw22.DrrPlays', WHERE WHAT IT READS IS OF BULK AT MOST 1048576: true; the input reads as it did. -/
def drrPlaysUptoRow : OpenClaim := { program := "ytfbfjlogcphlfaa", sum := "eaaa7bd569da6a6c2d1fb1206d49d5080d12fa4c121cded68f2b5594fe522957", func := "aerial/aeriallaw22.DrrPlays", spec := "drrPlays", unfollowed := true, recurses := true, apart := false, narrowed := true }
def DrrPlaysUptoSaid : Prop := drrPlaysUptoRow.holds Try.pinned (OpenSpec.upto drrPlaysSpec)

/-- 'aeriallaw22.DrrBounds', WHERE WHAT IT READS IS OF BULK AT MOST 1048576: true; the input reads as it did. -/
def drrBoundsUptoRow : OpenClaim := { program := "ytfbfjlogcphlfaa", sum := "eaaa7bd569da6a6c2d1fb1206d49d5080d12fa4c121cded68f2b5594fe522957", func := "aerial/aeriallaw22.DrrBounds", spec := "drrBounds", unfollowed := true, recurses := true, apart := false, narrowed := true }
def DrrBoundsUptoSaid : Prop := drrBoundsUptoRow.holds Try.pinned (OpenSpec.upto drrBoundsSpec)

/-- 'aeriallaw22.DrrFair', WHERE WHAT IT READS IS OF BULK AT MOST 1048576: true; the input reads as it did. -/
def drrFairUptoRow : OpenClaim := { program := "ytfbfjlogcphlfaa", sum := "eaaa7bd569da6a6c2d1fb1206d49d5080d12fa4c121cded68f2b5594fe522957", func := "aerial/aeriallaw22.DrrFair", spec := "drrFair", unfollowed := true, recurses := true, apart := false, narrowed := true }
def DrrFairUptoSaid : Prop := drrFairUptoRow.holds Try.pinned (OpenSpec.upto drrFairSpec)

/-- 'aeriallaw22.DrrAlone', WHERE WHAT IT READS IS OF BULK AT MOST 1048576: true; the input reads as it did. -/
def drrAloneUptoRow : OpenClaim := { program := "ytfbfjlogcphlfaa", sum := "eaaa7bd569da6a6c2d1fb1206d49d5080d12fa4c121cded68f2b5594fe522957", func := "aerial/aeriallaw22.DrrAlone", spec := "drrAlone", unfollowed := true, recurses := true, apart := false, narrowed := true }
def DrrAloneUptoSaid : Prop := drrAloneUptoRow.holds Try.pinned (OpenSpec.upto drrAloneSpec)

/-- 'aeriallaw22.DrrKnown', WHERE WHAT IT READS IS OF BULK AT MOST 1048576: true; the input reads as it did. -/
def drrKnownUptoRow : OpenClaim := { program := "ytfbfjlogcphlfaa", sum := "eaaa7bd569da6a6c2d1fb1206d49d5080d12fa4c121cded68f2b5594fe522957", func := "aerial/aeriallaw22.DrrKnown", spec := "drrKnown", unfollowed := true, recurses := true, apart := false, narrowed := true }
def DrrKnownUptoSaid : Prop := drrKnownUptoRow.holds Try.pinned (OpenSpec.upto drrKnownSpec)

end Rows
end Go.Proofs.Ytfbfjlogcphlfaa
