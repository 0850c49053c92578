/-
  No cell of these rows narrows 'for every input' (looked for: loops, veiled, ifaces, maps, wideKeys, modest, calm, conditions, laid).
  DERIVED. THE GIVEN ROWS OF THIS SEAT. 7 by the template 'for every input the law returns true; each argument reads behind the call as it read before'; 0 by the template 'total and deterministic' (their statements: YtkgihajpobajaaaTotals.lean).
  GIVEN WITH THE SEED: the statements are not yours to turn. If you find one false, say at which input.
  Laid BY PROGRAM, IN A SANDBOX (cutbox-rows.mjs): the forced cells as the released guide's own fill.sh prints them over the translation de80795a29fc568c… (all of the seat's roots in one cut). By AI agents, Wed Nov 11 2026. No macro, syntax, notation, axiom, sorry.
-/
import Derived.Test.YtkgihajpobajaaaChecked
import GoSem.Claim
import GoSem.ClaimJoined
import GoSem.ClaimMapViews
import Derived.JoinedTies
import Derived.KernelRfl
namespace Go.Proofs.Ytkgihajpobajaaa
/- THE CELL 'sum', in the pinned program and in every row, IS THE sha256 OF THE DUMP (.gsa) THAT YtkgihajpobajaaaProg.lean LOADS. Nothing in Lean hashes anything: it is a label: what it is worth is what the hold of that sum in a sandbox is worth. -/
noncomputable def Try.pinned : Pinned := { name := "ytkgihajpobajaaa", sum := "de80795a29fc568ccbe1c0feb8b3143548c62fbe29fd0eebae7fa5294ee15e67", checked := Try.checked }
namespace Rows
def none {H : Type} : Left H := { results := [], args := [] }

/-- 'bobbinlaw9.SpaceKeeps': WHATEVER THE INPUT: true; the input reads as it did. -/
def spaceKeepsSpec : ChangeSpec := { name := "spaceKeeps", fn := fun _ => fun
  | [d1, d2, d3] => { results := [.lit (.bool true)], args := [d1, d2, d3] }
  | _ => none }
def spaceKeepsRow : OpenClaim := { program := "ytkgihajpobajaaa", sum := "de80795a29fc568ccbe1c0feb8b3143548c62fbe29fd0eebae7fa5294ee15e67", func := "bobbin/bobbinlaw9.SpaceKeeps", spec := "spaceKeeps", unfollowed := true, recurses := true, apart := false }
def SpaceKeepsSaid : Prop := spaceKeepsRow.holds Try.pinned (OpenSpec.ofChange spaceKeepsSpec)

/-- ITS FALSE NEIGHBOUR: 'it returns false'. Refute it at one input. -/
def spaceKeepsWrong : ChangeSpec := { name := "spaceKeeps", fn := fun _ => fun
  | [d1, d2, d3] => { results := [.lit (.bool false)], args := [d1, d2, d3] }
  | _ => none }
def SpaceKeepsWrongFalsely : Prop := spaceKeepsRow.holds Try.pinned (OpenSpec.ofChange spaceKeepsWrong)

/-- 'bobbinlaw9.SpaceOwn': WHATEVER THE INPUT: true; the input reads as it did. -/
def spaceOwnSpec : ChangeSpec := { name := "spaceOwn", fn := fun _ => fun
  | [d1, d2] => { results := [.lit (.bool true)], args := [d1, d2] }
  | _ => none }
def spaceOwnRow : OpenClaim := { program := "ytkgihajpobajaaa", sum := "de80795a29fc568ccbe1c0feb8b3143548c62fbe29fd0eebae7fa5294ee15e67", func := "bobbin/bobbinlaw9.SpaceOwn", spec := "spaceOwn", unfollowed := true, recurses := true, apart := false }
def SpaceOwnSaid : Prop := spaceOwnRow.holds Try.pinned (OpenSpec.ofChange spaceOwnSpec)

/-- ITS FALSE NEIGHBOUR: 'it returns false'. Refute it at one input. -/
def spaceOwnWrong : ChangeSpec := { name := "spaceOwn", fn := fun _ => fun
  | [d1, d2] => { results := [.lit (.bool false)], args := [d1, d2] }
  | _ => none }
def SpaceOwnWrongFalsely : Prop := spaceOwnRow.holds Try.pinned (OpenSpec.ofChange spaceOwnWrong)

/-- 'bobbinlaw9.SpaceAllots': WHATEVER THE INPUT: true; the input reads as it did. -/
def spaceAllotsSpec : ChangeSpec := { name := "spaceAllots", fn := fun _ => fun
  | [d1, d2] => { results := [.lit (.bool true)], args := [d1, d2] }
  | _ => none }
def spaceAllotsRow : OpenClaim := { program := "ytkgihajpobajaaa", sum := "de80795a29fc568ccbe1c0feb8b3143548c62fbe29fd0eebae7fa5294ee15e67", func := "bobbin/bobbinlaw9.SpaceAllots", spec := "spaceAllots", unfollowed := true, recurses := true, apart := false }
def SpaceAllotsSaid : Prop := spaceAllotsRow.holds Try.pinned (OpenSpec.ofChange spaceAllotsSpec)

/-- ITS FALSE NEIGHBOUR: 'it returns false'. Refute it at one input. -/
def spaceAllotsWrong : ChangeSpec := { name := "spaceAllots", fn := fun _ => fun
  | [d1, d2] => { results := [.lit (.bool false)], args := [d1, d2] }
  | _ => none }
def SpaceAllotsWrongFalsely : Prop := spaceAllotsRow.holds Try.pinned (OpenSpec.ofChange spaceAllotsWrong)

/-- 'bobbinlaw9.SpaceMoves': WHATEVER THE INPUT: true; the input reads as it did. -/
def spaceMovesSpec : ChangeSpec := { name := "spaceMoves", fn := fun _ => fun
  | [d1, d2, d3, d4] => { results := [.lit (.bool true)], args := [d1, d2, d3, d4] }
  | _ => none }
def spaceMovesRow : OpenClaim := { program := "ytkgihajpobajaaa", sum := "de80795a29fc568ccbe1c0feb8b3143548c62fbe29fd0eebae7fa5294ee15e67", func := "bobbin/bobbinlaw9.SpaceMoves", spec := "spaceMoves", unfollowed := true, recurses := true, apart := false }
def SpaceMovesSaid : Prop := spaceMovesRow.holds Try.pinned (OpenSpec.ofChange spaceMovesSpec)

/-- ITS FALSE NEIGHBOUR: 'it returns false'. Refute it at one input. -/
def spaceMovesWrong : ChangeSpec := { name := "spaceMoves", fn := fun _ => fun
  | [d1, d2, d3, d4] => { results := [.lit (.bool false)], args := [d1, d2, d3, d4] }
  | _ => none }
def SpaceMovesWrongFalsely : Prop := spaceMovesRow.holds Try.pinned (OpenSpec.ofChange spaceMovesWrong)

/-- 'bobbinlaw9.SpaceRuns': WHATEVER THE INPUT: true; the input reads as it did. -/
def spaceRunsSpec : ChangeSpec := { name := "spaceRuns", fn := fun _ => fun
  | [d1, d2] => { results := [.lit (.bool true)], args := [d1, d2] }
  | _ => none }
def spaceRunsRow : OpenClaim := { program := "ytkgihajpobajaaa", sum := "de80795a29fc568ccbe1c0feb8b3143548c62fbe29fd0eebae7fa5294ee15e67", func := "bobbin/bobbinlaw9.SpaceRuns", spec := "spaceRuns", unfollowed := true, recurses := true, apart := false }
def SpaceRunsSaid : Prop := spaceRunsRow.holds Try.pinned (OpenSpec.ofChange spaceRunsSpec)

/-- ITS FALSE NEIGHBOUR: 'it returns false'. Refute it at one input. -/
def spaceRunsWrong : ChangeSpec := { name := "spaceRuns", fn := fun _ => fun
  | [d1, d2] => { results := [.lit (.bool false)], args := [d1, d2] }
  | _ => none }
def SpaceRunsWrongFalsely : Prop := spaceRunsRow.holds Try.pinned (OpenSpec.ofChange spaceRunsWrong)

/-- 'bobbinlaw9.SpaceNothing': WHATEVER THE INPUT: true; the input reads as it did. -/
def spaceNothingSpec : ChangeSpec := { name := "spaceNothing", fn := fun _ => fun
  | [d] => { results := [.lit (.bool true)], args := [d] }
  | _ => none }
def spaceNothingRow : OpenClaim := { program := "ytkgihajpobajaaa", sum := "de80795a29fc568ccbe1c0feb8b3143548c62fbe29fd0eebae7fa5294ee15e67", func := "bobbin/bobbinlaw9.SpaceNothing", spec := "spaceNothing", unfollowed := true, recurses := true, apart := false }
def SpaceNothingSaid : Prop := spaceNothingRow.holds Try.pinned (OpenSpec.ofChange spaceNothingSpec)

/-- ITS FALSE NEIGHBOUR: 'it returns false'. Refute it at one input. -/
def spaceNothingWrong : ChangeSpec := { name := "spaceNothing", fn := fun _ => fun
  | [d] => { results := [.lit (.bool false)], args := [d] }
  | _ => none }
def SpaceNothingWrongFalsely : Prop := spaceNothingRow.holds Try.pinned (OpenSpec.ofChange spaceNothingWrong)

/-- 'bobbinlaw9.SpacePlays': WHATEVER THE INPUT: true; the input reads as it did. -/
def spacePlaysSpec : ChangeSpec := { name := "spacePlays", fn := fun _ => fun
  | [d1, d2, d3] => { results := [.lit (.bool true)], args := [d1, d2, d3] }
  | _ => none }
def spacePlaysRow : OpenClaim := { program := "ytkgihajpobajaaa", sum := "de80795a29fc568ccbe1c0feb8b3143548c62fbe29fd0eebae7fa5294ee15e67", func := "bobbin/bobbinlaw9.SpacePlays", spec := "spacePlays", unfollowed := true, recurses := true, apart := false }
def SpacePlaysSaid : Prop := spacePlaysRow.holds Try.pinned (OpenSpec.ofChange spacePlaysSpec)

/-- ITS FALSE NEIGHBOUR: 'it returns false'. Refute it at one input. -/
def spacePlaysWrong : ChangeSpec := { name := "spacePlays", fn := fun _ => fun
  | [d1, d2, d3] => { results := [.lit (.bool false)], args := [d1, d2, d3] }
  | _ => none }
def SpacePlaysWrongFalsely : Prop := spacePlaysRow.holds Try.pinned (OpenSpec.ofChange spacePlaysWrong)

/- THE SECOND FORM. 'bulk': how many values and letters a reading holds, each counted each time it is reached (what is shared counts as often as it is met; a slice's spare places count too). A statement '..UptoSaid' is the law's where the arguments, and the package variables that the reading takes, are together of bulk at most 1048576: NARROWER than '..Said'. Prove '..Said' where nothing that the law and all that it calls make is longer than what came in: it says more and counts as full. Else prove '..UptoSaid'. A law counts once. -/
mutual
def uptoBulk {H : Type} : DataW H → Nat
  | .lit (.string bytes) => bytes.length + 1
  | .lit _ => 1
  | .nil => 1
  | .ptr d => uptoBulk d + 1
  | .slice elems spare => uptoBulkAll elems + uptoBulkAll spare + 1
  | .agg parts => uptoBulkAll parts + 1
  | .iface _ d => uptoBulk d + 1
  | .map entries => uptoBulkEntries entries + 1
  | .held _ => 1
def uptoBulkAll {H : Type} : List (DataW H) → Nat
  | [] => 0
  | d :: r => uptoBulk d + uptoBulkAll r
def uptoBulkEntries {H : Type} : List (Lit × DataW H) → Nat
  | [] => 0
  | x :: r => uptoBulkEntry x + uptoBulkEntries r
def uptoBulkEntry {H : Type} : Lit × DataW H → Nat
  | (.string bytes, d) => bytes.length + uptoBulk d + 1
  | (_, d) => uptoBulk d + 1
 end
def uptoSmall : (H : Type) → List (DataW H) → Bool := fun _ ds => decide (uptoBulkAll ds ≤ 1048576)
def OpenSpec.upto (s : _root_.Go.ChangeSpec) : _root_.Go.OpenSpec := { _root_.Go.OpenSpec.ofChange s with cond := some uptoSmall }

/-- 'bobbinlaw9.SpaceKeeps', WHERE WHAT IT READS IS OF BULK AT MOST 1048576: true; the input reads as it did. -/
def spaceKeepsUptoRow : OpenClaim := { program := "ytkgihajpobajaaa", sum := "de80795a29fc568ccbe1c0feb8b3143548c62fbe29fd0eebae7fa5294ee15e67", func := "bobbin/bobbinlaw9.SpaceKeeps", spec := "spaceKeeps", unfollowed := true, recurses := true, apart := false, narrowed := true }
def SpaceKeepsUptoSaid : Prop := spaceKeepsUptoRow.holds Try.pinned (OpenSpec.upto spaceKeepsSpec)

/-- 'bobbinlaw9.SpaceOwn', WHERE WHAT IT READS IS OF BULK AT MOST 1048576: true; the input reads as it did. -/
def spaceOwnUptoRow : OpenClaim := { program := "ytkgihajpobajaaa", sum := "de80795a29fc568ccbe1c0feb8b3143548c62fbe29fd0eebae7fa5294ee15e67", func := "bobbin/bobbinlaw9.SpaceOwn", spec := "spaceOwn", unfollowed := true, recurses := true, apart := false, narrowed := true }
def SpaceOwnUptoSaid : Prop := spaceOwnUptoRow.holds Try.pinned (OpenSpec.upto spaceOwnSpec)

/-- 'bobbinlaw9.SpaceAllots', WHERE WHAT IT READS IS OF BULK AT MOST 1048576: true; the input reads as it did. -/
def spaceAllotsUptoRow : OpenClaim := { program := "ytkgihajpobajaaa", sum := "de80795a29fc568ccbe1c0feb8b3143548c62fbe29fd0eebae7fa5294ee15e67", func := "bobbin/bobbinlaw9.SpaceAllots", spec := "spaceAllots", unfollowed := true, recurses := true, apart := false, narrowed := true }
def SpaceAllotsUptoSaid : Prop := spaceAllotsUptoRow.holds Try.pinned (OpenSpec.upto spaceAllotsSpec)

/-- 'bobbinlaw9.SpaceMoves', WHERE WHAT IT READS IS OF BULK AT MOST 1048576: true; the input reads as it did. -/
def spaceMovesUptoRow : OpenClaim := { program := "ytkgihajpobajaaa", sum := "de80795a29fc568ccbe1c0feb8b3143548c62fbe29fd0eebae7fa5294ee15e67", func := "bobbin/bobbinlaw9.SpaceMoves", spec := "spaceMoves", unfollowed := true, recurses := true, apart := false, narrowed := true }
def SpaceMovesUptoSaid : Prop := spaceMovesUptoRow.holds Try.pinned (OpenSpec.upto spaceMovesSpec)

/-- 'bobbinlaw9.SpaceRuns', WHERE WHAT IT READS IS OF BULK AT MOST 1048576: true; the input reads as it did. -/
def spaceRunsUptoRow : OpenClaim := { program := "ytkgihajpobajaaa", sum := "de80795a29fc568ccbe1c0feb8b3143548c62fbe29fd0eebae7fa5294ee15e67", func := "bobbin/bobbinlaw9.SpaceRuns", spec := "spaceRuns", unfollowed := true, recurses := true, apart := false, narrowed := true }
def SpaceRunsUptoSaid : Prop := spaceRunsUptoRow.holds Try.pinned (OpenSpec.upto spaceRunsSpec)

/-- 'bobbinlaw9.SpaceNothing', WHERE WHAT IT READS IS OF BULK AT MOST 1048576: true; the input reads as it did. -/
def spaceNothingUptoRow : OpenClaim := { program := "ytkgihajpobajaaa", sum := "de80795a29fc568ccbe1c0feb8b3143548c62fbe29fd0eebae7fa5294ee15e67", func := "bobbin/bobbinlaw9.SpaceNothing", spec := "spaceNothing", unfollowed := true, recurses := true, apart := false, narrowed := true }
def SpaceNothingUptoSaid : Prop := spaceNothingUptoRow.holds Try.pinned (OpenSpec.upto spaceNothingSpec)

/-- 'bobbinlaw9.SpacePlays', WHERE WHAT IT READS IS OF BULK AT MOST 1048576: true; the input reads as it did. -/
def spacePlaysUptoRow : OpenClaim := { program := "ytkgihajpobajaaa", sum := "de80795a29fc568ccbe1c0feb8b3143548c62fbe29fd0eebae7fa5294ee15e67", func := "bobbin/bobbinlaw9.SpacePlays", spec := "spacePlays", unfollowed := true, recurses := true, apart := false, narrowed := true }
def SpacePlaysUptoSaid : Prop := spacePlaysUptoRow.holds Try.pinned (OpenSpec.upto spacePlaysSpec)

end Rows
end Go.Proofs.Ytkgihajpobajaaa
