/-
  No cell of these rows narrows 'for every input' (looked for: loops, veiled, ifaces, maps, wideKeys, modest, calm, conditions, laid).
  DERIVED. THE GIVEN ROWS OF THIS SEAT. 4 by the template 'for every input the law returns true; each argument reads behind the call as it read before'; 0 by the template 'total and deterministic' (their statements: YtoldegajbonliaaTotals.lean).
  GIVEN WITH THE SEED: the statements are not yours to turn. If you find one false, say at which input.
  Laid BY PROGRAM, IN A SANDBOX (cutbox-rows.mjs): the forced cells as the released guide's own fill.sh prints them over the translation d3b293ab80342d68… (all of the seat's roots in one cut). By AI agents, Wed Nov 11 2026. No macro, syntax, notation, axiom, sorry.
-/
import Derived.Test.YtoldegajbonliaaChecked
import GoSem.Claim
import GoSem.ClaimJoined
import GoSem.ClaimMapViews
import Derived.JoinedTies
import Derived.KernelRfl
namespace Go.Proofs.Ytoldegajbonliaa
/- THE CELL 'sum', in the pinned program and in every row, IS THE sha256 OF THE DUMP (.gsa) THAT YtoldegajbonliaaProg.lean LOADS. Nothing in Lean hashes anything: it is a label: what it is worth is what the hold of that sum in a sandbox is worth. -/
noncomputable def Try.pinned : Pinned := { name := "ytoldegajbonliaa", sum := "d3b293ab80342d68b15700ba22f1d46c9244b21ae68bc04f50b43fb833894bec", checked := Try.checked }
namespace Rows
def none {H : Type} : Left H := { results := [], args := [] }

/-- 'bobbinlaw16.FlowPairs': WHATEVER THE INPUT: true; the input reads as it did. -/
def flowPairsSpec : ChangeSpec := { name := "flowPairs", fn := fun _ => fun
  | [d] => { results := [.lit (.bool true)], args := [d] }
  | _ => none }
def flowPairsRow : OpenClaim := { program := "ytoldegajbonliaa", sum := "d3b293ab80342d68b15700ba22f1d46c9244b21ae68bc04f50b43fb833894bec", func := "bobbin/bobbinlaw16.FlowPairs", spec := "flowPairs", unfollowed := true, recurses := true, apart := false }
def FlowPairsSaid : Prop := flowPairsRow.holds Try.pinned (OpenSpec.ofChange flowPairsSpec)

/-- ITS FALSE NEIGHBOUR: 'it returns false'. Refute it at one input. -/
def flowPairsWrong : ChangeSpec := { name := "flowPairs", fn := fun _ => fun
  | [d] => { results := [.lit (.bool false)], args := [d] }
  | _ => none }
def FlowPairsWrongFalsely : Prop := flowPairsRow.holds Try.pinned (OpenSpec.ofChange flowPairsWrong)

/-- 'bobbinlaw16.FlowDeep': WHATEVER THE INPUT: true; the input reads as it did. -/
def flowDeepSpec : ChangeSpec := { name := "flowDeep", fn := fun _ => fun
  | [d1, d2] => { results := [.lit (.bool true)], args := [d1, d2] }
  | _ => none }
def flowDeepRow : OpenClaim := { program := "ytoldegajbonliaa", sum := "d3b293ab80342d68b15700ba22f1d46c9244b21ae68bc04f50b43fb833894bec", func := "bobbin/bobbinlaw16.FlowDeep", spec := "flowDeep", unfollowed := true, recurses := true, apart := false }
def FlowDeepSaid : Prop := flowDeepRow.holds Try.pinned (OpenSpec.ofChange flowDeepSpec)

/-- ITS FALSE NEIGHBOUR: 'it returns false'. Refute it at one input. -/
def flowDeepWrong : ChangeSpec := { name := "flowDeep", fn := fun _ => fun
  | [d1, d2] => { results := [.lit (.bool false)], args := [d1, d2] }
  | _ => none }
def FlowDeepWrongFalsely : Prop := flowDeepRow.holds Try.pinned (OpenSpec.ofChange flowDeepWrong)

/-- 'bobbinlaw16.FlowNothing': WHATEVER THE INPUT: true; the input reads as it did. -/
def flowNothingSpec : ChangeSpec := { name := "flowNothing", fn := fun _ => fun
  | [d1, d2] => { results := [.lit (.bool true)], args := [d1, d2] }
  | _ => none }
def flowNothingRow : OpenClaim := { program := "ytoldegajbonliaa", sum := "d3b293ab80342d68b15700ba22f1d46c9244b21ae68bc04f50b43fb833894bec", func := "bobbin/bobbinlaw16.FlowNothing", spec := "flowNothing", unfollowed := true, recurses := true, apart := false }
def FlowNothingSaid : Prop := flowNothingRow.holds Try.pinned (OpenSpec.ofChange flowNothingSpec)

/-- ITS FALSE NEIGHBOUR: 'it returns false'. Refute it at one input. -/
def flowNothingWrong : ChangeSpec := { name := "flowNothing", fn := fun _ => fun
  | [d1, d2] => { results := [.lit (.bool false)], args := [d1, d2] }
  | _ => none }
def FlowNothingWrongFalsely : Prop := flowNothingRow.holds Try.pinned (OpenSpec.ofChange flowNothingWrong)

/-- 'bobbinlaw16.FlowCross': WHATEVER THE INPUT: true; the input reads as it did. -/
def flowCrossSpec : ChangeSpec := { name := "flowCross", fn := fun _ => fun
  | [d1, d2] => { results := [.lit (.bool true)], args := [d1, d2] }
  | _ => none }
def flowCrossRow : OpenClaim := { program := "ytoldegajbonliaa", sum := "d3b293ab80342d68b15700ba22f1d46c9244b21ae68bc04f50b43fb833894bec", func := "bobbin/bobbinlaw16.FlowCross", spec := "flowCross", unfollowed := true, recurses := true, apart := false }
def FlowCrossSaid : Prop := flowCrossRow.holds Try.pinned (OpenSpec.ofChange flowCrossSpec)

/-- ITS FALSE NEIGHBOUR: 'it returns false'. Refute it at one input. -/
def flowCrossWrong : ChangeSpec := { name := "flowCross", fn := fun _ => fun
  | [d1, d2] => { results := [.lit (.bool false)], args := [d1, d2] }
  | _ => none }
def FlowCrossWrongFalsely : Prop := flowCrossRow.holds Try.pinned (OpenSpec.ofChange flowCrossWrong)

/- THE SECOND FORM. 'bulk': how many values and letters a reading holds, each counted each time it is reached (what is shared counts as often as it is met; a slice's spare places count too). A statement '..UptoSaid' is the law's where the arguments, and the package variables that the reading takes, are together of bulk at most 1048576: NARROWER than '..Said'. Prove '..Said' where nothing that the law and all that it calls make is longer than what came in: it says more and counts as full. Else prove '..UptoSaid'. A law counts once. -/
mutual
def uptoBulk {H : Type} : DataW H → Nat
  | .lit (.string bytes) => bytes.length + 1
  | .lit _ => 1
  | .nil => 1
  | .ptr d => uptoBulk d + 1
  | .slice elems spare => uptoBulkAll elems + uptoBulkAll spare + 1
  | .agg parts => uptoBulkAll parts + 1
  | .iface _ d => uptoBulk d + 1
  | .map entries => uptoBulkEntries entries + 1
  | .held _ => 1
def uptoBulkAll {H : Type} : List (DataW H) → Nat
  | [] => 0
  | d :: r => uptoBulk d + uptoBulkAll r
def uptoBulkEntries {H : Type} : List (Lit × DataW H) → Nat
  | [] => 0
  | x :: r => uptoBulkEntry x + uptoBulkEntries r
def uptoBulkEntry {H : Type} : Lit × DataW H → Nat
  | (.string bytes, d) => bytes.length + uptoBulk d + 1
  | (_, d) => uptoBulk d + 1
 end
def uptoSmall : (H : Type) → List (DataW H) → Bool := fun _ ds => decide (uptoBulkAll ds ≤ 1048576)
def OpenSpec.upto (s : _root_.Go.ChangeSpec) : _root_.Go.OpenSpec := { _root_.Go.OpenSpec.ofChange s with cond := some uptoSmall }

/-- 'bobbinlaw16.FlowPairs', WHERE WHAT IT READS IS OF BULK AT MOST 1048576: true; the input reads as it did. -/
def flowPairsUptoRow : OpenClaim := { program := "ytoldegajbonliaa", sum := "d3b293ab80342d68b15700ba22f1d46c9244b21ae68bc04f50b43fb833894bec", func := "bobbin/bobbinlaw16.FlowPairs", spec := "flowPairs", unfollowed := true, recurses := true, apart := false, narrowed := true }
def FlowPairsUptoSaid : Prop := flowPairsUptoRow.holds Try.pinned (OpenSpec.upto flowPairsSpec)

/-- 'bobbinlaw16.FlowDeep', WHERE WHAT IT READS IS OF BULK AT MOST 1048576: true; the input reads as it did. -/
def flowDeepUptoRow : OpenClaim := { program := "ytoldegajbonliaa", sum := "d3b293ab80342d68b15700ba22f1d46c9244b21ae68bc04f50b43fb833894bec", func := "bobbin/bobbinlaw16.FlowDeep", spec := "flowDeep", unfollowed := true, recurses := true, apart := false, narrowed := true }
def FlowDeepUptoSaid : Prop := flowDeepUptoRow.holds Try.pinned (OpenSpec.upto flowDeepSpec)

/-- 'bobbinlaw16.FlowNothing', WHERE WHAT IT READS IS OF BULK AT MOST 1048576: true; the input reads as it did. -/
def flowNothingUptoRow : OpenClaim := { program := "ytoldegajbonliaa", sum := "d3b293ab80342d68b15700ba22f1d46c9244b21ae68bc04f50b43fb833894bec", func := "bobbin/bobbinlaw16.FlowNothing", spec := "flowNothing", unfollowed := true, recurses := true, apart := false, narrowed := true }
def FlowNothingUptoSaid : Prop := flowNothingUptoRow.holds Try.pinned (OpenSpec.upto flowNothingSpec)

/-- 'bobbinlaw16.FlowCross', WHERE WHAT IT READS IS OF BULK AT MOST 1048576: true; the input reads as it did. -/
def flowCrossUptoRow : OpenClaim := { program := "ytoldegajbonliaa", sum := "d3b293ab80342d68b15700ba22f1d46c9244b21ae68bc04f50b43fb833894bec", func := "bobbin/bobbinlaw16.FlowCross", spec := "flowCross", unfollowed := true, recurses := true, apart := false, narrowed := true }
def FlowCrossUptoSaid : Prop := flowCrossUptoRow.holds Try.pinned (OpenSpec.upto flowCrossSpec)

end Rows
end Go.Proofs.Ytoldegajbonliaa
