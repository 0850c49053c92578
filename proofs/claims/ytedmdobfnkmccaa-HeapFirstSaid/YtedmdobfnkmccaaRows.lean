/-
  No cell of these rows narrows 'for every input' (looked for: loops, veiled, ifaces, maps, wideKeys, modest, calm, conditions, laid).
  DERIVED. THE GIVEN ROWS OF THIS SEAT. 5 by the template 'for every input the law returns true; each argument reads behind the call as it read before'; 0 by the template 'total and deterministic' (their statements: YtedmdobfnkmccaaTotals.lean).
  GIVEN WITH THE SEED: the statements are not yours to turn. If you find one false, say at which input.
  Laid BY PROGRAM, IN A SANDBOX (cutbox-rows.mjs): the forced cells as the released guide's own fill.sh prints them over the translation 68b9b3a24fc12554… (all of the seat's roots in one cut). By AI agents, Wed Nov 11 2026. No macro, syntax, notation, axiom, sorry.
-/
import Derived.Test.YtedmdobfnkmccaaChecked
import GoSem.Claim
import GoSem.ClaimJoined
import GoSem.ClaimMapViews
import Derived.JoinedTies
import Derived.KernelRfl
namespace Go.Proofs.Ytedmdobfnkmccaa
/- THE CELL 'sum', in the pinned program and in every row, IS THE sha256 OF THE DUMP (.gsa) THAT YtedmdobfnkmccaaProg.lean LOADS. Nothing in Lean hashes anything: it is a label: what it is worth is what the hold of that sum in a sandbox is worth. -/
noncomputable def Try.pinned : Pinned := { name := "ytedmdobfnkmccaa", sum := "68b9b3a24fc12554a017b60adb8580d0dcc707ae7b1898f429b8985cc4f46070", checked := Try.checked }
namespace Rows
def none {H : Type} : Left H := { results := [], args := [] }

/-- 'bobbinlaw11.HeapPlays': WHATEVER THE INPUT: true; the input reads as it did. -/
def heapPlaysSpec : ChangeSpec := { name := "heapPlays", fn := fun _ => fun
  | [d1, d2, d3] => { results := [.lit (.bool true)], args := [d1, d2, d3] }
  | _ => none }
def heapPlaysRow : OpenClaim := { program := "ytedmdobfnkmccaa", sum := "68b9b3a24fc12554a017b60adb8580d0dcc707ae7b1898f429b8985cc4f46070", func := "bobbin/bobbinlaw11.HeapPlays", spec := "heapPlays", apart := false }
def HeapPlaysSaid : Prop := heapPlaysRow.holds Try.pinned (OpenSpec.ofChange heapPlaysSpec)

/-- ITS FALSE NEIGHBOUR: 'it returns false'. Refute it at one input. -/
def heapPlaysWrong : ChangeSpec := { name := "heapPlays", fn := fun _ => fun
  | [d1, d2, d3] => { results := [.lit (.bool false)], args := [d1, d2, d3] }
  | _ => none }
def HeapPlaysWrongFalsely : Prop := heapPlaysRow.holds Try.pinned (OpenSpec.ofChange heapPlaysWrong)

/-- 'bobbinlaw11.HeapNothing': WHATEVER THE INPUT: true; the input reads as it did. -/
def heapNothingSpec : ChangeSpec := { name := "heapNothing", fn := fun _ => fun
  | [d1, d2] => { results := [.lit (.bool true)], args := [d1, d2] }
  | _ => none }
def heapNothingRow : OpenClaim := { program := "ytedmdobfnkmccaa", sum := "68b9b3a24fc12554a017b60adb8580d0dcc707ae7b1898f429b8985cc4f46070", func := "bobbin/bobbinlaw11.HeapNothing", spec := "heapNothing", apart := false }
def HeapNothingSaid : Prop := heapNothingRow.holds Try.pinned (OpenSpec.ofChange heapNothingSpec)

/-- ITS FALSE NEIGHBOUR: 'it returns false'. Refute it at one input. -/
def heapNothingWrong : ChangeSpec := { name := "heapNothing", fn := fun _ => fun
  | [d1, d2] => { results := [.lit (.bool false)], args := [d1, d2] }
  | _ => none }
def HeapNothingWrongFalsely : Prop := heapNothingRow.holds Try.pinned (OpenSpec.ofChange heapNothingWrong)

/-- 'bobbinlaw11.HeapCovers': WHATEVER THE INPUT: true; the input reads as it did. -/
def heapCoversSpec : ChangeSpec := { name := "heapCovers", fn := fun _ => fun
  | [d1, d2] => { results := [.lit (.bool true)], args := [d1, d2] }
  | _ => none }
def heapCoversRow : OpenClaim := { program := "ytedmdobfnkmccaa", sum := "68b9b3a24fc12554a017b60adb8580d0dcc707ae7b1898f429b8985cc4f46070", func := "bobbin/bobbinlaw11.HeapCovers", spec := "heapCovers", apart := false }
def HeapCoversSaid : Prop := heapCoversRow.holds Try.pinned (OpenSpec.ofChange heapCoversSpec)

/-- ITS FALSE NEIGHBOUR: 'it returns false'. Refute it at one input. -/
def heapCoversWrong : ChangeSpec := { name := "heapCovers", fn := fun _ => fun
  | [d1, d2] => { results := [.lit (.bool false)], args := [d1, d2] }
  | _ => none }
def HeapCoversWrongFalsely : Prop := heapCoversRow.holds Try.pinned (OpenSpec.ofChange heapCoversWrong)

/-- 'bobbinlaw11.HeapWhole': WHATEVER THE INPUT: true; the input reads as it did. -/
def heapWholeSpec : ChangeSpec := { name := "heapWhole", fn := fun _ => fun
  | [d1, d2] => { results := [.lit (.bool true)], args := [d1, d2] }
  | _ => none }
def heapWholeRow : OpenClaim := { program := "ytedmdobfnkmccaa", sum := "68b9b3a24fc12554a017b60adb8580d0dcc707ae7b1898f429b8985cc4f46070", func := "bobbin/bobbinlaw11.HeapWhole", spec := "heapWhole", apart := false }
def HeapWholeSaid : Prop := heapWholeRow.holds Try.pinned (OpenSpec.ofChange heapWholeSpec)

/-- ITS FALSE NEIGHBOUR: 'it returns false'. Refute it at one input. -/
def heapWholeWrong : ChangeSpec := { name := "heapWhole", fn := fun _ => fun
  | [d1, d2] => { results := [.lit (.bool false)], args := [d1, d2] }
  | _ => none }
def HeapWholeWrongFalsely : Prop := heapWholeRow.holds Try.pinned (OpenSpec.ofChange heapWholeWrong)

/-- 'bobbinlaw11.HeapFirst': WHATEVER THE INPUT: true; the input reads as it did. -/
def heapFirstSpec : ChangeSpec := { name := "heapFirst", fn := fun _ => fun
  | [d1, d2, d3] => { results := [.lit (.bool true)], args := [d1, d2, d3] }
  | _ => none }
def heapFirstRow : OpenClaim := { program := "ytedmdobfnkmccaa", sum := "68b9b3a24fc12554a017b60adb8580d0dcc707ae7b1898f429b8985cc4f46070", func := "bobbin/bobbinlaw11.HeapFirst", spec := "heapFirst", apart := false }
def HeapFirstSaid : Prop := heapFirstRow.holds Try.pinned (OpenSpec.ofChange heapFirstSpec)

/-- ITS FALSE NEIGHBOUR: 'it returns false'. Refute it at one input. -/
def heapFirstWrong : ChangeSpec := { name := "heapFirst", fn := fun _ => fun
  | [d1, d2, d3] => { results := [.lit (.bool false)], args := [d1, d2, d3] }
  | _ => none }
def HeapFirstWrongFalsely : Prop := heapFirstRow.holds Try.pinned (OpenSpec.ofChange heapFirstWrong)

/- THE SECOND FORM. 'bulk': how many values and letters a reading holds, each counted each time it is reached (what is shared counts as often as it is met; a slice's spare places count too). A statement '..UptoSaid' is the law's where the arguments, and the package variables that the reading takes, are together of bulk at most 1048576: NARROWER than '..Said'. Prove '..Said' where nothing that the law and all that it calls make is longer than what came in: it says more and counts as full. Else prove '..UptoSaid'. A law counts once. -/
mutual
def uptoBulk {H : Type} : DataW H → Nat
  | .lit (.string bytes) => bytes.length + 1
  | .lit _ => 1
  | .nil => 1
  | .ptr d => uptoBulk d + 1
  | .slice elems spare => uptoBulkAll elems + uptoBulkAll spare + 1
  | .agg parts => uptoBulkAll parts + 1
  | .iface _ d => uptoBulk d + 1
  | .map entries => uptoBulkEntries entries + 1
  | .held _ => 1
def uptoBulkAll {H : Type} : List (DataW H) → Nat
  | [] => 0
  | d :: r => uptoBulk d + uptoBulkAll r
def uptoBulkEntries {H : Type} : List (Lit × DataW H) → Nat
  | [] => 0
  | x :: r => uptoBulkEntry x + uptoBulkEntries r
def uptoBulkEntry {H : Type} : Lit × DataW H → Nat
  | (.string bytes, d) => bytes.length + uptoBulk d + 1
  | (_, d) => uptoBulk d + 1
 end
def uptoSmall : (H : Type) → List (DataW H) → Bool := fun _ ds => decide (uptoBulkAll ds ≤ 1048576)
def OpenSpec.upto (s : _root_.Go.ChangeSpec) : _root_.Go.OpenSpec := { _root_.Go.OpenSpec.ofChange s with cond := some uptoSmall }

/-- 'bobbinlaw11.HeapPlays', WHERE WHAT IT READS IS OF BULK AT MOST 1048576: true; the input reads as it did. -/
def heapPlaysUptoRow : OpenClaim := { program := "ytedmdobfnkmccaa", sum := "68b9b3a24fc12554a017b60adb8580d0dcc707ae7b1898f429b8985cc4f46070", func := "bobbin/bobbinlaw11.HeapPlays", spec := "heapPlays", apart := false, narrowed := true }
def HeapPlaysUptoSaid : Prop := heapPlaysUptoRow.holds Try.pinned (OpenSpec.upto heapPlaysSpec)

/-- 'bobbinlaw11.HeapNothing', WHERE WHAT IT READS IS OF BULK AT MOST 1048576: true; the input reads as it did. -/
def heapNothingUptoRow : OpenClaim := { program := "ytedmdobfnkmccaa", sum := "68b9b3a24fc12554a017b60adb8580d0dcc707ae7b1898f429b8985cc4f46070", func := "bobbin/bobbinlaw11.HeapNothing", spec := "heapNothing", apart := false, narrowed := true }
def HeapNothingUptoSaid : Prop := heapNothingUptoRow.holds Try.pinned (OpenSpec.upto heapNothingSpec)

/-- 'bobbinlaw11.HeapCovers', WHERE WHAT IT READS IS OF BULK AT MOST 1048576: true; the input reads as it did. -/
def heapCoversUptoRow : OpenClaim := { program := "ytedmdobfnkmccaa", sum := "68b9b3a24fc12554a017b60adb8580d0dcc707ae7b1898f429b8985cc4f46070", func := "bobbin/bobbinlaw11.HeapCovers", spec := "heapCovers", apart := false, narrowed := true }
def HeapCoversUptoSaid : Prop := heapCoversUptoRow.holds Try.pinned (OpenSpec.upto heapCoversSpec)

/-- 'bobbinlaw11.HeapWhole', WHERE WHAT IT READS IS OF BULK AT MOST 1048576: true; the input reads as it did. -/
def heapWholeUptoRow : OpenClaim := { program := "ytedmdobfnkmccaa", sum := "68b9b3a24fc12554a017b60adb8580d0dcc707ae7b1898f429b8985cc4f46070", func := "bobbin/bobbinlaw11.HeapWhole", spec := "heapWhole", apart := false, narrowed := true }
def HeapWholeUptoSaid : Prop := heapWholeUptoRow.holds Try.pinned (OpenSpec.upto heapWholeSpec)

/-- 'bobbinlaw11.HeapFirst', WHERE WHAT IT READS IS OF BULK AT MOST 1048576: true; the input reads as it did. -/
def heapFirstUptoRow : OpenClaim := { program := "ytedmdobfnkmccaa", sum := "68b9b3a24fc12554a017b60adb8580d0dcc707ae7b1898f429b8985cc4f46070", func := "bobbin/bobbinlaw11.HeapFirst", spec := "heapFirst", apart := false, narrowed := true }
def HeapFirstUptoSaid : Prop := heapFirstUptoRow.holds Try.pinned (OpenSpec.upto heapFirstSpec)

end Rows
end Go.Proofs.Ytedmdobfnkmccaa
