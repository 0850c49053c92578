/-
  No cell of these rows narrows 'for every input' (looked for: loops, veiled, ifaces, maps, wideKeys, modest, calm, conditions, laid).
  DERIVED. THE GIVEN ROWS OF THIS SEAT. 4 by the template 'for every input the law returns true; each argument reads behind the call as it read before'; 0 by the template 'total and deterministic' (their statements: YtmkpoemjikdoeaaTotals.lean).
  GIVEN WITH THE SEED: the statements are not yours to turn. If you find one false, say at which input.
  Laid BY PROGRAM, IN A SANDBOX (cutbox-rows.mjs): the forced cells as the released guide's own fill.sh prints them over the translation 7ac0512f9d91fb9b… (all of the seat's roots in one cut). By AI agents, Wed Nov 11 2026. No macro, syntax, notation, axiom, sorry.
-/
import Derived.Test.YtmkpoemjikdoeaaChecked
import GoSem.Claim
import GoSem.ClaimJoined
import GoSem.ClaimMapViews
import Derived.JoinedTies
import Derived.KernelRfl
namespace Go.Proofs.Ytmkpoemjikdoeaa
/- THE CELL 'sum', in the pinned program and in every row, IS THE sha256 OF THE DUMP (.gsa) THAT YtmkpoemjikdoeaaProg.lean LOADS. Nothing in Lean hashes anything: it is a label: what it is worth is what the hold of that sum in a sandbox is worth. -/
noncomputable def Try.pinned : Pinned := { name := "ytmkpoemjikdoeaa", sum := "7ac0512f9d91fb9b07462a3c027a5d2a025f9b7ecdfaeaaabff28200dfd1d0bf", checked := Try.checked }
namespace Rows
def none {H : Type} : Left H := { results := [], args := [] }

/-- 'bobbinlaw17.SourceNames': WHATEVER THE INPUT: true; the input reads as it did. -/
def sourceNamesSpec : ChangeSpec := { name := "sourceNames", fn := fun _ => fun
  | [d1, d2] => { results := [.lit (.bool true)], args := [d1, d2] }
  | _ => none }
def sourceNamesRow : OpenClaim := { program := "ytmkpoemjikdoeaa", sum := "7ac0512f9d91fb9b07462a3c027a5d2a025f9b7ecdfaeaaabff28200dfd1d0bf", func := "bobbin/bobbinlaw17.SourceNames", spec := "sourceNames", unfollowed := true, recurses := true, apart := false }
def SourceNamesSaid : Prop := sourceNamesRow.holds Try.pinned (OpenSpec.ofChange sourceNamesSpec)

/-- ITS FALSE NEIGHBOUR: 'it returns false'. Refute it at one input. -/
def sourceNamesWrong : ChangeSpec := { name := "sourceNames", fn := fun _ => fun
  | [d1, d2] => { results := [.lit (.bool false)], args := [d1, d2] }
  | _ => none }
def SourceNamesWrongFalsely : Prop := sourceNamesRow.holds Try.pinned (OpenSpec.ofChange sourceNamesWrong)

/-- 'bobbinlaw17.SourceNothing': WHATEVER THE INPUT: true; the input reads as it did. -/
def sourceNothingSpec : ChangeSpec := { name := "sourceNothing", fn := fun _ => fun
  | [d1, d2] => { results := [.lit (.bool true)], args := [d1, d2] }
  | _ => none }
def sourceNothingRow : OpenClaim := { program := "ytmkpoemjikdoeaa", sum := "7ac0512f9d91fb9b07462a3c027a5d2a025f9b7ecdfaeaaabff28200dfd1d0bf", func := "bobbin/bobbinlaw17.SourceNothing", spec := "sourceNothing", unfollowed := true, recurses := true, apart := false }
def SourceNothingSaid : Prop := sourceNothingRow.holds Try.pinned (OpenSpec.ofChange sourceNothingSpec)

/-- ITS FALSE NEIGHBOUR: 'it returns false'. Refute it at one input. -/
def sourceNothingWrong : ChangeSpec := { name := "sourceNothing", fn := fun _ => fun
  | [d1, d2] => { results := [.lit (.bool false)], args := [d1, d2] }
  | _ => none }
def SourceNothingWrongFalsely : Prop := sourceNothingRow.holds Try.pinned (OpenSpec.ofChange sourceNothingWrong)

/-- 'bobbinlaw17.SourcePieces': WHATEVER THE INPUT: true; the input reads as it did. -/
def sourcePiecesSpec : ChangeSpec := { name := "sourcePieces", fn := fun _ => fun
  | [d1, d2] => { results := [.lit (.bool true)], args := [d1, d2] }
  | _ => none }
def sourcePiecesRow : OpenClaim := { program := "ytmkpoemjikdoeaa", sum := "7ac0512f9d91fb9b07462a3c027a5d2a025f9b7ecdfaeaaabff28200dfd1d0bf", func := "bobbin/bobbinlaw17.SourcePieces", spec := "sourcePieces", unfollowed := true, recurses := true, apart := false }
def SourcePiecesSaid : Prop := sourcePiecesRow.holds Try.pinned (OpenSpec.ofChange sourcePiecesSpec)

/-- ITS FALSE NEIGHBOUR: 'it returns false'. Refute it at one input. -/
def sourcePiecesWrong : ChangeSpec := { name := "sourcePieces", fn := fun _ => fun
  | [d1, d2] => { results := [.lit (.bool false)], args := [d1, d2] }
  | _ => none }
def SourcePiecesWrongFalsely : Prop := sourcePiecesRow.holds Try.pinned (OpenSpec.ofChange sourcePiecesWrong)

/-- 'bobbinlaw17.SourceBack': WHATEVER THE INPUT: true; the input reads as it did. -/
def sourceBackSpec : ChangeSpec := { name := "sourceBack", fn := fun _ => fun
  | [d1, d2, d3] => { results := [.lit (.bool true)], args := [d1, d2, d3] }
  | _ => none }
def sourceBackRow : OpenClaim := { program := "ytmkpoemjikdoeaa", sum := "7ac0512f9d91fb9b07462a3c027a5d2a025f9b7ecdfaeaaabff28200dfd1d0bf", func := "bobbin/bobbinlaw17.SourceBack", spec := "sourceBack", unfollowed := true, recurses := true, apart := false }
def SourceBackSaid : Prop := sourceBackRow.holds Try.pinned (OpenSpec.ofChange sourceBackSpec)

/-- ITS FALSE NEIGHBOUR: 'it returns false'. Refute it at one input. -/
def sourceBackWrong : ChangeSpec := { name := "sourceBack", fn := fun _ => fun
  | [d1, d2, d3] => { results := [.lit (.bool false)], args := [d1, d2, d3] }
  | _ => none }
def SourceBackWrongFalsely : Prop := sourceBackRow.holds Try.pinned (OpenSpec.ofChange sourceBackWrong)

/- THE SECOND FORM. 'bulk': how many values and letters a reading holds, each counted each time it is reached (what is shared counts as often as it is met; a slice's spare places count too). A statement '..UptoSaid' is the law's where the arguments, and the package variables that the reading takes, are together of bulk at most 1048576: NARROWER than '..Said'. Prove '..Said' where nothing that the law and all that it calls make is longer than what came in: it says more and counts as full. Else prove '..UptoSaid'. A law counts once. -/
mutual
def uptoBulk {H : Type} : DataW H → Nat
  | .lit (.string bytes) => bytes.length + 1
  | .lit _ => 1
  | .nil => 1
  | .ptr d => uptoBulk d + 1
  | .slice elems spare => uptoBulkAll elems + uptoBulkAll spare + 1
  | .agg parts => uptoBulkAll parts + 1
  | .iface _ d => uptoBulk d + 1
  | .map entries => uptoBulkEntries entries + 1
  | .held _ => 1
def uptoBulkAll {H : Type} : List (DataW H) → Nat
  | [] => 0
  | d :: r => uptoBulk d + uptoBulkAll r
def uptoBulkEntries {H : Type} : List (Lit × DataW H) → Nat
  | [] => 0
  | x :: r => uptoBulkEntry x + uptoBulkEntries r
def uptoBulkEntry {H : Type} : Lit × DataW H → Nat
  | (.string bytes, d) => bytes.length + uptoBulk d + 1
  | (_, d) => uptoBulk d + 1
 end
def uptoSmall : (H : Type) → List (DataW H) → Bool := fun _ ds => decide (uptoBulkAll ds ≤ 1048576)
def OpenSpec.upto (s : _root_.Go.ChangeSpec) : _root_.Go.OpenSpec := { _root_.Go.OpenSpec.ofChange s with cond := some uptoSmall }

/-- 'bobbinlaw17.SourceNames', WHERE WHAT IT READS IS OF BULK AT MOST 1048576: true; the input reads as it did. -/
def sourceNamesUptoRow : OpenClaim := { program := "ytmkpoemjikdoeaa", sum := "7ac0512f9d91fb9b07462a3c027a5d2a025f9b7ecdfaeaaabff28200dfd1d0bf", func := "bobbin/bobbinlaw17.SourceNames", spec := "sourceNames", unfollowed := true, recurses := true, apart := false, narrowed := true }
def SourceNamesUptoSaid : Prop := sourceNamesUptoRow.holds Try.pinned (OpenSpec.upto sourceNamesSpec)

/-- 'bobbinlaw17.SourceNothing', WHERE WHAT IT READS IS OF BULK AT MOST 1048576: true; the input reads as it did. -/
def sourceNothingUptoRow : OpenClaim := { program := "ytmkpoemjikdoeaa", sum := "7ac0512f9d91fb9b07462a3c027a5d2a025f9b7ecdfaeaaabff28200dfd1d0bf", func := "bobbin/bobbinlaw17.SourceNothing", spec := "sourceNothing", unfollowed := true, recurses := true, apart := false, narrowed := true }
def SourceNothingUptoSaid : Prop := sourceNothingUptoRow.holds Try.pinned (OpenSpec.upto sourceNothingSpec)

/-- 'bobbinlaw17.SourcePieces', WHERE WHAT IT READS IS OF BULK AT MOST 1048576: true; the input reads as it did. -/
def sourcePiecesUptoRow : OpenClaim := { program := "ytmkpoemjikdoeaa", sum := "7ac0512f9d91fb9b07462a3c027a5d2a025f9b7ecdfaeaaabff28200dfd1d0bf", func := "bobbin/bobbinlaw17.SourcePieces", spec := "sourcePieces", unfollowed := true, recurses := true, apart := false, narrowed := true }
def SourcePiecesUptoSaid : Prop := sourcePiecesUptoRow.holds Try.pinned (OpenSpec.upto sourcePiecesSpec)

/-- 'bobbinlaw17.SourceBack', WHERE WHAT IT READS IS OF BULK AT MOST 1048576: true; the input reads as it did. -/
def sourceBackUptoRow : OpenClaim := { program := "ytmkpoemjikdoeaa", sum := "7ac0512f9d91fb9b07462a3c027a5d2a025f9b7ecdfaeaaabff28200dfd1d0bf", func := "bobbin/bobbinlaw17.SourceBack", spec := "sourceBack", unfollowed := true, recurses := true, apart := false, narrowed := true }
def SourceBackUptoSaid : Prop := sourceBackUptoRow.holds Try.pinned (OpenSpec.upto sourceBackSpec)

end Rows
end Go.Proofs.Ytmkpoemjikdoeaa
