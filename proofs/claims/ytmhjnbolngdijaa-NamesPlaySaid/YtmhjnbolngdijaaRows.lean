/-
  No cell of these rows narrows 'for every input' (looked for: loops, veiled, ifaces, maps, wideKeys, modest, calm, conditions, laid).
  DERIVED. THE GIVEN ROWS OF THIS SEAT. 6 by the template 'for every input the law returns true; each argument reads behind the call as it read before'; 0 by the template 'total and deterministic' (their statements: YtmhjnbolngdijaaTotals.lean).
  GIVEN WITH THE SEED: the statements are not yours to turn. If you find one false, say at which input.
  Laid BY PROGRAM, IN A SANDBOX (cutbox-rows.mjs): the forced cells as the released guide's own fill.sh prints them over the translation 29cd8185fdc03fc7… (all of the seat's roots in one cut). By AI agents, Wed Nov 11 2026. No macro, syntax, notation, axiom, sorry.
-/
import Derived.Test.YtmhjnbolngdijaaChecked
import GoSem.Claim
import GoSem.ClaimJoined
import GoSem.ClaimMapViews
import Derived.JoinedTies
import Derived.KernelRfl
namespace Go.Proofs.Ytmhjnbolngdijaa
/- THE CELL 'sum', in the pinned program and in every row, IS THE sha256 OF THE DUMP (.gsa) THAT YtmhjnbolngdijaaProg.lean LOADS. Nothing in Lean hashes anything: it is a label: what it is worth is what the hold of that sum in a sandbox is worth. -/
noncomputable def Try.pinned : Pinned := { name := "ytmhjnbolngdijaa", sum := "29cd8185fdc03fc7a7b715fa4d13218717836ea8c9f326f7a016809f18997c2f", checked := Try.checked }
namespace Rows
def none {H : Type} : Left H := { results := [], args := [] }

/-- 'bobbinlaw14.NamesHide': WHATEVER THE INPUT: true; the input reads as it did. -/
def namesHideSpec : ChangeSpec := { name := "namesHide", fn := fun _ => fun
  | [d1, d2] => { results := [.lit (.bool true)], args := [d1, d2] }
  | _ => none }
def namesHideRow : OpenClaim := { program := "ytmhjnbolngdijaa", sum := "29cd8185fdc03fc7a7b715fa4d13218717836ea8c9f326f7a016809f18997c2f", func := "bobbin/bobbinlaw14.NamesHide", spec := "namesHide", inPlace := ["slices.overlaps[int]"], plainKeys := false, apart := false }
def NamesHideSaid : Prop := namesHideRow.holds Try.pinned (OpenSpec.ofChange namesHideSpec)

/-- ITS FALSE NEIGHBOUR: 'it returns false'. Refute it at one input. -/
def namesHideWrong : ChangeSpec := { name := "namesHide", fn := fun _ => fun
  | [d1, d2] => { results := [.lit (.bool false)], args := [d1, d2] }
  | _ => none }
def NamesHideWrongFalsely : Prop := namesHideRow.holds Try.pinned (OpenSpec.ofChange namesHideWrong)

/-- 'bobbinlaw14.NamesOwn': WHATEVER THE INPUT: true; the input reads as it did. -/
def namesOwnSpec : ChangeSpec := { name := "namesOwn", fn := fun _ => fun
  | [d] => { results := [.lit (.bool true)], args := [d] }
  | _ => none }
def namesOwnRow : OpenClaim := { program := "ytmhjnbolngdijaa", sum := "29cd8185fdc03fc7a7b715fa4d13218717836ea8c9f326f7a016809f18997c2f", func := "bobbin/bobbinlaw14.NamesOwn", spec := "namesOwn", inPlace := ["slices.overlaps[int]"], unfollowed := true, recurses := true, plainKeys := false, apart := false }
def NamesOwnSaid : Prop := namesOwnRow.holds Try.pinned (OpenSpec.ofChange namesOwnSpec)

/-- ITS FALSE NEIGHBOUR: 'it returns false'. Refute it at one input. -/
def namesOwnWrong : ChangeSpec := { name := "namesOwn", fn := fun _ => fun
  | [d] => { results := [.lit (.bool false)], args := [d] }
  | _ => none }
def NamesOwnWrongFalsely : Prop := namesOwnRow.holds Try.pinned (OpenSpec.ofChange namesOwnWrong)

/-- 'bobbinlaw14.NamesOrder': WHATEVER THE INPUT: true; the input reads as it did. -/
def namesOrderSpec : ChangeSpec := { name := "namesOrder", fn := fun _ => fun
  | [d1, d2, d3] => { results := [.lit (.bool true)], args := [d1, d2, d3] }
  | _ => none }
def namesOrderRow : OpenClaim := { program := "ytmhjnbolngdijaa", sum := "29cd8185fdc03fc7a7b715fa4d13218717836ea8c9f326f7a016809f18997c2f", func := "bobbin/bobbinlaw14.NamesOrder", spec := "namesOrder", inPlace := ["slices.overlaps[int]"], unfollowed := true, recurses := true, plainKeys := false, apart := false }
def NamesOrderSaid : Prop := namesOrderRow.holds Try.pinned (OpenSpec.ofChange namesOrderSpec)

/-- ITS FALSE NEIGHBOUR: 'it returns false'. Refute it at one input. -/
def namesOrderWrong : ChangeSpec := { name := "namesOrder", fn := fun _ => fun
  | [d1, d2, d3] => { results := [.lit (.bool false)], args := [d1, d2, d3] }
  | _ => none }
def NamesOrderWrongFalsely : Prop := namesOrderRow.holds Try.pinned (OpenSpec.ofChange namesOrderWrong)

/-- 'bobbinlaw14.NamesNothing': WHATEVER THE INPUT: true; the input reads as it did. -/
def namesNothingSpec : ChangeSpec := { name := "namesNothing", fn := fun _ => fun
  | [d] => { results := [.lit (.bool true)], args := [d] }
  | _ => none }
def namesNothingRow : OpenClaim := { program := "ytmhjnbolngdijaa", sum := "29cd8185fdc03fc7a7b715fa4d13218717836ea8c9f326f7a016809f18997c2f", func := "bobbin/bobbinlaw14.NamesNothing", spec := "namesNothing", inPlace := ["slices.overlaps[int]"], unfollowed := true, recurses := true, plainKeys := false, apart := false }
def NamesNothingSaid : Prop := namesNothingRow.holds Try.pinned (OpenSpec.ofChange namesNothingSpec)

/-- ITS FALSE NEIGHBOUR: 'it returns false'. Refute it at one input. -/
def namesNothingWrong : ChangeSpec := { name := "namesNothing", fn := fun _ => fun
  | [d] => { results := [.lit (.bool false)], args := [d] }
  | _ => none }
def NamesNothingWrongFalsely : Prop := namesNothingRow.holds Try.pinned (OpenSpec.ofChange namesNothingWrong)

/-- 'bobbinlaw14.NamesPlay': WHATEVER THE INPUT: true; the input reads as it did. -/
def namesPlaySpec : ChangeSpec := { name := "namesPlay", fn := fun _ => fun
  | [d1, d2] => { results := [.lit (.bool true)], args := [d1, d2] }
  | _ => none }
def namesPlayRow : OpenClaim := { program := "ytmhjnbolngdijaa", sum := "29cd8185fdc03fc7a7b715fa4d13218717836ea8c9f326f7a016809f18997c2f", func := "bobbin/bobbinlaw14.NamesPlay", spec := "namesPlay", inPlace := ["slices.overlaps[int]"], unfollowed := true, recurses := true, plainKeys := false, apart := false }
def NamesPlaySaid : Prop := namesPlayRow.holds Try.pinned (OpenSpec.ofChange namesPlaySpec)

/-- ITS FALSE NEIGHBOUR: 'it returns false'. Refute it at one input. -/
def namesPlayWrong : ChangeSpec := { name := "namesPlay", fn := fun _ => fun
  | [d1, d2] => { results := [.lit (.bool false)], args := [d1, d2] }
  | _ => none }
def NamesPlayWrongFalsely : Prop := namesPlayRow.holds Try.pinned (OpenSpec.ofChange namesPlayWrong)

/-- 'bobbinlaw14.NamesBack': WHATEVER THE INPUT: true; the input reads as it did. -/
def namesBackSpec : ChangeSpec := { name := "namesBack", fn := fun _ => fun
  | [d1, d2, d3] => { results := [.lit (.bool true)], args := [d1, d2, d3] }
  | _ => none }
def namesBackRow : OpenClaim := { program := "ytmhjnbolngdijaa", sum := "29cd8185fdc03fc7a7b715fa4d13218717836ea8c9f326f7a016809f18997c2f", func := "bobbin/bobbinlaw14.NamesBack", spec := "namesBack", inPlace := ["slices.overlaps[int]"], unfollowed := true, recurses := true, plainKeys := false, apart := false }
def NamesBackSaid : Prop := namesBackRow.holds Try.pinned (OpenSpec.ofChange namesBackSpec)

/-- ITS FALSE NEIGHBOUR: 'it returns false'. Refute it at one input. -/
def namesBackWrong : ChangeSpec := { name := "namesBack", fn := fun _ => fun
  | [d1, d2, d3] => { results := [.lit (.bool false)], args := [d1, d2, d3] }
  | _ => none }
def NamesBackWrongFalsely : Prop := namesBackRow.holds Try.pinned (OpenSpec.ofChange namesBackWrong)

/- THE SECOND FORM. 'bulk': how many values and letters a reading holds, each counted each time it is reached (what is shared counts as often as it is met; a slice's spare places count too). A statement '..UptoSaid' is the law's where the arguments, and the package variables that the reading takes, are together of bulk at most 1048576: NARROWER than '..Said'. Prove '..Said' where nothing that the law and all that it calls make is longer than what came in: it says more and counts as full. Else prove '..UptoSaid'. A law counts once. -/
mutual
def uptoBulk {H : Type} : DataW H → Nat
  | .lit (.string bytes) => bytes.length + 1
  | .lit _ => 1
  | .nil => 1
  | .ptr d => uptoBulk d + 1
  | .slice elems spare => uptoBulkAll elems + uptoBulkAll spare + 1
  | .agg parts => uptoBulkAll parts + 1
  | .iface _ d => uptoBulk d + 1
  | .map entries => uptoBulkEntries entries + 1
  | .held _ => 1
def uptoBulkAll {H : Type} : List (DataW H) → Nat
  | [] => 0
  | d :: r => uptoBulk d + uptoBulkAll r
def uptoBulkEntries {H : Type} : List (Lit × DataW H) → Nat
  | [] => 0
  | x :: r => uptoBulkEntry x + uptoBulkEntries r
def uptoBulkEntry {H : Type} : Lit × DataW H → Nat
  | (.string bytes, d) => bytes.length + uptoBulk d + 1
  | (_, d) => uptoBulk d + 1
 end
def uptoSmall : (H : Type) → List (DataW H) → Bool := fun _ ds => decide (uptoBulkAll ds ≤ 1048576)
def OpenSpec.upto (s : _root_.Go.ChangeSpec) : _root_.Go.OpenSpec := { _root_.Go.OpenSpec.ofChange s with cond := some uptoSmall }

/-- 'bobbinlaw14.NamesHide', WHERE WHAT IT READS IS OF BULK AT MOST 1048576: true; the input reads as it did. -/
def namesHideUptoRow : OpenClaim := { program := "ytmhjnbolngdijaa", sum := "29cd8185fdc03fc7a7b715fa4d13218717836ea8c9f326f7a016809f18997c2f", func := "bobbin/bobbinlaw14.NamesHide", spec := "namesHide", inPlace := ["slices.overlaps[int]"], plainKeys := false, apart := false, narrowed := true }
def NamesHideUptoSaid : Prop := namesHideUptoRow.holds Try.pinned (OpenSpec.upto namesHideSpec)

/-- 'bobbinlaw14.NamesOwn', WHERE WHAT IT READS IS OF BULK AT MOST 1048576: true; the input reads as it did. -/
def namesOwnUptoRow : OpenClaim := { program := "ytmhjnbolngdijaa", sum := "29cd8185fdc03fc7a7b715fa4d13218717836ea8c9f326f7a016809f18997c2f", func := "bobbin/bobbinlaw14.NamesOwn", spec := "namesOwn", inPlace := ["slices.overlaps[int]"], unfollowed := true, recurses := true, plainKeys := false, apart := false, narrowed := true }
def NamesOwnUptoSaid : Prop := namesOwnUptoRow.holds Try.pinned (OpenSpec.upto namesOwnSpec)

/-- 'bobbinlaw14.NamesOrder', WHERE WHAT IT READS IS OF BULK AT MOST 1048576: true; the input reads as it did. -/
def namesOrderUptoRow : OpenClaim := { program := "ytmhjnbolngdijaa", sum := "29cd8185fdc03fc7a7b715fa4d13218717836ea8c9f326f7a016809f18997c2f", func := "bobbin/bobbinlaw14.NamesOrder", spec := "namesOrder", inPlace := ["slices.overlaps[int]"], unfollowed := true, recurses := true, plainKeys := false, apart := false, narrowed := true }
def NamesOrderUptoSaid : Prop := namesOrderUptoRow.holds Try.pinned (OpenSpec.upto namesOrderSpec)

/-- 'bobbinlaw14.NamesNothing', WHERE WHAT IT READS IS OF BULK AT MOST 1048576: true; the input reads as it did. -/
def namesNothingUptoRow : OpenClaim := { program := "ytmhjnbolngdijaa", sum := "29cd8185fdc03fc7a7b715fa4d13218717836ea8c9f326f7a016809f18997c2f", func := "bobbin/bobbinlaw14.NamesNothing", spec := "namesNothing", inPlace := ["slices.overlaps[int]"], unfollowed := true, recurses := true, plainKeys := false, apart := false, narrowed := true }
def NamesNothingUptoSaid : Prop := namesNothingUptoRow.holds Try.pinned (OpenSpec.upto namesNothingSpec)

/-- 'bobbinlaw14.NamesPlay', WHERE WHAT IT READS IS OF BULK AT MOST 1048576: true; the input reads as it did. -/
def namesPlayUptoRow : OpenClaim := { program := "ytmhjnbolngdijaa", sum := "29cd8185fdc03fc7a7b715fa4d13218717836ea8c9f326f7a016809f18997c2f", func := "bobbin/bobbinlaw14.NamesPlay", spec := "namesPlay", inPlace := ["slices.overlaps[int]"], unfollowed := true, recurses := true, plainKeys := false, apart := false, narrowed := true }
def NamesPlayUptoSaid : Prop := namesPlayUptoRow.holds Try.pinned (OpenSpec.upto namesPlaySpec)

/-- 'bobbinlaw14.NamesBack', WHERE WHAT IT READS IS OF BULK AT MOST 1048576: true; the input reads as it did. -/
def namesBackUptoRow : OpenClaim := { program := "ytmhjnbolngdijaa", sum := "29cd8185fdc03fc7a7b715fa4d13218717836ea8c9f326f7a016809f18997c2f", func := "bobbin/bobbinlaw14.NamesBack", spec := "namesBack", inPlace := ["slices.overlaps[int]"], unfollowed := true, recurses := true, plainKeys := false, apart := false, narrowed := true }
def NamesBackUptoSaid : Prop := namesBackUptoRow.holds Try.pinned (OpenSpec.upto namesBackSpec)

end Rows
end Go.Proofs.Ytmhjnbolngdijaa
