/-
  No cell of these rows narrows 'for every input' (looked for: loops, veiled, ifaces, maps, wideKeys, modest, calm, conditions, laid).
  DERIVED. THE GIVEN ROWS OF THIS SEAT. 4 by the template 'for every input the law returns true; each argument reads behind the call as it read before'; 0 by the template 'total and deterministic' (their statements: YtpbljfeahhojaaaTotals.lean).
  GIVEN WITH THE SEED: the statements are not yours to turn. If you find one false, say at which input.
  Laid BY PROGRAM, IN A SANDBOX (cutbox-rows.mjs): the forced cells as the released guide's own fill.sh prints them over the translation f00f8a53455250bc… (all of the seat's roots in one cut). By AI agents, Wed Nov 11 2026. No macro, syntax, notation, axiom, sorry.
-/
import Derived.Test.YtpbljfeahhojaaaChecked
import GoSem.Claim
import GoSem.ClaimJoined
import GoSem.ClaimMapViews
import Derived.JoinedTies
import Derived.KernelRfl
namespace Go.Proofs.Ytpbljfeahhojaaa
/- THE CELL 'sum', in the pinned program and in every row, IS THE sha256 OF THE DUMP (.gsa) THAT YtpbljfeahhojaaaProg.lean LOADS. Nothing in Lean hashes anything: it is a label: what it is worth is what the hold of that sum in a sandbox is worth. -/
noncomputable def Try.pinned : Pinned := { name := "ytpbljfeahhojaaa", sum := "f00f8a53455250bcebc14b88fbf3ab880e737f93256939443ad51a8e9a4937db", checked := Try.checked }
namespace Rows
def none {H : Type} : Left H := { results := [], args := [] }

/-- 'geminationlaw05.VectorMakes': WHATEVER THE INPUT: true; the input reads as it did. -/
def vectorMakesSpec : ChangeSpec := { name := "vectorMakes", fn := fun _ => fun
  | [d1, d2] => { results := [.lit (.bool true)], args := [d1, d2] }
  | _ => none }
def vectorMakesRow : OpenClaim := { program := "ytpbljfeahhojaaa", sum := "f00f8a53455250bcebc14b88fbf3ab880e737f93256939443ad51a8e9a4937db", func := "gemination/geminationlaw05.VectorMakes", spec := "vectorMakes", unfollowed := true, recurses := true, apart := false }
def VectorMakesSaid : Prop := vectorMakesRow.holds Try.pinned (OpenSpec.ofChange vectorMakesSpec)

/-- ITS FALSE NEIGHBOUR: 'it returns false'. Refute it at one input. -/
def vectorMakesWrong : ChangeSpec := { name := "vectorMakes", fn := fun _ => fun
  | [d1, d2] => { results := [.lit (.bool false)], args := [d1, d2] }
  | _ => none }
def VectorMakesWrongFalsely : Prop := vectorMakesRow.holds Try.pinned (OpenSpec.ofChange vectorMakesWrong)

/-- 'geminationlaw05.VectorHas': WHATEVER THE INPUT: true; the input reads as it did. -/
def vectorHasSpec : ChangeSpec := { name := "vectorHas", fn := fun _ => fun
  | [d1, d2] => { results := [.lit (.bool true)], args := [d1, d2] }
  | _ => none }
def vectorHasRow : OpenClaim := { program := "ytpbljfeahhojaaa", sum := "f00f8a53455250bcebc14b88fbf3ab880e737f93256939443ad51a8e9a4937db", func := "gemination/geminationlaw05.VectorHas", spec := "vectorHas", unfollowed := true, recurses := true, apart := false }
def VectorHasSaid : Prop := vectorHasRow.holds Try.pinned (OpenSpec.ofChange vectorHasSpec)

/-- ITS FALSE NEIGHBOUR: 'it returns false'. Refute it at one input. -/
def vectorHasWrong : ChangeSpec := { name := "vectorHas", fn := fun _ => fun
  | [d1, d2] => { results := [.lit (.bool false)], args := [d1, d2] }
  | _ => none }
def VectorHasWrongFalsely : Prop := vectorHasRow.holds Try.pinned (OpenSpec.ofChange vectorHasWrong)

/-- 'geminationlaw05.VectorStays': WHATEVER THE INPUT: true; the input reads as it did. -/
def vectorStaysSpec : ChangeSpec := { name := "vectorStays", fn := fun _ => fun
  | [d1, d2] => { results := [.lit (.bool true)], args := [d1, d2] }
  | _ => none }
def vectorStaysRow : OpenClaim := { program := "ytpbljfeahhojaaa", sum := "f00f8a53455250bcebc14b88fbf3ab880e737f93256939443ad51a8e9a4937db", func := "gemination/geminationlaw05.VectorStays", spec := "vectorStays", unfollowed := true, recurses := true, apart := false }
def VectorStaysSaid : Prop := vectorStaysRow.holds Try.pinned (OpenSpec.ofChange vectorStaysSpec)

/-- ITS FALSE NEIGHBOUR: 'it returns false'. Refute it at one input. -/
def vectorStaysWrong : ChangeSpec := { name := "vectorStays", fn := fun _ => fun
  | [d1, d2] => { results := [.lit (.bool false)], args := [d1, d2] }
  | _ => none }
def VectorStaysWrongFalsely : Prop := vectorStaysRow.holds Try.pinned (OpenSpec.ofChange vectorStaysWrong)

/-- 'geminationlaw05.VectorLong': WHATEVER THE INPUT: true; the input reads as it did. -/
def vectorLongSpec : ChangeSpec := { name := "vectorLong", fn := fun _ => fun
  | [d1, d2] => { results := [.lit (.bool true)], args := [d1, d2] }
  | _ => none }
def vectorLongRow : OpenClaim := { program := "ytpbljfeahhojaaa", sum := "f00f8a53455250bcebc14b88fbf3ab880e737f93256939443ad51a8e9a4937db", func := "gemination/geminationlaw05.VectorLong", spec := "vectorLong", unfollowed := true, recurses := true, apart := false }
def VectorLongSaid : Prop := vectorLongRow.holds Try.pinned (OpenSpec.ofChange vectorLongSpec)

/-- ITS FALSE NEIGHBOUR: 'it returns false'. Refute it at one input. -/
def vectorLongWrong : ChangeSpec := { name := "vectorLong", fn := fun _ => fun
  | [d1, d2] => { results := [.lit (.bool false)], args := [d1, d2] }
  | _ => none }
def VectorLongWrongFalsely : Prop := vectorLongRow.holds Try.pinned (OpenSpec.ofChange vectorLongWrong)

/- THE SECOND FORM. 'bulk': how many values and letters a reading holds, each counted each time it is reached (what is shared counts as often as it is met; a slice's spare places count too). A statement '..UptoSaid' is the law's where the arguments, and the package variables that the reading takes, are together of bulk at most 1048576: NARROWER than '..Said'. Prove '..Said' where nothing that the law and all that it calls make is longer than what came in: it says more and counts as full. Else prove '..UptoSaid'. A law counts once. -/
mutual
def uptoBulk {H : Type} : DataW H → Nat
  | .lit (.string bytes) => bytes.length + 1
  | .lit _ => 1
  | .nil => 1
  | .ptr d => uptoBulk d + 1
  | .slice elems spare => uptoBulkAll elems + uptoBulkAll spare + 1
  | .agg parts => uptoBulkAll parts + 1
  | .iface _ d => uptoBulk d + 1
  | .map entries => uptoBulkEntries entries + 1
  | .held _ => 1
def uptoBulkAll {H : Type} : List (DataW H) → Nat
  | [] => 0
  | d :: r => uptoBulk d + uptoBulkAll r
def uptoBulkEntries {H : Type} : List (Lit × DataW H) → Nat
  | [] => 0
  | x :: r => uptoBulkEntry x + uptoBulkEntries r
def uptoBulkEntry {H : Type} : Lit × DataW H → Nat
  | (.string bytes, d) => bytes.length + uptoBulk d + 1
  | (_, d) => uptoBulk d + 1
 end
def uptoSmall : (H : Type) → List (DataW H) → Bool := fun _ ds => decide (uptoBulkAll ds ≤ 1048576)
def OpenSpec.upto (s : _root_.Go.ChangeSpec) : _root_.Go.OpenSpec := { _root_.Go.OpenSpec.ofChange s with cond := some uptoSmall }

/-- 'geminationlaw05.VectorMakes', WHERE WHAT IT READS IS OF BULK AT MOST 1048576: true; the input reads as it did. -/
def vectorMakesUptoRow : OpenClaim := { program := "ytpbljfeahhojaaa", sum := "f00f8a53455250bcebc14b88fbf3ab880e737f93256939443ad51a8e9a4937db", func := "gemination/geminationlaw05.VectorMakes", spec := "vectorMakes", unfollowed := true, recurses := true, apart := false, narrowed := true }
def VectorMakesUptoSaid : Prop := vectorMakesUptoRow.holds Try.pinned (OpenSpec.upto vectorMakesSpec)

/-- 'geminationlaw05.VectorHas', WHERE WHAT IT READS IS OF BULK AT MOST 1048576: true; the input reads as it did. -/
def vectorHasUptoRow : OpenClaim := { program := "ytpbljfeahhojaaa", sum := "f00f8a53455250bcebc14b88fbf3ab880e737f93256939443ad51a8e9a4937db", func := "gemination/geminationlaw05.VectorHas", spec := "vectorHas", unfollowed := true, recurses := true, apart := false, narrowed := true }
def VectorHasUptoSaid : Prop := vectorHasUptoRow.holds Try.pinned (OpenSpec.upto vectorHasSpec)

/-- 'geminationlaw05.VectorStays', WHERE WHAT IT READS IS OF BULK AT MOST 1048576: true; the input reads as it did. -/
def vectorStaysUptoRow : OpenClaim := { program := "ytpbljfeahhojaaa", sum := "f00f8a53455250bcebc14b88fbf3ab880e737f93256939443ad51a8e9a4937db", func := "gemination/geminationlaw05.VectorStays", spec := "vectorStays", unfollowed := true, recurses := true, apart := false, narrowed := true }
def VectorStaysUptoSaid : Prop := vectorStaysUptoRow.holds Try.pinned (OpenSpec.upto vectorStaysSpec)

/-- 'geminationlaw05.VectorLong', WHERE WHAT IT READS IS OF BULK AT MOST 1048576: true; the input reads as it did. -/
def vectorLongUptoRow : OpenClaim := { program := "ytpbljfeahhojaaa", sum := "f00f8a53455250bcebc14b88fbf3ab880e737f93256939443ad51a8e9a4937db", func := "gemination/geminationlaw05.VectorLong", spec := "vectorLong", unfollowed := true, recurses := true, apart := false, narrowed := true }
def VectorLongUptoSaid : Prop := vectorLongUptoRow.holds Try.pinned (OpenSpec.upto vectorLongSpec)

end Rows
end Go.Proofs.Ytpbljfeahhojaaa
