/-
  No cell of these rows narrows 'for every input' (looked for: loops, veiled, ifaces, maps, wideKeys, modest, calm, conditions, laid).
  DERIVED. THE GIVEN ROWS OF THIS SEAT. 3 by the template 'for every input the law returns true; each argument reads behind the call as it read before'; 0 by the template 'total and deterministic' (their statements: YtigkecdnnkgghaaTotals.lean).
  GIVEN WITH THE SEED: the statements are not yours to turn. If you find one false, say at which input.
  Laid BY PROGRAM, IN A SANDBOX (cutbox-rows.mjs): the forced cells as the released guide's own fill.sh prints them over the translation e336a180bb13cb81… (all of the seat's roots in one cut). By AI agents, Wed Nov 11 2026. No macro, syntax, notation, axiom, sorry.
-/
import Derived.Test.YtigkecdnnkgghaaChecked
import GoSem.Claim
import GoSem.ClaimJoined
import GoSem.ClaimMapViews
import Derived.JoinedTies
import Derived.KernelRfl
namespace Go.Proofs.Ytigkecdnnkgghaa
/- THE CELL 'sum', in the pinned program and in every row, IS THE sha256 OF THE DUMP (.gsa) THAT YtigkecdnnkgghaaProg.lean LOADS. Nothing in Lean hashes anything: it is a label: what it is worth is what the hold of that sum in a sandbox is worth. -/
noncomputable def Try.pinned : Pinned := { name := "ytigkecdnnkgghaa", sum := "e336a180bb13cb8112c5072e413681a8602a820fe3bb3ecf0965550e0ba16200", checked := Try.checked }
namespace Rows
def none {H : Type} : Left H := { results := [], args := [] }

/-- 'geminationlaw12.LineageTells': WHATEVER THE INPUT: true; the input reads as it did. -/
def lineageTellsSpec : ChangeSpec := { name := "lineageTells", fn := fun _ => fun
  | [d1, d2, d3] => { results := [.lit (.bool true)], args := [d1, d2, d3] }
  | _ => none }
def lineageTellsRow : OpenClaim := { program := "ytigkecdnnkgghaa", sum := "e336a180bb13cb8112c5072e413681a8602a820fe3bb3ecf0965550e0ba16200", func := "gemination/geminationlaw12.LineageTells", spec := "lineageTells", unfollowed := true, recurses := true, apart := false }
def LineageTellsSaid : Prop := lineageTellsRow.holds Try.pinned (OpenSpec.ofChange lineageTellsSpec)

/-- ITS FALSE NEIGHBOUR: 'it returns false'. Refute it at one input. -/
def lineageTellsWrong : ChangeSpec := { name := "lineageTells", fn := fun _ => fun
  | [d1, d2, d3] => { results := [.lit (.bool false)], args := [d1, d2, d3] }
  | _ => none }
def LineageTellsWrongFalsely : Prop := lineageTellsRow.holds Try.pinned (OpenSpec.ofChange lineageTellsWrong)

/-- 'geminationlaw12.LineageApart': WHATEVER THE INPUT: true; the input reads as it did. -/
def lineageApartSpec : ChangeSpec := { name := "lineageApart", fn := fun _ => fun
  | [d1, d2, d3] => { results := [.lit (.bool true)], args := [d1, d2, d3] }
  | _ => none }
def lineageApartRow : OpenClaim := { program := "ytigkecdnnkgghaa", sum := "e336a180bb13cb8112c5072e413681a8602a820fe3bb3ecf0965550e0ba16200", func := "gemination/geminationlaw12.LineageApart", spec := "lineageApart", unfollowed := true, recurses := true, apart := false }
def LineageApartSaid : Prop := lineageApartRow.holds Try.pinned (OpenSpec.ofChange lineageApartSpec)

/-- ITS FALSE NEIGHBOUR: 'it returns false'. Refute it at one input. -/
def lineageApartWrong : ChangeSpec := { name := "lineageApart", fn := fun _ => fun
  | [d1, d2, d3] => { results := [.lit (.bool false)], args := [d1, d2, d3] }
  | _ => none }
def LineageApartWrongFalsely : Prop := lineageApartRow.holds Try.pinned (OpenSpec.ofChange lineageApartWrong)

/-- 'geminationlaw12.LineageGrows': WHATEVER THE INPUT: true; the input reads as it did. -/
def lineageGrowsSpec : ChangeSpec := { name := "lineageGrows", fn := fun _ => fun
  | [d1, d2, d3] => { results := [.lit (.bool true)], args := [d1, d2, d3] }
  | _ => none }
def lineageGrowsRow : OpenClaim := { program := "ytigkecdnnkgghaa", sum := "e336a180bb13cb8112c5072e413681a8602a820fe3bb3ecf0965550e0ba16200", func := "gemination/geminationlaw12.LineageGrows", spec := "lineageGrows", unfollowed := true, recurses := true, apart := false }
def LineageGrowsSaid : Prop := lineageGrowsRow.holds Try.pinned (OpenSpec.ofChange lineageGrowsSpec)

/-- ITS FALSE NEIGHBOUR: 'it returns false'. Refute it at one input. -/
def lineageGrowsWrong : ChangeSpec := { name := "lineageGrows", fn := fun _ => fun
  | [d1, d2, d3] => { results := [.lit (.bool false)], args := [d1, d2, d3] }
  | _ => none }
def LineageGrowsWrongFalsely : Prop := lineageGrowsRow.holds Try.pinned (OpenSpec.ofChange lineageGrowsWrong)

/- THE SECOND FORM. 'bulk': how many values and letters a reading holds, each counted each time it is reached (what is shared counts as often as it is met; a slice's spare places count too). A statement '..UptoSaid' is the law's where the arguments, and the package variables that the reading takes, are together of bulk at most 1048576: NARROWER than '..Said'. Prove '..Said' where nothing that the law and all that it calls make is longer than what came in: it says more and counts as full. Else prove '..UptoSaid'. A law counts once. -/
mutual
def uptoBulk {H : Type} : DataW H → Nat
  | .lit (.string bytes) => bytes.length + 1
  | .lit _ => 1
  | .nil => 1
  | .ptr d => uptoBulk d + 1
  | .slice elems spare => uptoBulkAll elems + uptoBulkAll spare + 1
  | .agg parts => uptoBulkAll parts + 1
  | .iface _ d => uptoBulk d + 1
  | .map entries => uptoBulkEntries entries + 1
  | .held _ => 1
def uptoBulkAll {H : Type} : List (DataW H) → Nat
  | [] => 0
  | d :: r => uptoBulk d + uptoBulkAll r
def uptoBulkEntries {H : Type} : List (Lit × DataW H) → Nat
  | [] => 0
  | x :: r => uptoBulkEntry x + uptoBulkEntries r
def uptoBulkEntry {H : Type} : Lit × DataW H → Nat
  | (.string bytes, d) => bytes.length + uptoBulk d + 1
  | (_, d) => uptoBulk d + 1
 end
def uptoSmall : (H : Type) → List (DataW H) → Bool := fun _ ds => decide (uptoBulkAll ds ≤ 1048576)
def OpenSpec.upto (s : _root_.Go.ChangeSpec) : _root_.Go.OpenSpec := { _root_.Go.OpenSpec.ofChange s with cond := some uptoSmall }

/-- 'geminationlaw12.LineageTells', WHERE WHAT IT READS IS OF BULK AT MOST 1048576: true; the input reads as it did. -/
def lineageTellsUptoRow : OpenClaim := { program := "ytigkecdnnkgghaa", sum := "e336a180bb13cb8112c5072e413681a8602a820fe3bb3ecf0965550e0ba16200", func := "gemination/geminationlaw12.LineageTells", spec := "lineageTells", unfollowed := true, recurses := true, apart := false, narrowed := true }
def LineageTellsUptoSaid : Prop := lineageTellsUptoRow.holds Try.pinned (OpenSpec.upto lineageTellsSpec)

/-- 'geminationlaw12.LineageApart', WHERE WHAT IT READS IS OF BULK AT MOST 1048576: true; the input reads as it did. -/
def lineageApartUptoRow : OpenClaim := { program := "ytigkecdnnkgghaa", sum := "e336a180bb13cb8112c5072e413681a8602a820fe3bb3ecf0965550e0ba16200", func := "gemination/geminationlaw12.LineageApart", spec := "lineageApart", unfollowed := true, recurses := true, apart := false, narrowed := true }
def LineageApartUptoSaid : Prop := lineageApartUptoRow.holds Try.pinned (OpenSpec.upto lineageApartSpec)

/-- 'geminationlaw12.LineageGrows', WHERE WHAT IT READS IS OF BULK AT MOST 1048576: true; the input reads as it did. -/
def lineageGrowsUptoRow : OpenClaim := { program := "ytigkecdnnkgghaa", sum := "e336a180bb13cb8112c5072e413681a8602a820fe3bb3ecf0965550e0ba16200", func := "gemination/geminationlaw12.LineageGrows", spec := "lineageGrows", unfollowed := true, recurses := true, apart := false, narrowed := true }
def LineageGrowsUptoSaid : Prop := lineageGrowsUptoRow.holds Try.pinned (OpenSpec.upto lineageGrowsSpec)

end Rows
end Go.Proofs.Ytigkecdnnkgghaa
