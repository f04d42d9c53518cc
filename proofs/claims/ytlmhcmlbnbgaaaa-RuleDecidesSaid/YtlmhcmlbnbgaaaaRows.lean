/-
  No cell of these rows narrows 'for every input' (looked for: loops, veiled, ifaces, maps, wideKeys, modest, calm, conditions, laid).
  DERIVED. THE GIVEN ROWS OF THIS SEAT. 6 by the template 'for every input the law returns true; each argument reads behind the call as it read before'; 0 by the template 'total and deterministic' (their statements: YtlmhcmlbnbgaaaaTotals.lean).
  GIVEN WITH THE SEED: the statements are not yours to turn. If you find one false, say at which input.
  Laid BY PROGRAM, IN A SANDBOX (cutbox-rows.mjs): the forced cells as the released guide's own fill.sh prints them over the translation 7df6b0d7f9477fdc… (all of the seat's roots in one cut). By AI agents, Wed Nov 11 2026. No macro, syntax, notation, axiom, sorry.
-/
import Derived.Test.YtlmhcmlbnbgaaaaChecked
import GoSem.Claim
import GoSem.ClaimJoined
import GoSem.ClaimMapViews
import Derived.JoinedTies
import Derived.KernelRfl
namespace Go.Proofs.Ytlmhcmlbnbgaaaa
/- THE CELL 'sum', in the pinned program and in every row, IS THE sha256 OF THE DUMP (.gsa) THAT YtlmhcmlbnbgaaaaProg.lean LOADS. Nothing in Lean hashes anything: it is a label: what it is worth is what the hold of that sum in a sandbox is worth. -/
noncomputable def Try.pinned : Pinned := { name := "ytlmhcmlbnbgaaaa", sum := "7df6b0d7f9477fdce03df538335c82f5e0c87eb7da15bce4d6c3da6f2491dc8f", checked := Try.checked }
namespace Rows
def none {H : Type} : Left H := { results := [], args := [] }

/-- 'geminationlaw11.RuleDecides': WHATEVER THE INPUT: true; the input reads as it did. -/
def ruleDecidesSpec : ChangeSpec := { name := "ruleDecides", fn := fun _ => fun
  | [d1, d2] => { results := [.lit (.bool true)], args := [d1, d2] }
  | _ => none }
def ruleDecidesRow : OpenClaim := { program := "ytlmhcmlbnbgaaaa", sum := "7df6b0d7f9477fdce03df538335c82f5e0c87eb7da15bce4d6c3da6f2491dc8f", func := "gemination/geminationlaw11.RuleDecides", spec := "ruleDecides", unfollowed := true, recurses := true, apart := false }
def RuleDecidesSaid : Prop := ruleDecidesRow.holds Try.pinned (OpenSpec.ofChange ruleDecidesSpec)

/-- ITS FALSE NEIGHBOUR: 'it returns false'. Refute it at one input. -/
def ruleDecidesWrong : ChangeSpec := { name := "ruleDecides", fn := fun _ => fun
  | [d1, d2] => { results := [.lit (.bool false)], args := [d1, d2] }
  | _ => none }
def RuleDecidesWrongFalsely : Prop := ruleDecidesRow.holds Try.pinned (OpenSpec.ofChange ruleDecidesWrong)

/-- 'geminationlaw11.RuleTells': WHATEVER THE INPUT: true; the input reads as it did. -/
def ruleTellsSpec : ChangeSpec := { name := "ruleTells", fn := fun _ => fun
  | [d1, d2, d3] => { results := [.lit (.bool true)], args := [d1, d2, d3] }
  | _ => none }
def ruleTellsRow : OpenClaim := { program := "ytlmhcmlbnbgaaaa", sum := "7df6b0d7f9477fdce03df538335c82f5e0c87eb7da15bce4d6c3da6f2491dc8f", func := "gemination/geminationlaw11.RuleTells", spec := "ruleTells", unfollowed := true, recurses := true, apart := false }
def RuleTellsSaid : Prop := ruleTellsRow.holds Try.pinned (OpenSpec.ofChange ruleTellsSpec)

/-- ITS FALSE NEIGHBOUR: 'it returns false'. Refute it at one input. -/
def ruleTellsWrong : ChangeSpec := { name := "ruleTells", fn := fun _ => fun
  | [d1, d2, d3] => { results := [.lit (.bool false)], args := [d1, d2, d3] }
  | _ => none }
def RuleTellsWrongFalsely : Prop := ruleTellsRow.holds Try.pinned (OpenSpec.ofChange ruleTellsWrong)

/-- 'geminationlaw11.RuleTurns': WHATEVER THE INPUT: true; the input reads as it did. -/
def ruleTurnsSpec : ChangeSpec := { name := "ruleTurns", fn := fun _ => fun
  | [d1, d2] => { results := [.lit (.bool true)], args := [d1, d2] }
  | _ => none }
def ruleTurnsRow : OpenClaim := { program := "ytlmhcmlbnbgaaaa", sum := "7df6b0d7f9477fdce03df538335c82f5e0c87eb7da15bce4d6c3da6f2491dc8f", func := "gemination/geminationlaw11.RuleTurns", spec := "ruleTurns", unfollowed := true, recurses := true, apart := false }
def RuleTurnsSaid : Prop := ruleTurnsRow.holds Try.pinned (OpenSpec.ofChange ruleTurnsSpec)

/-- ITS FALSE NEIGHBOUR: 'it returns false'. Refute it at one input. -/
def ruleTurnsWrong : ChangeSpec := { name := "ruleTurns", fn := fun _ => fun
  | [d1, d2] => { results := [.lit (.bool false)], args := [d1, d2] }
  | _ => none }
def RuleTurnsWrongFalsely : Prop := ruleTurnsRow.holds Try.pinned (OpenSpec.ofChange ruleTurnsWrong)

/-- 'geminationlaw11.RuleSafe': WHATEVER THE INPUT: true; the input reads as it did. -/
def ruleSafeSpec : ChangeSpec := { name := "ruleSafe", fn := fun _ => fun
  | [d1, d2] => { results := [.lit (.bool true)], args := [d1, d2] }
  | _ => none }
def ruleSafeRow : OpenClaim := { program := "ytlmhcmlbnbgaaaa", sum := "7df6b0d7f9477fdce03df538335c82f5e0c87eb7da15bce4d6c3da6f2491dc8f", func := "gemination/geminationlaw11.RuleSafe", spec := "ruleSafe", unfollowed := true, recurses := true, apart := false }
def RuleSafeSaid : Prop := ruleSafeRow.holds Try.pinned (OpenSpec.ofChange ruleSafeSpec)

/-- ITS FALSE NEIGHBOUR: 'it returns false'. Refute it at one input. -/
def ruleSafeWrong : ChangeSpec := { name := "ruleSafe", fn := fun _ => fun
  | [d1, d2] => { results := [.lit (.bool false)], args := [d1, d2] }
  | _ => none }
def RuleSafeWrongFalsely : Prop := ruleSafeRow.holds Try.pinned (OpenSpec.ofChange ruleSafeWrong)

/-- 'geminationlaw11.RuleOnes': WHATEVER THE INPUT: true; the input reads as it did. -/
def ruleOnesSpec : ChangeSpec := { name := "ruleOnes", fn := fun _ => fun
  | [d1, d2] => { results := [.lit (.bool true)], args := [d1, d2] }
  | _ => none }
def ruleOnesRow : OpenClaim := { program := "ytlmhcmlbnbgaaaa", sum := "7df6b0d7f9477fdce03df538335c82f5e0c87eb7da15bce4d6c3da6f2491dc8f", func := "gemination/geminationlaw11.RuleOnes", spec := "ruleOnes", unfollowed := true, recurses := true, apart := false }
def RuleOnesSaid : Prop := ruleOnesRow.holds Try.pinned (OpenSpec.ofChange ruleOnesSpec)

/-- ITS FALSE NEIGHBOUR: 'it returns false'. Refute it at one input. -/
def ruleOnesWrong : ChangeSpec := { name := "ruleOnes", fn := fun _ => fun
  | [d1, d2] => { results := [.lit (.bool false)], args := [d1, d2] }
  | _ => none }
def RuleOnesWrongFalsely : Prop := ruleOnesRow.holds Try.pinned (OpenSpec.ofChange ruleOnesWrong)

/-- 'geminationlaw11.RuleHalf': WHATEVER THE INPUT: true; the input reads as it did. -/
def ruleHalfSpec : ChangeSpec := { name := "ruleHalf", fn := fun _ => fun
  | [d1, d2] => { results := [.lit (.bool true)], args := [d1, d2] }
  | _ => none }
def ruleHalfRow : OpenClaim := { program := "ytlmhcmlbnbgaaaa", sum := "7df6b0d7f9477fdce03df538335c82f5e0c87eb7da15bce4d6c3da6f2491dc8f", func := "gemination/geminationlaw11.RuleHalf", spec := "ruleHalf", unfollowed := true, recurses := true, apart := false }
def RuleHalfSaid : Prop := ruleHalfRow.holds Try.pinned (OpenSpec.ofChange ruleHalfSpec)

/-- ITS FALSE NEIGHBOUR: 'it returns false'. Refute it at one input. -/
def ruleHalfWrong : ChangeSpec := { name := "ruleHalf", fn := fun _ => fun
  | [d1, d2] => { results := [.lit (.bool false)], args := [d1, d2] }
  | _ => none }
def RuleHalfWrongFalsely : Prop := ruleHalfRow.holds Try.pinned (OpenSpec.ofChange ruleHalfWrong)

/- THE SECOND FORM. 'bulk': how many values and letters a reading holds, each counted each time it is reached (what is shared counts as often as it is met; a slice's spare places count too). A statement '..UptoSaid' is the law's where the arguments, and the package variables that the reading takes, are together of bulk at most 1048576: NARROWER than '..Said'. Prove '..Said' where nothing that the law and all that it calls make is longer than what came in: it says more and counts as full. Else prove '..UptoSaid'. A law counts once. -/
mutual
def uptoBulk {H : Type} : DataW H → Nat
  | .lit (.string bytes) => bytes.length + 1
  | .lit _ => 1
  | .nil => 1
  | .ptr d => uptoBulk d + 1
  | .slice elems spare => uptoBulkAll elems + uptoBulkAll spare + 1
  | .agg parts => uptoBulkAll parts + 1
  | .iface _ d => uptoBulk d + 1
  | .map entries => uptoBulkEntries entries + 1
  | .held _ => 1
def uptoBulkAll {H : Type} : List (DataW H) → Nat
  | [] => 0
  | d :: r => uptoBulk d + uptoBulkAll r
def uptoBulkEntries {H : Type} : List (Lit × DataW H) → Nat
  | [] => 0
  | x :: r => uptoBulkEntry x + uptoBulkEntries r
def uptoBulkEntry {H : Type} : Lit × DataW H → Nat
  | (.string bytes, d) => bytes.length + uptoBulk d + 1
  | (_, d) => uptoBulk d + 1
 end
def uptoSmall : (H : Type) → List (DataW H) → Bool := fun _ ds => decide (uptoBulkAll ds ≤ 1048576)
def OpenSpec.upto (s : _root_.Go.ChangeSpec) : _root_.Go.OpenSpec := { _root_.Go.OpenSpec.ofChange s with cond := some uptoSmall }

/-- 'geminationlaw11.RuleDecides', WHERE WHAT IT READS IS OF BULK AT MOST 1048576: true; the input reads as it did. -/
def ruleDecidesUptoRow : OpenClaim := { program := "ytlmhcmlbnbgaaaa", sum := "7df6b0d7f9477fdce03df538335c82f5e0c87eb7da15bce4d6c3da6f2491dc8f", func := "gemination/geminationlaw11.RuleDecides", spec := "ruleDecides", unfollowed := true, recurses := true, apart := false, narrowed := true }
def RuleDecidesUptoSaid : Prop := ruleDecidesUptoRow.holds Try.pinned (OpenSpec.upto ruleDecidesSpec)

/-- 'geminationlaw11.RuleTells', WHERE WHAT IT READS IS OF BULK AT MOST 1048576: true; the input reads as it did. -/
def ruleTellsUptoRow : OpenClaim := { program := "ytlmhcmlbnbgaaaa", sum := "7df6b0d7f9477fdce03df538335c82f5e0c87eb7da15bce4d6c3da6f2491dc8f", func := "gemination/geminationlaw11.RuleTells", spec := "ruleTells", unfollowed := true, recurses := true, apart := false, narrowed := true }
def RuleTellsUptoSaid : Prop := ruleTellsUptoRow.holds Try.pinned (OpenSpec.upto ruleTellsSpec)

/-- 'geminationlaw11.RuleTurns', WHERE WHAT IT READS IS OF BULK AT MOST 1048576: true; the input reads as it did. -/
def ruleTurnsUptoRow : OpenClaim := { program := "ytlmhcmlbnbgaaaa", sum := "7df6b0d7f9477fdce03df538335c82f5e0c87eb7da15bce4d6c3da6f2491dc8f", func := "gemination/geminationlaw11.RuleTurns", spec := "ruleTurns", unfollowed := true, recurses := true, apart := false, narrowed := true }
def RuleTurnsUptoSaid : Prop := ruleTurnsUptoRow.holds Try.pinned (OpenSpec.upto ruleTurnsSpec)

/-- 'geminationlaw11.RuleSafe', WHERE WHAT IT READS IS OF BULK AT MOST 1048576: true; the input reads as it did. -/
def ruleSafeUptoRow : OpenClaim := { program := "ytlmhcmlbnbgaaaa", sum := "7df6b0d7f9477fdce03df538335c82f5e0c87eb7da15bce4d6c3da6f2491dc8f", func := "gemination/geminationlaw11.RuleSafe", spec := "ruleSafe", unfollowed := true, recurses := true, apart := false, narrowed := true }
def RuleSafeUptoSaid : Prop := ruleSafeUptoRow.holds Try.pinned (OpenSpec.upto ruleSafeSpec)

/-- 'geminationlaw11.RuleOnes', WHERE WHAT IT READS IS OF BULK AT MOST 1048576: true; the input reads as it did. -/
def ruleOnesUptoRow : OpenClaim := { program := "ytlmhcmlbnbgaaaa", sum := "7df6b0d7f9477fdce03df538335c82f5e0c87eb7da15bce4d6c3da6f2491dc8f", func := "gemination/geminationlaw11.RuleOnes", spec := "ruleOnes", unfollowed := true, recurses := true, apart := false, narrowed := true }
def RuleOnesUptoSaid : Prop := ruleOnesUptoRow.holds Try.pinned (OpenSpec.upto ruleOnesSpec)

/-- 'geminationlaw11.RuleHalf', WHERE WHAT IT READS IS OF BULK AT MOST 1048576: true; the input reads as it did. -/
def ruleHalfUptoRow : OpenClaim := { program := "ytlmhcmlbnbgaaaa", sum := "7df6b0d7f9477fdce03df538335c82f5e0c87eb7da15bce4d6c3da6f2491dc8f", func := "gemination/geminationlaw11.RuleHalf", spec := "ruleHalf", unfollowed := true, recurses := true, apart := false, narrowed := true }
def RuleHalfUptoSaid : Prop := ruleHalfUptoRow.holds Try.pinned (OpenSpec.upto ruleHalfSpec)

end Rows
end Go.Proofs.Ytlmhcmlbnbgaaaa
