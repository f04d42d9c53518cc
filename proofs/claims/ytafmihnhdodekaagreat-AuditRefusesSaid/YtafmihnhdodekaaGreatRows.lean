/-
  No cell of these rows narrows 'for every input' (looked for: loops, veiled, ifaces, maps, wideKeys, modest, calm, conditions, laid).
  DERIVED. THE GIVEN ROWS OF THIS SEAT. 4 by the template 'for every input the law returns true; each argument reads behind the call as it read before'; 0 by the template 'total and deterministic' (their statements: YtafmihnhdodekaaGreatTotals.lean).
  GIVEN WITH THE SEED: the statements are not yours to turn. If you find one false, say at which input.
  Laid BY PROGRAM, IN A SANDBOX (cutbox-rows.mjs): the forced cells as the released guide's own fill.sh prints them over the translation 34ce563004272b51… (all of the seat's roots in one cut). By AI agents, Wed Nov 11 2026. No macro, syntax, notation, axiom, sorry.
-/
import Derived.Test.YtafmihnhdodekaaGreatChecked
import GoSem.Claim
import GoSem.ClaimJoined
import GoSem.ClaimMapViews
import Derived.JoinedTies
import Derived.KernelRfl
namespace Go.Proofs.YtafmihnhdodekaaGreat
/- THE CELL 'sum', in the pinned program and in every row, IS THE sha256 OF THE DUMP (.gsa) THAT YtafmihnhdodekaaGreatProg.lean LOADS. Nothing in Lean hashes anything: it is a label: what it is worth is what the hold of that sum in a sandbox is worth. -/
noncomputable def Tryz.pinned : Pinned := { name := "ytafmihnhdodekaagreat", sum := "34ce563004272b5136188ecb128028d9d119ac3561e328243b26b5c241226285", checked := Tryz.checked }
namespace Rows
def none {H : Type} : Left H := { results := [], args := [] }

/-- 'geminationlaw24.AuditTells': WHATEVER THE INPUT: true; the input reads as it did. -/
def auditTellsSpec : ChangeSpec := { name := "auditTells", fn := fun _ => fun
  | [d1, d2, d3] => { results := [.lit (.bool true)], args := [d1, d2, d3] }
  | _ => none }
def auditTellsRow : OpenClaim := { program := "ytafmihnhdodekaagreat", sum := "34ce563004272b5136188ecb128028d9d119ac3561e328243b26b5c241226285", func := "gemination/geminationlaw24.AuditTells", spec := "auditTells", unfollowed := true, recurses := true, apart := false }
def AuditTellsSaid : Prop := auditTellsRow.holds Tryz.pinned (OpenSpec.ofChange auditTellsSpec)

/-- ITS FALSE NEIGHBOUR: 'it returns false'. Refute it at one input. -/
def auditTellsWrong : ChangeSpec := { name := "auditTells", fn := fun _ => fun
  | [d1, d2, d3] => { results := [.lit (.bool false)], args := [d1, d2, d3] }
  | _ => none }
def AuditTellsWrongFalsely : Prop := auditTellsRow.holds Tryz.pinned (OpenSpec.ofChange auditTellsWrong)

/-- 'geminationlaw24.AuditFair': WHATEVER THE INPUT: true; the input reads as it did. -/
def auditFairSpec : ChangeSpec := { name := "auditFair", fn := fun _ => fun
  | [d1, d2] => { results := [.lit (.bool true)], args := [d1, d2] }
  | _ => none }
def auditFairRow : OpenClaim := { program := "ytafmihnhdodekaagreat", sum := "34ce563004272b5136188ecb128028d9d119ac3561e328243b26b5c241226285", func := "gemination/geminationlaw24.AuditFair", spec := "auditFair", unfollowed := true, recurses := true, apart := false }
def AuditFairSaid : Prop := auditFairRow.holds Tryz.pinned (OpenSpec.ofChange auditFairSpec)

/-- ITS FALSE NEIGHBOUR: 'it returns false'. Refute it at one input. -/
def auditFairWrong : ChangeSpec := { name := "auditFair", fn := fun _ => fun
  | [d1, d2] => { results := [.lit (.bool false)], args := [d1, d2] }
  | _ => none }
def AuditFairWrongFalsely : Prop := auditFairRow.holds Tryz.pinned (OpenSpec.ofChange auditFairWrong)

/-- 'geminationlaw24.AuditRefuses': WHATEVER THE INPUT: true; the input reads as it did. -/
def auditRefusesSpec : ChangeSpec := { name := "auditRefuses", fn := fun _ => fun
  | [d1, d2] => { results := [.lit (.bool true)], args := [d1, d2] }
  | _ => none }
def auditRefusesRow : OpenClaim := { program := "ytafmihnhdodekaagreat", sum := "34ce563004272b5136188ecb128028d9d119ac3561e328243b26b5c241226285", func := "gemination/geminationlaw24.AuditRefuses", spec := "auditRefuses", unfollowed := true, recurses := true, apart := false }
def AuditRefusesSaid : Prop := auditRefusesRow.holds Tryz.pinned (OpenSpec.ofChange auditRefusesSpec)

/-- ITS FALSE NEIGHBOUR: 'it returns false'. Refute it at one input. -/
def auditRefusesWrong : ChangeSpec := { name := "auditRefuses", fn := fun _ => fun
  | [d1, d2] => { results := [.lit (.bool false)], args := [d1, d2] }
  | _ => none }
def AuditRefusesWrongFalsely : Prop := auditRefusesRow.holds Tryz.pinned (OpenSpec.ofChange auditRefusesWrong)

/-- 'geminationlaw24.AuditLines': WHATEVER THE INPUT: true; the input reads as it did. -/
def auditLinesSpec : ChangeSpec := { name := "auditLines", fn := fun _ => fun
  | [d1, d2] => { results := [.lit (.bool true)], args := [d1, d2] }
  | _ => none }
def auditLinesRow : OpenClaim := { program := "ytafmihnhdodekaagreat", sum := "34ce563004272b5136188ecb128028d9d119ac3561e328243b26b5c241226285", func := "gemination/geminationlaw24.AuditLines", spec := "auditLines", unfollowed := true, recurses := true, apart := false }
def AuditLinesSaid : Prop := auditLinesRow.holds Tryz.pinned (OpenSpec.ofChange auditLinesSpec)

/-- ITS FALSE NEIGHBOUR: 'it returns false'. Refute it at one input. -/
def auditLinesWrong : ChangeSpec := { name := "auditLines", fn := fun _ => fun
  | [d1, d2] => { results := [.lit (.bool false)], args := [d1, d2] }
  | _ => none }
def AuditLinesWrongFalsely : Prop := auditLinesRow.holds Tryz.pinned (OpenSpec.ofChange auditLinesWrong)

/- THE SECOND FORM. 'bulk': how many values and letters a reading holds, each counted each time it is reached (what is shared counts as often as it is met; a slice's spare places count too). A statement '..UptoSaid' is the law's where the arguments, and the package variables that the reading takes, are together of bulk at most 1048576: NARROWER than '..Said'. Prove '..Said' where nothing that the law and all that it calls make is longer than what came in: it says more and counts as full. Else prove '..UptoSaid'. A law counts once. -/
mutual
def uptoBulk {H : Type} : DataW H → Nat
  | .lit (.string bytes) => bytes.length + 1
  | .lit _ => 1
  | .nil => 1
  | .ptr d => uptoBulk d + 1
  | .slice elems spare => uptoBulkAll elems + uptoBulkAll spare + 1
  | .agg parts => uptoBulkAll parts + 1
  | .iface _ d => uptoBulk d + 1
  | .map entries => uptoBulkEntries entries + 1
  | .held _ => 1
def uptoBulkAll {H : Type} : List (DataW H) → Nat
  | [] => 0
  | d :: r => uptoBulk d + uptoBulkAll r
def uptoBulkEntries {H : Type} : List (Lit × DataW H) → Nat
  | [] => 0
  | x :: r => uptoBulkEntry x + uptoBulkEntries r
def uptoBulkEntry {H : Type} : Lit × DataW H → Nat
  | (.string bytes, d) => bytes.length + uptoBulk d + 1
  | (_, d) => uptoBulk d + 1
 end
def uptoSmall : (H : Type) → List (DataW H) → Bool := fun _ ds => decide (uptoBulkAll ds ≤ 1048576)
def OpenSpec.upto (s : _root_.Go.ChangeSpec) : _root_.Go.OpenSpec := { _root_.Go.OpenSpec.ofChange s with cond := some uptoSmall }

/-- 'geminationlaw24.AuditTells', WHERE WHAT IT READS IS OF BULK AT MOST 1048576: true; the input reads as it did. -/
def auditTellsUptoRow : OpenClaim := { program := "ytafmihnhdodekaagreat", sum := "34ce563004272b5136188ecb128028d9d119ac3561e328243b26b5c241226285", func := "gemination/geminationlaw24.AuditTells", spec := "auditTells", unfollowed := true, recurses := true, apart := false, narrowed := true }
def AuditTellsUptoSaid : Prop := auditTellsUptoRow.holds Tryz.pinned (OpenSpec.upto auditTellsSpec)

/-- 'geminationlaw24.AuditFair', WHERE WHAT IT READS IS OF BULK AT MOST 1048576: true; the input reads as it did. -/
def auditFairUptoRow : OpenClaim := { program := "ytafmihnhdodekaagreat", sum := "34ce563004272b5136188ecb128028d9d119ac3561e328243b26b5c241226285", func := "gemination/geminationlaw24.AuditFair", spec := "auditFair", unfollowed := true, recurses := true, apart := false, narrowed := true }
def AuditFairUptoSaid : Prop := auditFairUptoRow.holds Tryz.pinned (OpenSpec.upto auditFairSpec)

/-- 'geminationlaw24.AuditRefuses', WHERE WHAT IT READS IS OF BULK AT MOST 1048576: true; the input reads as it did. -/
def auditRefusesUptoRow : OpenClaim := { program := "ytafmihnhdodekaagreat", sum := "34ce563004272b5136188ecb128028d9d119ac3561e328243b26b5c241226285", func := "gemination/geminationlaw24.AuditRefuses", spec := "auditRefuses", unfollowed := true, recurses := true, apart := false, narrowed := true }
def AuditRefusesUptoSaid : Prop := auditRefusesUptoRow.holds Tryz.pinned (OpenSpec.upto auditRefusesSpec)

/-- 'geminationlaw24.AuditLines', WHERE WHAT IT READS IS OF BULK AT MOST 1048576: true; the input reads as it did. -/
def auditLinesUptoRow : OpenClaim := { program := "ytafmihnhdodekaagreat", sum := "34ce563004272b5136188ecb128028d9d119ac3561e328243b26b5c241226285", func := "gemination/geminationlaw24.AuditLines", spec := "auditLines", unfollowed := true, recurses := true, apart := false, narrowed := true }
def AuditLinesUptoSaid : Prop := auditLinesUptoRow.holds Tryz.pinned (OpenSpec.upto auditLinesSpec)

end Rows
end Go.Proofs.YtafmihnhdodekaaGreat
