/-
  A part of the proofs over this seat: what its functions make of data (the file in which the theorems stand says what is proved).
-/
import Derived.Test.YtpbljfeahhojaaaDmX
import Derived.Test.YtpbljfeahhojaaaProg
import Derived.KernelRfl
namespace Go.Dm
open Go
noncomputable abbrev PP := Proofs.Try.prog
def GL : Nat → Option (List C) := fun _ => none
def HH : FuncId → Nat → LoopHint
  | 24, 2 => { forget := [5, 9, 10, 11, 12, 13, 14, 15, 16, 17, 18] }
  | 19, 2 => { forget := List.range' 6 13 }
  | 4, 7 => { forget := List.range' 7 35 }
  | _, _ => {}
def NN : Nat := 18446744073709551616
noncomputable abbrev EE (k : Nat) : Env := ⟨PP, orac PP GL HH NN k, GL⟩
abbrev us (l : List Int) : List (List C) := l.map fun x => [u x]
theorem us_get {l : List Int} {i : Nat} {x : Int} (h : l[i]? = some x) : (us l)[i]? = some [u x] := by simp [us, h]
theorem us_len (l : List Int) : (us l).length = l.length := by simp [us]
end Go.Dm
