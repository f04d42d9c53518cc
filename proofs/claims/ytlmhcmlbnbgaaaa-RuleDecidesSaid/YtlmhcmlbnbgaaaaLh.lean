/-
  A part of the proofs over this seat: what its functions make of data (the file in which the theorems stand says what is proved).
-/
import Derived.Test.YtlmhcmlbnbgaaaaDmX
import Derived.Test.YtlmhcmlbnbgaaaaProg
import Derived.KernelRfl
namespace Go.Dm
open Go
noncomputable abbrev PP := Proofs.Try.prog
def GL : Nat → Option (List C) := fun _ => none
def HH : FuncId → Nat → LoopHint
  | 46, 3 => { forget := List.range' 5 8 }
  | 20, 4 => { forget := List.range' 6 14 }
  | 34, 5 => { forget := List.range' 5 16 }
  | 44, 2 => { forget := [2, 3, 4, 6, 7, 8, 9, 10, 11, 12, 13, 14, 15, 16, 17, 18, 19, 20, 21, 22, 23, 24, 25, 26, 27, 28, 29, 30, 31, 32, 33, 34, 35, 36, 37, 38, 39, 40] }
  | 45, 3 => { forget := [1, 2, 5, 6, 7, 8, 9, 10, 11, 12, 13, 14, 15, 16], tags := [(3, 1)] }
  | _, _ => {}
def NN : Nat := 18446744073709551616
noncomputable abbrev EE (k : Nat) : Env := ⟨PP, orac PP GL HH NN k, GL⟩
abbrev hello (B c b o q : Int) (i w d p : Bool) (m : Int) : List C := [ii B, u c, u b, u o, u q, bo i, bo w, bo d, bo p, w4 m]
abbrev pairOf (B c b o q : Int) (i w d p : Bool) (m : Int) (B' c' b' o' q' : Int) (i' w' d' p' : Bool) (m' : Int) (s : Int) : List C := [ii B, u c, u b, u o, u q, bo i, bo w, bo d, bo p, w4 m, ii B', u c', u b', u o', u q', bo i', bo w', bo d', bo p', w4 m', ii s]
end Go.Dm
