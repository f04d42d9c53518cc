/-
  A part of the proofs over this seat: what its functions make of data (the file in which the theorems stand says what is proved).
-/
import Derived.Test.YtplmfdbiinjccaaDoorDmX
import Derived.Test.YtplmfdbiinjccaaDoorProg
import Derived.KernelRfl
namespace Go.Dm
open Go
noncomputable abbrev PP := Proofs.Tryd.prog
def tab : List Int := [0, 1, 28, 2, 29, 14, 24, 3, 30, 22, 20, 15, 25, 17, 4, 8, 31, 27, 13, 23, 21, 19, 16, 7, 26, 12, 18, 6, 11, 5, 10, 9]
def GL : Nat → Option (List C) := fun g => if g = 0 then some (tab.map by8) else none
def XX : Tab := fun _ => none
def HH : FuncId → Nat → LoopHint
  | 5, 6 => { forget := [2, 3, 4, 8, 9, 10, 11, 12, 13, 14, 15, 16, 17, 18, 19, 20, 21, 22, 23, 24, 25, 26, 27, 28, 29, 30, 31, 32, 33, 34, 35, 36, 37, 38, 39, 40, 41, 42, 43, 44, 45, 46, 47, 48, 49, 50, 51, 52, 53, 54, 55, 56, 57, 58, 59, 60, 61, 62, 63, 64, 65, 66, 67, 68, 69, 70, 71, 72, 73, 74, 75, 76, 77, 78, 79, 80, 81, 82, 83, 84, 85, 86, 87, 88, 89] }
  | 8, 2 => { forget := [2, 3, 4, 5, 7, 8, 9, 10, 11, 12, 13, 14, 15, 16, 17, 18, 19] }
  | 12, 4 => { forget := [1, 2, 3, 4, 6, 7, 8, 9, 10, 11, 12, 13, 14, 15, 16, 17, 18, 19] }
  | 14, 5 => { forget := [1, 2, 5, 6, 7, 8, 9, 10, 11, 12, 13, 14, 15, 16, 17, 18, 19, 20] }
  | 17, 4 => { forget := [2, 3, 4, 6, 7, 8, 9, 10, 11, 12, 13, 14, 15, 16, 17, 18, 19, 20, 21, 22, 23, 24, 25] }
  | 18, 1 => { forget := [1, 3, 4, 5, 6, 7, 8, 9, 10, 11, 12, 13, 14], tags := [(2, 1)] }
  | 19, 3 => { forget := [1, 2, 5, 6, 7, 8, 9, 10, 11, 12, 13, 14, 15, 16], tags := [(3, 1)] }
  | 21, 2 => { forget := [2, 3, 4, 6, 7, 8, 9, 10, 11, 12, 13, 14, 15, 16, 17, 18, 19, 20, 21, 22, 23, 24, 25, 26, 27, 28, 29, 30, 31, 32, 33, 34, 35, 36, 37, 38, 39, 40] }
  | 23, 2 => { forget := [2, 3, 4, 6, 7, 8, 9, 10, 11, 12, 13, 14, 15, 16, 17, 18, 19, 20, 21, 22, 23, 24, 25] }
  | 24, 2 => { forget := [0, 1, 3, 4, 8, 9, 10, 11, 12, 13, 14, 15] }
  | 25, 3 => { forget := [1, 2, 5, 6, 7, 8, 9, 10, 11, 12, 13, 14, 15, 16, 17, 18] }
  | 28, 3 => { forget := [1, 2, 5, 6, 7, 8, 9, 10, 11, 12] }
  | 30, 2 => { forget := [0, 1, 3, 4, 8, 9, 10, 11, 12, 13, 14, 15, 16, 17, 18] }
  | _, _ => {}
def NN : Nat := 18446744073709551616
noncomputable abbrev EE (k : Nat) : Env := ⟨PP, orac PP GL XX HH NN k, GL⟩
theorem glob : PP.globalNamed "math/bits.deBruijn32tab" = some 0 := by kernel_rfl
end Go.Dm
