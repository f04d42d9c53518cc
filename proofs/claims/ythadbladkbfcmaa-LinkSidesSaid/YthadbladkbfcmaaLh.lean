/-
  A part of the proofs over this seat: what its functions make of data (the file in which the theorems stand says what is proved).
-/
import Derived.Test.YthadbladkbfcmaaDmX
import Derived.Test.YthadbladkbfcmaaProg
import Derived.KernelRfl
set_option linter.unusedSimpArgs false
set_option linter.unusedVariables false
namespace Go.Dm
open Go
noncomputable abbrev PP := Proofs.Try.prog
def GL : Nat → Option (List C) := fun _ => none
/-- a link: up, its session, what is under way to each side -/
structure Lk where
  up : Bool
  ses : Int
  to0 : List ByteArray
  to1 : List ByteArray
  deriving Inhabited
abbrev Lk.cs (l : Lk) : List C := [bo l.up, u l.ses, .slice 1 (strs l.to0), .slice 1 (strs l.to1)]
def growTab (xs : List A) (ims : List (List C)) : Option (List Res × List (List C)) :=
  match xs, ims with
  | [.nil, .c (.raw (.int .i64 n))], [] => if 0 ≤ n ∧ n ≤ 1000000 then some ([.top 1 []], []) else none
  | _, _ => none
def cloneTab (sz : Nat) (xs : List A) (ims : List (List C)) : Option (List Res × List (List C)) :=
  match xs, ims with
  | [.c (.slice z es)], [] => if (z = sz ∨ es = []) ∧ es.length ≤ 1000000 then some ([.top sz es], []) else none
  | _, _ => none
def XX : Tab := fun f => match f with | 28 => some growTab | 21 => some (cloneTab 1) | _ => none
def HH : FuncId → Nat → LoopHint
  | 4, 12 => { forget := [0, 2, 3, 4, 5, 6, 10, 11, 12, 13, 14, 15, 16, 17, 18, 19, 20, 21, 22, 23, 24, 25, 26, 27, 28, 29, 30, 31, 32, 33, 34, 35, 36, 37, 38, 39, 40, 41, 42, 43, 44, 45, 46, 47, 48, 49, 50, 51, 52, 53, 54, 55, 56, 57, 58, 59, 60, 61, 62, 63, 64, 65, 66, 67, 68, 69, 70, 71, 72, 73, 74, 75, 76, 77, 78, 79, 80, 81, 82, 83, 84, 85, 86, 87, 88, 89, 90, 91, 92, 93, 94, 95, 96, 97, 98, 99, 100, 101, 102, 103, 104, 105, 106, 107, 108, 109, 110, 111, 112, 113] }
  | 4, 19 => { forget := [0, 2, 3, 4, 5, 6, 9, 10, 11, 13, 14, 15, 16, 17, 18, 19, 20, 21, 22, 23, 24, 25, 26, 27, 28, 29, 30, 31, 32, 33, 34, 35, 36, 37, 38, 39, 40, 41, 42, 43, 44, 45, 46, 47, 48, 49, 50, 51, 52, 53, 54, 55, 56, 57, 58, 59, 60, 61, 62, 63, 64, 65, 66, 67, 68, 69, 70, 71, 72, 73, 74, 75, 76, 77, 78, 79, 80, 81, 82, 83, 84, 85, 86, 87, 88, 89, 90, 91, 92, 93, 94, 95, 96, 97, 98, 99, 100, 101, 102, 103, 104, 105, 106, 107, 108, 109, 110, 111, 112, 113] }
  | 5, 13 => { forget := [0, 1, 2, 4, 5, 6, 11, 13, 16, 17, 18, 19, 20, 21, 22, 23, 24, 25, 26, 27, 28, 29, 30, 31, 32, 33, 34, 35, 36, 37, 38, 39, 40, 41, 42, 43, 44, 45, 46, 47, 48, 49, 50, 51, 52, 53, 54, 55, 56, 57, 58, 59, 60, 61, 62, 63, 64, 65, 66, 67, 68, 69, 70, 71, 72, 73, 74, 75, 76, 77, 78, 79, 80, 81, 82, 83, 84, 85, 86, 87, 88, 89, 90, 91, 92, 93, 94, 95, 96, 97, 98, 99, 100, 101, 102, 103, 104, 105, 106, 107, 108, 109, 110, 111, 112, 113, 114, 115, 116, 117, 118, 119, 120, 121, 122, 123, 124, 125] }
  | 22, 3 => { forget := [1, 2, 4, 5, 6, 7, 8, 12, 13, 14, 15, 16, 17, 18, 19, 20, 21, 22, 23, 24, 25, 26, 27, 28, 29, 30, 31, 32, 33, 34, 35] }
  | 22, 11 => { tags := [(6, 1)], forget := [0, 1, 2, 3, 4, 5, 7, 8, 9, 10, 11, 12, 13, 14, 15, 16, 17, 18, 19, 20, 21, 22, 23, 24, 28, 29, 30, 31, 32, 33, 34, 35] }
  | 23, 4 => { forget := [2, 3, 4, 6, 7, 8, 9, 10, 11, 12, 13, 14, 15, 16, 17, 18, 19, 20, 21, 22, 23, 24, 25] }
  | 26, 4 => { forget := [0, 3, 4, 5, 6, 7, 8, 9, 10, 11, 12, 13, 14, 18, 19, 20, 21, 22, 23, 24, 25, 26, 27, 28, 29, 30, 31] }
  | 27, 4 => { forget := [2, 3, 4, 5, 6, 7, 8, 9, 10, 11, 14, 15, 16, 17, 18, 19, 20, 21, 22, 23, 24, 25] }
  | _, _ => {}
def NN : Nat := 18446744073709551616
noncomputable abbrev EE (k : Nat) : Env := ⟨PP, orac PP GL XX HH NN k, GL⟩
end Go.Dm
