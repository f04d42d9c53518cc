/-
  A part of the proofs over this seat: what its functions make of data (the file in which the theorems stand says what is proved).
-/
import Derived.Test.YtigkecdnnkgghaaDmX
import Derived.Test.YtigkecdnnkgghaaProg
import Derived.KernelRfl
namespace Go.Dm
open Go
noncomputable abbrev PP := Proofs.Try.prog
def GL : Nat → Option (List C) := fun _ => none
/-- a mint: its generation, its parent, its node -/
structure Mi where
  g : Int
  p : Int
  n : Int
  deriving Inhabited, DecidableEq
abbrev Mi.cs (m : Mi) : List C := [u m.g, u m.p, ii m.n]
abbrev mints (l : List Mi) : List (List C) := l.map Mi.cs
def miOf : List C → Option Mi
  | [.raw (.int .u64 g), .raw (.int .u64 p), .raw (.int .i64 n)] => some ⟨g, p, n⟩
  | _ => none
/-- a map's entry, laid -/
def upd (g p : Int) : List (Int × Int) → List (Int × Int)
  | [] => [(g, p)]
  | (a, b) :: r => if g == a then (a, p) :: r else (a, b) :: upd g p r
def par (l : List Mi) : List (Int × Int) := l.foldr (fun x m => upd x.g x.p m) []
abbrev encM (m : List (Int × Int)) : List (Value × Value) := m.map fun x => (.int .u64 x.1, .int .u64 x.2)
def parTab (xs : List A) (ims : List (List C)) : Option (List Res × List (List C)) :=
  match xs, ims with
  | [.c (.slice sz es)], [] => if (sz = 3 ∨ es = []) ∧ es.length ≤ 1000000 then (es.mapM miOf).map fun l => ([.c (.map (encM (par l)))], []) else none
  | _, _ => none
def XX : Tab := fun f => if f = 18 then some parTab else none
def HH : FuncId → Nat → LoopHint
  | 3, 8 => { forget := [1, 2, 3, 4, 5, 6, 10, 11, 12, 13, 14, 15, 16, 17, 18, 19, 20, 21, 22, 23, 24, 25, 26, 27, 28, 29, 30, 31, 32, 33, 34, 35, 36, 37, 38, 39, 40, 41, 42, 43, 44, 45, 46, 47, 48, 49, 50, 51, 52, 53, 54, 55, 56, 57, 58, 59, 60, 61, 62, 63, 64, 65, 66, 67, 68, 69, 70, 71, 72, 73, 74, 75, 76, 77, 78, 79, 80, 81, 82, 83] }
  | 5, 6 => { forget := [1, 3, 5, 6, 8, 9, 10, 11, 12, 13, 14, 15, 16, 17, 18, 19, 20, 21, 22, 23, 24, 25, 26, 27, 28, 29, 30, 31, 32, 33, 34, 35, 36, 37, 38, 39, 40, 41, 42, 43, 44, 45, 46, 47, 48, 49, 50, 51, 52, 53, 54, 55, 56, 57, 58, 59, 60, 61, 62, 63, 64, 65, 66, 67, 68, 69, 70, 71, 72, 73, 74, 75, 76, 77, 78, 79, 80, 81, 82, 83, 84, 85, 86, 87, 88] }
  | 8, 2 => { forget := [1, 2, 4, 5, 6, 7, 8, 9, 10, 11, 12, 13, 14, 15, 16, 17, 18, 19, 20, 21, 22, 23, 24, 25, 26, 27, 28, 29, 30, 31, 32] }
  | 8, 7 => { forget := [1, 2, 5, 6, 7, 8, 9, 10, 11, 12, 13, 14, 15, 16, 17, 18, 19, 20, 21, 22, 23, 24, 25, 26, 27, 28, 29, 30, 31, 32] }
  | 9, 4 => { forget := [2, 3, 4, 6, 7, 8, 9, 10, 11, 12, 13, 14, 15, 16, 17, 18, 19, 20, 21, 22, 23, 24, 25] }
  | 10, 2 => { forget := [0, 2, 3, 6, 7, 8, 9, 10, 11, 12, 13, 14, 15, 16, 17, 18, 19, 20, 21, 22, 23], tags := [(4, 1)] }
  | 11, 2 => { forget := [2, 3, 4, 6, 7, 8, 9, 10, 11, 12, 13, 14, 15, 16, 17, 18, 19, 20, 21], tags := [(5, 1)] }
  | 16, 3 => { forget := [0, 1, 2, 3, 4, 5, 6, 8, 9, 10, 11, 12, 13, 14, 18, 19, 20, 21, 22, 23, 24, 25] }
  | 17, 3 => { forget := [0, 1, 2, 3, 4, 5, 6, 10, 11, 12, 13, 14, 15, 16, 17, 18, 19, 20, 21, 22, 23, 24, 25, 26, 27, 28, 29, 30, 31] }
  | 20, 2 => { forget := [2, 3, 4, 6, 7, 8, 9, 10, 11, 12, 13, 14, 15, 16, 17] }
  | 21, 2 => { forget := [2, 3, 4, 6, 7, 8, 9, 10, 11, 12, 13, 14, 15, 16, 17, 18, 19, 20, 21, 22, 23] }
  | 23, 2 => { forget := [2, 3, 4, 5, 6, 9, 10, 11, 12, 13, 14, 15, 16, 17, 18] }
  | 24, 1 => { forget := [2, 4, 5, 6, 7, 8, 9, 10, 11, 12, 13, 14, 15, 16, 17, 18] }
  | _, _ => {}
def NN : Nat := 18446744073709551616
noncomputable abbrev EE (k : Nat) : Env := ⟨PP, orac PP GL XX HH NN k, GL⟩
end Go.Dm
