/-
  A part of the proofs over this seat: its functions, one by one (the file in which the theorems stand says what is proved).
-/
import Derived.KernelRfl
import Derived.Test.YtafmihnhdodekaaGreatProg
import Derived.Test.YtafmihnhdodekaaGreatLiM0
set_option linter.unusedSimpArgs false
set_option linter.unusedVariables false
set_option maxRecDepth 100000
set_option maxHeartbeats 4000000
namespace Go.Dm
open Go
noncomputable abbrev PP := Proofs.Tryz.prog
def GL : Nat → Option (List C) := fun _ => none
def XX : Tab := fun f => match f with | 53 => some r6 | 50 => some (oF 3) | _ => none
def HH : FuncId → Nat → LoopHint
  | 4, 7 => { forget := [0, 2, 3, 4, 7, 8, 9, 10, 11, 12, 13, 14, 15, 16, 17, 18, 19, 20, 21, 22, 23, 24, 25, 26, 27, 28, 29, 30, 31, 32, 33, 34, 35, 36, 37, 38, 39] }
  | 6, 8 => { forget := [0, 1, 2, 3, 4, 8, 9, 10, 11, 12, 13, 14, 15, 16, 17, 18, 19, 20, 21, 22, 23, 24, 25, 26, 27, 28, 29, 30, 31, 32, 33, 34, 35, 36, 37, 38, 39, 40, 41, 42, 43, 44, 45, 46, 47, 48, 49, 50, 51, 52, 53, 54, 55, 56, 57, 58, 59, 60, 61, 62, 63, 64, 65, 66, 67, 68, 69, 70, 71, 72, 73, 74, 75, 76, 77, 78, 79, 80, 81, 82, 83, 84, 85, 86, 87, 88, 89] }
  | 6, 13 => { forget := [0, 1, 2, 3, 4, 6, 7, 9, 10, 11, 12, 13, 14, 15, 16, 17, 18, 19, 20, 21, 22, 23, 24, 25, 26, 27, 28, 29, 30, 31, 32, 33, 34, 35, 36, 37, 38, 39, 40, 41, 42, 43, 44, 45, 46, 47, 48, 49, 50, 51, 52, 53, 54, 55, 56, 57, 58, 59, 60, 61, 62, 63, 64, 65, 66, 67, 68, 69, 70, 71, 72, 73, 74, 75, 76, 77, 78, 79, 80, 81, 82, 83, 84, 85, 86, 87, 88, 89] }
  | 12, 4 => { forget := [2, 3, 4, 6, 7, 8, 9, 10, 11, 12, 13, 14, 15, 16, 17, 18, 19, 20, 21, 22, 23, 24, 25] }
  | 18, 3 => { forget := [0, 2, 3, 4, 5, 6, 9, 10, 11, 12, 13, 14, 15, 16, 17, 18, 19, 20, 21, 22, 23, 24, 25] }
  | 20, 2 => { forget := [0, 1, 4, 6, 7, 8, 9, 10, 11, 12, 13, 14, 15, 16, 17, 18, 19, 20, 21, 22, 23, 24] }
  | 28, 4 => { forget := [1, 2, 3, 4, 6, 7, 8, 9, 10, 11, 12, 13, 14, 15, 16, 17, 18, 19, 20, 21, 22, 23, 24, 25, 26, 27, 28, 29, 30, 31] }
  | 30, 3 => { tags := [(6, 5)], forget := [0, 3, 5, 8, 9, 10, 11, 12, 13, 14, 15, 16, 17, 18, 19, 20, 21, 22, 23, 24, 25, 26, 27, 28, 29, 30] }
  | 31, 3 => { forget := [1, 2, 4, 5, 6, 7, 8, 12, 13, 14, 15, 16, 17, 18, 19, 20, 21, 22, 23, 24, 25, 26, 27, 28, 29, 30, 31, 32, 33, 34, 35] }
  | 31, 11 => { tags := [(6, 3)], forget := [0, 1, 2, 3, 4, 5, 7, 8, 9, 10, 11, 12, 13, 14, 15, 16, 17, 18, 19, 20, 21, 22, 23, 24, 28, 29, 30, 31, 32, 33, 34, 35] }
  | 36, 2 => { forget := [2, 3, 4, 5, 6, 9, 10, 11, 12, 13, 14, 15, 16, 17, 18] }
  | 37, 2 => { tags := [(4, 1)], forget := [0, 2, 3, 6, 7, 8, 9, 10, 11, 12, 13, 14, 15, 16, 17, 18, 19, 20, 21, 22, 23] }
  | 38, 2 => { tags := [(5, 1)], forget := [2, 3, 4, 6, 7, 8, 9, 10, 11, 12, 13, 14, 15, 16, 17, 18, 19, 20, 21] }
  | 39, 2 => { forget := [2, 3, 4, 5, 6, 9, 10, 11, 12, 13, 14, 15, 16, 17, 18] }
  | 41, 2 => { forget := [1, 2, 4, 5, 6, 7, 8, 9, 10, 11, 12, 13, 14, 15, 16, 17, 18, 19, 20, 21, 22, 23, 24, 25, 26, 27, 28, 29, 30, 31, 32, 33, 34, 35, 36, 37, 38, 39, 40, 41, 42, 43, 44, 45, 46, 47, 48, 49, 50, 51, 52, 53, 54, 55] }
  | 41, 8 => { forget := [1, 2, 5, 6, 7, 8, 9, 10, 11, 12, 13, 14, 15, 16, 17, 18, 19, 20, 21, 22, 23, 24, 25, 26, 27, 28, 29, 30, 31, 32, 33, 34, 35, 36, 37, 38, 39, 40, 41, 42, 43, 44, 45, 46, 47, 48, 49, 50, 51, 52, 53, 54, 55] }
  | 46, 3 => { forget := [0, 2, 3, 4, 7, 8, 9, 10, 11, 12, 13, 14, 15, 16, 17, 18, 19, 20, 21, 22, 23, 24, 25, 26, 27, 28, 29, 30, 31] }
  | 49, 3 => { forget := [2, 3, 5, 8, 9, 10, 11, 12, 13, 14, 15, 16, 17, 18, 19, 20, 21, 22, 23, 24, 25, 26, 27, 28, 29, 30, 31, 32, 33, 34, 35] }
  | 52, 2 => { forget := [2, 3, 4, 6, 7, 8, 9, 10, 11, 12, 13, 14, 15, 16, 17] }
  | 54, 2 => { forget := [2, 3, 4, 6, 7, 8, 9, 10, 11, 12, 13, 14, 15, 16, 17, 18, 19, 20, 21, 22, 23] }
  | 61, 3 => { tags := [(1, 5)], forget := [0, 3, 5, 7, 8, 9, 10, 11, 12, 13, 14, 15, 16, 17, 18, 19, 20, 21, 22, 23, 24, 25, 26, 27, 28, 29, 30, 31, 32, 33, 34, 35, 36, 37, 38, 39, 40, 41, 42, 43, 44, 45] }
  | 69, 5 => { tags := [(10, 5)], forget := [0, 2, 5, 7, 9, 13, 14, 15, 16, 17, 18, 19, 20, 21, 22, 23, 24, 25, 26, 27, 28, 29, 30, 31, 32, 33, 34, 35, 36, 37, 38, 39, 40, 41, 42, 43, 44, 45, 46, 47, 48, 49, 50, 51, 52, 53, 54, 55, 56, 57, 58, 59, 60, 61, 62, 63, 64, 65, 66, 67, 68, 69, 70, 71, 72, 73, 74, 75, 76, 77, 78, 79, 80, 81, 82, 83, 84, 85, 86, 87, 88, 89, 90] }
  | 71, 6 => { vtags := [(1, 0, 1)], forget := [1, 2, 3, 5, 6, 7, 10, 11, 12, 13, 14, 15, 16, 17, 18, 19, 20, 21, 22, 23, 24, 25, 26, 27, 28, 29, 30, 31, 32, 33, 34, 35, 36, 37, 38] }
  | 96, 3 => { forget := [0, 3, 7, 8, 9, 10, 11, 12, 13, 14, 15, 16, 17, 18, 19, 20, 21, 22, 23, 24, 25, 26, 27, 28, 29, 30, 31, 32, 33, 34, 35, 36, 37, 38, 39, 40, 41, 42, 43] }
  | 104, 1 => { forget := [2, 4, 5, 6, 7, 8, 9, 10, 11, 12, 13, 14, 15, 16, 17, 18] }
  | 120, 3 => { tags := [(4, 1)], forget := [0, 2, 3, 6, 7, 8, 9, 10, 11, 12, 13, 14, 15, 16, 17, 18, 19, 20, 21, 22, 23, 24, 25, 26, 27, 28, 29] }
  | 129, 3 => { forget := [1, 2, 5, 6, 7, 8, 9, 10, 11, 12, 13, 14, 15, 16, 17, 18, 19, 20] }
  | 130, 3 => { forget := [2, 3, 4, 7, 8, 9, 10, 11, 12, 13, 14, 15, 16, 17, 18, 19, 20, 21] }
  | 135, 2 => { forget := [2, 3, 4, 6, 7, 8, 9, 10, 11, 12, 13, 14, 15, 16, 17, 18, 19, 20, 21, 22, 23, 24, 25, 26, 27, 28, 29, 30, 31, 32, 33, 34, 35, 36, 37, 38, 39, 40] }
  | 138, 3 => { forget := [1, 2, 5, 6, 7, 8, 9, 10, 11, 12, 13, 14, 15, 16, 17, 18] }
  | 139, 2 => { forget := [2, 3, 4, 5, 7, 8, 9, 10, 11, 12, 13, 14, 15, 16, 17, 18, 19] }
  | 144, 4 => { forget := [1, 2, 3, 4, 6, 7, 8, 9, 10, 11, 12, 13, 14, 15, 16, 17, 18, 19] }
  | 145, 5 => { forget := [2, 3, 4, 5, 8, 9, 10, 11, 12, 13, 14, 15, 16, 17, 18, 19, 20, 21, 22, 23, 24] }
  | 146, 5 => { tags := [(6, 1)], forget := [2, 3, 4, 5, 8, 9, 10, 11, 12, 13, 14, 15, 16, 17, 18, 19, 20, 21, 22, 23, 24, 25, 26, 27, 28, 29] }
  | 152, 3 => { forget := [1, 2, 6, 7, 8, 9, 10, 11, 12, 13, 14, 15, 16, 17, 18, 19, 20, 21, 22, 23, 24, 25] }
  | 154, 8 => { tags := [(4, 1)], forget := [0, 3, 6, 7, 8, 9, 10, 11, 12, 13, 14, 15, 16, 17, 18, 19, 20, 21, 22, 23, 24, 25, 26, 27, 28, 29, 30] }
  | 155, 3 => { forget := [0, 3, 4, 7, 8, 9, 10, 11, 12, 13, 14, 15, 16, 17, 18, 19, 20, 21, 22, 23, 24, 25, 26, 27, 28, 29, 30, 31, 32, 33] }
  | 158, 3 => { forget := [1, 2, 5, 6, 7, 8, 9, 10, 11, 12] }
  | 159, 5 => { forget := [1, 2, 5, 6, 7, 8, 9, 10, 11, 12, 13, 14, 15, 16, 17, 18, 19, 20] }
  | 160, 3 => { tags := [(3, 1)], forget := [1, 2, 5, 6, 7, 8, 9, 10, 11, 12, 13, 14, 15, 16] }
  | 161, 2 => { forget := [2, 3, 4, 6, 7, 8, 9, 10, 11, 12, 13, 14, 15, 16, 17, 18, 19, 20, 21, 22, 23, 24, 25] }
  | 1000001, 29 => { forget := [41] }
  | 1000001, 75 => { forget := [10] }
  | 1000001, 76 => { forget := [41] }
  | 61, 1000000 => { forget := [0] }
  | _, _ => {}
def NN : Nat := 18446744073709551616
noncomputable abbrev EE (k : Nat) : Env := ⟨PP, ak PP GL XX HH NN k, GL, zD HH, zu HH⟩
end Go.Dm
namespace Go.Dm
open Go
theorem EX (n : Int) (k : Nat) : ak PP GL XX HH NN (k + 1) 130 [A.c (u n), A.c (ii 8)] [] = some ([Res.c (st (dw n))], []) := by
  exact rt (aa tt <| aa (show (256 : Int) ≠ (0 : Int) from by decide) <| aa (rfl : some ([IntKind.wrap .u8 (Int.tmod n (256 : Int))]) = some ([IntKind.wrap .u8 (Int.tmod n (256 : Int))])) <| aa (show ByteArray.size (ck [IntKind.wrap .u8 (Int.tmod n (256 : Int))]) + ByteArray.size ⟨#[]⟩ ≤ 9223372036854775807 from by first | omega | (simp only [ByteArray.size_append, ax, aO, aU, List.size_toArray, aq, aA, aw, an, al, List.length_cons, List.length_nil] at *; omega)) <| aa (show (256 : Int) ≠ (0 : Int) from by decide) <| aa tt <| aa (show (256 : Int) ≠ (0 : Int) from by decide) <| aa (rfl : some ([IntKind.wrap .u8 (Int.tmod (IntKind.wrap .u64 (Int.tdiv n (256 : Int))) (256 : Int))]) = some ([IntKind.wrap .u8 (Int.tmod (IntKind.wrap .u64 (Int.tdiv n (256 : Int))) (256 : Int))])) <| aa (show ByteArray.size (ck [IntKind.wrap .u8 (Int.tmod (IntKind.wrap .u64 (Int.tdiv n (256 : Int))) (256 : Int))]) + ByteArray.size (ck [IntKind.wrap .u8 (Int.tmod n (256 : Int))] ++ ByteArray.mk #[]) ≤ 9223372036854775807 from by first | omega | (simp only [ByteArray.size_append, ax, aO, aU, List.size_toArray, aq, aA, aw, an, al, List.length_cons, List.length_nil] at *; omega)) <| aa (show (256 : Int) ≠ (0 : Int) from by decide) <| aa tt <| aa (show (256 : Int) ≠ (0 : Int) from by decide) <| aa (rfl : some ([IntKind.wrap .u8 (Int.tmod (IntKind.wrap .u64 (Int.tdiv (IntKind.wrap .u64 (Int.tdiv n (256 : Int))) (256 : Int))) (256 : Int))]) = some ([IntKind.wrap .u8 (Int.tmod (IntKind.wrap .u64 (Int.tdiv (IntKind.wrap .u64 (Int.tdiv n (256 : Int))) (256 : Int))) (256 : Int))])) <| aa (show ByteArray.size (ck [IntKind.wrap .u8 (Int.tmod (IntKind.wrap .u64 (Int.tdiv (IntKind.wrap .u64 (Int.tdiv n (256 : Int))) (256 : Int))) (256 : Int))]) + ByteArray.size (ck [IntKind.wrap .u8 (Int.tmod (IntKind.wrap .u64 (Int.tdiv n (256 : Int))) (256 : Int))] ++ (ck [IntKind.wrap .u8 (Int.tmod n (256 : Int))] ++ ByteArray.mk #[])) ≤ 9223372036854775807 from by first | omega | (simp only [ByteArray.size_append, ax, aO, aU, List.size_toArray, aq, aA, aw, an, al, List.length_cons, List.length_nil] at *; omega)) <| aa (show (256 : Int) ≠ (0 : Int) from by decide) <| aa tt <| aa (show (256 : Int) ≠ (0 : Int) from by decide) <| aa (rfl : some ([IntKind.wrap .u8 (Int.tmod (IntKind.wrap .u64 (Int.tdiv (IntKind.wrap .u64 (Int.tdiv (IntKind.wrap .u64 (Int.tdiv n (256 : Int))) (256 : Int))) (256 : Int))) (256 : Int))]) = some ([IntKind.wrap .u8 (Int.tmod (IntKind.wrap .u64 (Int.tdiv (IntKind.wrap .u64 (Int.tdiv (IntKind.wrap .u64 (Int.tdiv n (256 : Int))) (256 : Int))) (256 : Int))) (256 : Int))])) <| aa (show ByteArray.size (ck [IntKind.wrap .u8 (Int.tmod (IntKind.wrap .u64 (Int.tdiv (IntKind.wrap .u64 (Int.tdiv (IntKind.wrap .u64 (Int.tdiv n (256 : Int))) (256 : Int))) (256 : Int))) (256 : Int))]) + ByteArray.size (ck [IntKind.wrap .u8 (Int.tmod (IntKind.wrap .u64 (Int.tdiv (IntKind.wrap .u64 (Int.tdiv n (256 : Int))) (256 : Int))) (256 : Int))] ++ (ck [IntKind.wrap .u8 (Int.tmod (IntKind.wrap .u64 (Int.tdiv n (256 : Int))) (256 : Int))] ++ (ck [IntKind.wrap .u8 (Int.tmod n (256 : Int))] ++ ByteArray.mk #[]))) ≤ 9223372036854775807 from by first | omega | (simp only [ByteArray.size_append, ax, aO, aU, List.size_toArray, aq, aA, aw, an, al, List.length_cons, List.length_nil] at *; omega)) <| aa (show (256 : Int) ≠ (0 : Int) from by decide) <| aa tt <| aa (show (256 : Int) ≠ (0 : Int) from by decide) <| aa (rfl : some ([IntKind.wrap .u8 (Int.tmod (IntKind.wrap .u64 (Int.tdiv (IntKind.wrap .u64 (Int.tdiv (IntKind.wrap .u64 (Int.tdiv (IntKind.wrap .u64 (Int.tdiv n (256 : Int))) (256 : Int))) (256 : Int))) (256 : Int))) (256 : Int))]) = some ([IntKind.wrap .u8 (Int.tmod (IntKind.wrap .u64 (Int.tdiv (IntKind.wrap .u64 (Int.tdiv (IntKind.wrap .u64 (Int.tdiv (IntKind.wrap .u64 (Int.tdiv n (256 : Int))) (256 : Int))) (256 : Int))) (256 : Int))) (256 : Int))])) <| aa (show ByteArray.size (ck [IntKind.wrap .u8 (Int.tmod (IntKind.wrap .u64 (Int.tdiv (IntKind.wrap .u64 (Int.tdiv (IntKind.wrap .u64 (Int.tdiv (IntKind.wrap .u64 (Int.tdiv n (256 : Int))) (256 : Int))) (256 : Int))) (256 : Int))) (256 : Int))]) + ByteArray.size (ck [IntKind.wrap .u8 (Int.tmod (IntKind.wrap .u64 (Int.tdiv (IntKind.wrap .u64 (Int.tdiv (IntKind.wrap .u64 (Int.tdiv n (256 : Int))) (256 : Int))) (256 : Int))) (256 : Int))] ++ (ck [IntKind.wrap .u8 (Int.tmod (IntKind.wrap .u64 (Int.tdiv (IntKind.wrap .u64 (Int.tdiv n (256 : Int))) (256 : Int))) (256 : Int))] ++ (ck [IntKind.wrap .u8 (Int.tmod (IntKind.wrap .u64 (Int.tdiv n (256 : Int))) (256 : Int))] ++ (ck [IntKind.wrap .u8 (Int.tmod n (256 : Int))] ++ ByteArray.mk #[])))) ≤ 9223372036854775807 from by first | omega | (simp only [ByteArray.size_append, ax, aO, aU, List.size_toArray, aq, aA, aw, an, al, List.length_cons, List.length_nil] at *; omega)) <| aa (show (256 : Int) ≠ (0 : Int) from by decide) <| aa tt <| aa (show (256 : Int) ≠ (0 : Int) from by decide) <| aa (rfl : some ([IntKind.wrap .u8 (Int.tmod (IntKind.wrap .u64 (Int.tdiv (IntKind.wrap .u64 (Int.tdiv (IntKind.wrap .u64 (Int.tdiv (IntKind.wrap .u64 (Int.tdiv (IntKind.wrap .u64 (Int.tdiv n (256 : Int))) (256 : Int))) (256 : Int))) (256 : Int))) (256 : Int))) (256 : Int))]) = some ([IntKind.wrap .u8 (Int.tmod (IntKind.wrap .u64 (Int.tdiv (IntKind.wrap .u64 (Int.tdiv (IntKind.wrap .u64 (Int.tdiv (IntKind.wrap .u64 (Int.tdiv (IntKind.wrap .u64 (Int.tdiv n (256 : Int))) (256 : Int))) (256 : Int))) (256 : Int))) (256 : Int))) (256 : Int))])) <| aa (show ByteArray.size (ck [IntKind.wrap .u8 (Int.tmod (IntKind.wrap .u64 (Int.tdiv (IntKind.wrap .u64 (Int.tdiv (IntKind.wrap .u64 (Int.tdiv (IntKind.wrap .u64 (Int.tdiv (IntKind.wrap .u64 (Int.tdiv n (256 : Int))) (256 : Int))) (256 : Int))) (256 : Int))) (256 : Int))) (256 : Int))]) + ByteArray.size (ck [IntKind.wrap .u8 (Int.tmod (IntKind.wrap .u64 (Int.tdiv (IntKind.wrap .u64 (Int.tdiv (IntKind.wrap .u64 (Int.tdiv (IntKind.wrap .u64 (Int.tdiv n (256 : Int))) (256 : Int))) (256 : Int))) (256 : Int))) (256 : Int))] ++ (ck [IntKind.wrap .u8 (Int.tmod (IntKind.wrap .u64 (Int.tdiv (IntKind.wrap .u64 (Int.tdiv (IntKind.wrap .u64 (Int.tdiv n (256 : Int))) (256 : Int))) (256 : Int))) (256 : Int))] ++ (ck [IntKind.wrap .u8 (Int.tmod (IntKind.wrap .u64 (Int.tdiv (IntKind.wrap .u64 (Int.tdiv n (256 : Int))) (256 : Int))) (256 : Int))] ++ (ck [IntKind.wrap .u8 (Int.tmod (IntKind.wrap .u64 (Int.tdiv n (256 : Int))) (256 : Int))] ++ (ck [IntKind.wrap .u8 (Int.tmod n (256 : Int))] ++ ByteArray.mk #[]))))) ≤ 9223372036854775807 from by first | omega | (simp only [ByteArray.size_append, ax, aO, aU, List.size_toArray, aq, aA, aw, an, al, List.length_cons, List.length_nil] at *; omega)) <| aa (show (256 : Int) ≠ (0 : Int) from by decide) <| aa tt <| aa (show (256 : Int) ≠ (0 : Int) from by decide) <| aa (rfl : some ([IntKind.wrap .u8 (Int.tmod (IntKind.wrap .u64 (Int.tdiv (IntKind.wrap .u64 (Int.tdiv (IntKind.wrap .u64 (Int.tdiv (IntKind.wrap .u64 (Int.tdiv (IntKind.wrap .u64 (Int.tdiv (IntKind.wrap .u64 (Int.tdiv n (256 : Int))) (256 : Int))) (256 : Int))) (256 : Int))) (256 : Int))) (256 : Int))) (256 : Int))]) = some ([IntKind.wrap .u8 (Int.tmod (IntKind.wrap .u64 (Int.tdiv (IntKind.wrap .u64 (Int.tdiv (IntKind.wrap .u64 (Int.tdiv (IntKind.wrap .u64 (Int.tdiv (IntKind.wrap .u64 (Int.tdiv (IntKind.wrap .u64 (Int.tdiv n (256 : Int))) (256 : Int))) (256 : Int))) (256 : Int))) (256 : Int))) (256 : Int))) (256 : Int))])) <| aa (show ByteArray.size (ck [IntKind.wrap .u8 (Int.tmod (IntKind.wrap .u64 (Int.tdiv (IntKind.wrap .u64 (Int.tdiv (IntKind.wrap .u64 (Int.tdiv (IntKind.wrap .u64 (Int.tdiv (IntKind.wrap .u64 (Int.tdiv (IntKind.wrap .u64 (Int.tdiv n (256 : Int))) (256 : Int))) (256 : Int))) (256 : Int))) (256 : Int))) (256 : Int))) (256 : Int))]) + ByteArray.size (ck [IntKind.wrap .u8 (Int.tmod (IntKind.wrap .u64 (Int.tdiv (IntKind.wrap .u64 (Int.tdiv (IntKind.wrap .u64 (Int.tdiv (IntKind.wrap .u64 (Int.tdiv (IntKind.wrap .u64 (Int.tdiv n (256 : Int))) (256 : Int))) (256 : Int))) (256 : Int))) (256 : Int))) (256 : Int))] ++ (ck [IntKind.wrap .u8 (Int.tmod (IntKind.wrap .u64 (Int.tdiv (IntKind.wrap .u64 (Int.tdiv (IntKind.wrap .u64 (Int.tdiv (IntKind.wrap .u64 (Int.tdiv n (256 : Int))) (256 : Int))) (256 : Int))) (256 : Int))) (256 : Int))] ++ (ck [IntKind.wrap .u8 (Int.tmod (IntKind.wrap .u64 (Int.tdiv (IntKind.wrap .u64 (Int.tdiv (IntKind.wrap .u64 (Int.tdiv n (256 : Int))) (256 : Int))) (256 : Int))) (256 : Int))] ++ (ck [IntKind.wrap .u8 (Int.tmod (IntKind.wrap .u64 (Int.tdiv (IntKind.wrap .u64 (Int.tdiv n (256 : Int))) (256 : Int))) (256 : Int))] ++ (ck [IntKind.wrap .u8 (Int.tmod (IntKind.wrap .u64 (Int.tdiv n (256 : Int))) (256 : Int))] ++ (ck [IntKind.wrap .u8 (Int.tmod n (256 : Int))] ++ ByteArray.mk #[])))))) ≤ 9223372036854775807 from by first | omega | (simp only [ByteArray.size_append, ax, aO, aU, List.size_toArray, aq, aA, aw, an, al, List.length_cons, List.length_nil] at *; omega)) <| aa (show (256 : Int) ≠ (0 : Int) from by decide) <| aa tt <| aa (show (256 : Int) ≠ (0 : Int) from by decide) <| aa (rfl : some ([IntKind.wrap .u8 (Int.tmod (IntKind.wrap .u64 (Int.tdiv (IntKind.wrap .u64 (Int.tdiv (IntKind.wrap .u64 (Int.tdiv (IntKind.wrap .u64 (Int.tdiv (IntKind.wrap .u64 (Int.tdiv (IntKind.wrap .u64 (Int.tdiv (IntKind.wrap .u64 (Int.tdiv n (256 : Int))) (256 : Int))) (256 : Int))) (256 : Int))) (256 : Int))) (256 : Int))) (256 : Int))) (256 : Int))]) = some ([IntKind.wrap .u8 (Int.tmod (IntKind.wrap .u64 (Int.tdiv (IntKind.wrap .u64 (Int.tdiv (IntKind.wrap .u64 (Int.tdiv (IntKind.wrap .u64 (Int.tdiv (IntKind.wrap .u64 (Int.tdiv (IntKind.wrap .u64 (Int.tdiv (IntKind.wrap .u64 (Int.tdiv n (256 : Int))) (256 : Int))) (256 : Int))) (256 : Int))) (256 : Int))) (256 : Int))) (256 : Int))) (256 : Int))])) <| aa (show ByteArray.size (ck [IntKind.wrap .u8 (Int.tmod (IntKind.wrap .u64 (Int.tdiv (IntKind.wrap .u64 (Int.tdiv (IntKind.wrap .u64 (Int.tdiv (IntKind.wrap .u64 (Int.tdiv (IntKind.wrap .u64 (Int.tdiv (IntKind.wrap .u64 (Int.tdiv (IntKind.wrap .u64 (Int.tdiv n (256 : Int))) (256 : Int))) (256 : Int))) (256 : Int))) (256 : Int))) (256 : Int))) (256 : Int))) (256 : Int))]) + ByteArray.size (ck [IntKind.wrap .u8 (Int.tmod (IntKind.wrap .u64 (Int.tdiv (IntKind.wrap .u64 (Int.tdiv (IntKind.wrap .u64 (Int.tdiv (IntKind.wrap .u64 (Int.tdiv (IntKind.wrap .u64 (Int.tdiv (IntKind.wrap .u64 (Int.tdiv n (256 : Int))) (256 : Int))) (256 : Int))) (256 : Int))) (256 : Int))) (256 : Int))) (256 : Int))] ++ (ck [IntKind.wrap .u8 (Int.tmod (IntKind.wrap .u64 (Int.tdiv (IntKind.wrap .u64 (Int.tdiv (IntKind.wrap .u64 (Int.tdiv (IntKind.wrap .u64 (Int.tdiv (IntKind.wrap .u64 (Int.tdiv n (256 : Int))) (256 : Int))) (256 : Int))) (256 : Int))) (256 : Int))) (256 : Int))] ++ (ck [IntKind.wrap .u8 (Int.tmod (IntKind.wrap .u64 (Int.tdiv (IntKind.wrap .u64 (Int.tdiv (IntKind.wrap .u64 (Int.tdiv (IntKind.wrap .u64 (Int.tdiv n (256 : Int))) (256 : Int))) (256 : Int))) (256 : Int))) (256 : Int))] ++ (ck [IntKind.wrap .u8 (Int.tmod (IntKind.wrap .u64 (Int.tdiv (IntKind.wrap .u64 (Int.tdiv (IntKind.wrap .u64 (Int.tdiv n (256 : Int))) (256 : Int))) (256 : Int))) (256 : Int))] ++ (ck [IntKind.wrap .u8 (Int.tmod (IntKind.wrap .u64 (Int.tdiv (IntKind.wrap .u64 (Int.tdiv n (256 : Int))) (256 : Int))) (256 : Int))] ++ (ck [IntKind.wrap .u8 (Int.tmod (IntKind.wrap .u64 (Int.tdiv n (256 : Int))) (256 : Int))] ++ (ck [IntKind.wrap .u8 (Int.tmod n (256 : Int))] ++ ByteArray.mk #[]))))))) ≤ 9223372036854775807 from by first | omega | (simp only [ByteArray.size_append, ax, aO, aU, List.size_toArray, aq, aA, aw, an, al, List.length_cons, List.length_nil] at *; omega)) <| aa (show (256 : Int) ≠ (0 : Int) from by decide) <| aa ff <| trivial) (gs := xc G.un <| xc gT <| xc G.ok <| xc (G.str [IntKind.wrap .u8 (Int.tmod n 256)]) <| xg2 G.ok <| xc gT <| xc G.ok <| xc (G.str [IntKind.wrap .u8 (Int.tmod (IntKind.wrap .u64 (Int.tdiv n 256)) 256)]) <| xg2 G.ok <| xc gT <| xc G.ok <| xc (G.str [IntKind.wrap .u8 (Int.tmod (IntKind.wrap .u64 (Int.tdiv (IntKind.wrap .u64 (Int.tdiv n 256)) 256)) 256)]) <| xg2 G.ok <| xc gT <| xc G.ok <| xc (G.str [IntKind.wrap .u8 (Int.tmod (IntKind.wrap .u64 (Int.tdiv (IntKind.wrap .u64 (Int.tdiv (IntKind.wrap .u64 (Int.tdiv n 256)) 256)) 256)) 256)]) <| xg2 G.ok <| xc gT <| xc G.ok <| xc (G.str [IntKind.wrap .u8 (Int.tmod (IntKind.wrap .u64 (Int.tdiv (IntKind.wrap .u64 (Int.tdiv (IntKind.wrap .u64 (Int.tdiv (IntKind.wrap .u64 (Int.tdiv n 256)) 256)) 256)) 256)) 256)]) <| xg2 G.ok <| xc gT <| xc G.ok <| xc (G.str [IntKind.wrap .u8 (Int.tmod (IntKind.wrap .u64 (Int.tdiv (IntKind.wrap .u64 (Int.tdiv (IntKind.wrap .u64 (Int.tdiv (IntKind.wrap .u64 (Int.tdiv (IntKind.wrap .u64 (Int.tdiv n 256)) 256)) 256)) 256)) 256)) 256)]) <| xg2 G.ok <| xc gT <| xc G.ok <| xc (G.str [IntKind.wrap .u8 (Int.tmod (IntKind.wrap .u64 (Int.tdiv (IntKind.wrap .u64 (Int.tdiv (IntKind.wrap .u64 (Int.tdiv (IntKind.wrap .u64 (Int.tdiv (IntKind.wrap .u64 (Int.tdiv (IntKind.wrap .u64 (Int.tdiv n 256)) 256)) 256)) 256)) 256)) 256)) 256)]) <| xg2 G.ok <| xc gT <| xc G.ok <| xc (G.str [IntKind.wrap .u8 (Int.tmod (IntKind.wrap .u64 (Int.tdiv (IntKind.wrap .u64 (Int.tdiv (IntKind.wrap .u64 (Int.tdiv (IntKind.wrap .u64 (Int.tdiv (IntKind.wrap .u64 (Int.tdiv (IntKind.wrap .u64 (Int.tdiv (IntKind.wrap .u64 (Int.tdiv n 256)) 256)) 256)) 256)) 256)) 256)) 256)) 256)]) <| xg2 G.ok <| [gF]) (by simp only [dw, uL, vq] <;> rfl)
theorem E2 (n : Int) (k : Nat) : ak PP GL XX HH NN (k + 1) 130 [A.c (u (IntKind.wrap .u64 n)), A.c (ii 4)] [] = some ([Res.c (st (cI n))], []) := by
  exact rt (aa tt <| aa (show (256 : Int) ≠ (0 : Int) from by decide) <| aa (rfl : some ([IntKind.wrap .u8 (Int.tmod (IntKind.wrap .u64 n) (256 : Int))]) = some ([IntKind.wrap .u8 (Int.tmod (IntKind.wrap .u64 n) (256 : Int))])) <| aa (show ByteArray.size (ck [IntKind.wrap .u8 (Int.tmod (IntKind.wrap .u64 n) (256 : Int))]) + ByteArray.size ⟨#[]⟩ ≤ 9223372036854775807 from by first | omega | (simp only [ByteArray.size_append, ax, aO, aU, List.size_toArray, aq, aA, aw, an, al, List.length_cons, List.length_nil] at *; omega)) <| aa (show (256 : Int) ≠ (0 : Int) from by decide) <| aa tt <| aa (show (256 : Int) ≠ (0 : Int) from by decide) <| aa (rfl : some ([IntKind.wrap .u8 (Int.tmod (IntKind.wrap .u64 (Int.tdiv (IntKind.wrap .u64 n) (256 : Int))) (256 : Int))]) = some ([IntKind.wrap .u8 (Int.tmod (IntKind.wrap .u64 (Int.tdiv (IntKind.wrap .u64 n) (256 : Int))) (256 : Int))])) <| aa (show ByteArray.size (ck [IntKind.wrap .u8 (Int.tmod (IntKind.wrap .u64 (Int.tdiv (IntKind.wrap .u64 n) (256 : Int))) (256 : Int))]) + ByteArray.size (ck [IntKind.wrap .u8 (Int.tmod (IntKind.wrap .u64 n) (256 : Int))] ++ ByteArray.mk #[]) ≤ 9223372036854775807 from by first | omega | (simp only [ByteArray.size_append, ax, aO, aU, List.size_toArray, aq, aA, aw, an, al, List.length_cons, List.length_nil] at *; omega)) <| aa (show (256 : Int) ≠ (0 : Int) from by decide) <| aa tt <| aa (show (256 : Int) ≠ (0 : Int) from by decide) <| aa (rfl : some ([IntKind.wrap .u8 (Int.tmod (IntKind.wrap .u64 (Int.tdiv (IntKind.wrap .u64 (Int.tdiv (IntKind.wrap .u64 n) (256 : Int))) (256 : Int))) (256 : Int))]) = some ([IntKind.wrap .u8 (Int.tmod (IntKind.wrap .u64 (Int.tdiv (IntKind.wrap .u64 (Int.tdiv (IntKind.wrap .u64 n) (256 : Int))) (256 : Int))) (256 : Int))])) <| aa (show ByteArray.size (ck [IntKind.wrap .u8 (Int.tmod (IntKind.wrap .u64 (Int.tdiv (IntKind.wrap .u64 (Int.tdiv (IntKind.wrap .u64 n) (256 : Int))) (256 : Int))) (256 : Int))]) + ByteArray.size (ck [IntKind.wrap .u8 (Int.tmod (IntKind.wrap .u64 (Int.tdiv (IntKind.wrap .u64 n) (256 : Int))) (256 : Int))] ++ (ck [IntKind.wrap .u8 (Int.tmod (IntKind.wrap .u64 n) (256 : Int))] ++ ByteArray.mk #[])) ≤ 9223372036854775807 from by first | omega | (simp only [ByteArray.size_append, ax, aO, aU, List.size_toArray, aq, aA, aw, an, al, List.length_cons, List.length_nil] at *; omega)) <| aa (show (256 : Int) ≠ (0 : Int) from by decide) <| aa tt <| aa (show (256 : Int) ≠ (0 : Int) from by decide) <| aa (rfl : some ([IntKind.wrap .u8 (Int.tmod (IntKind.wrap .u64 (Int.tdiv (IntKind.wrap .u64 (Int.tdiv (IntKind.wrap .u64 (Int.tdiv (IntKind.wrap .u64 n) (256 : Int))) (256 : Int))) (256 : Int))) (256 : Int))]) = some ([IntKind.wrap .u8 (Int.tmod (IntKind.wrap .u64 (Int.tdiv (IntKind.wrap .u64 (Int.tdiv (IntKind.wrap .u64 (Int.tdiv (IntKind.wrap .u64 n) (256 : Int))) (256 : Int))) (256 : Int))) (256 : Int))])) <| aa (show ByteArray.size (ck [IntKind.wrap .u8 (Int.tmod (IntKind.wrap .u64 (Int.tdiv (IntKind.wrap .u64 (Int.tdiv (IntKind.wrap .u64 (Int.tdiv (IntKind.wrap .u64 n) (256 : Int))) (256 : Int))) (256 : Int))) (256 : Int))]) + ByteArray.size (ck [IntKind.wrap .u8 (Int.tmod (IntKind.wrap .u64 (Int.tdiv (IntKind.wrap .u64 (Int.tdiv (IntKind.wrap .u64 n) (256 : Int))) (256 : Int))) (256 : Int))] ++ (ck [IntKind.wrap .u8 (Int.tmod (IntKind.wrap .u64 (Int.tdiv (IntKind.wrap .u64 n) (256 : Int))) (256 : Int))] ++ (ck [IntKind.wrap .u8 (Int.tmod (IntKind.wrap .u64 n) (256 : Int))] ++ ByteArray.mk #[]))) ≤ 9223372036854775807 from by first | omega | (simp only [ByteArray.size_append, ax, aO, aU, List.size_toArray, aq, aA, aw, an, al, List.length_cons, List.length_nil] at *; omega)) <| aa (show (256 : Int) ≠ (0 : Int) from by decide) <| aa ff <| trivial) (gs := xc G.un <| xc gT <| xc G.ok <| xc (G.str [IntKind.wrap .u8 (Int.tmod (IntKind.wrap .u64 n) 256)]) <| xg2 G.ok <| xc gT <| xc G.ok <| xc (G.str [IntKind.wrap .u8 (Int.tmod (IntKind.wrap .u64 (Int.tdiv (IntKind.wrap .u64 n) 256)) 256)]) <| xg2 G.ok <| xc gT <| xc G.ok <| xc (G.str [IntKind.wrap .u8 (Int.tmod (IntKind.wrap .u64 (Int.tdiv (IntKind.wrap .u64 (Int.tdiv (IntKind.wrap .u64 n) 256)) 256)) 256)]) <| xg2 G.ok <| xc gT <| xc G.ok <| xc (G.str [IntKind.wrap .u8 (Int.tmod (IntKind.wrap .u64 (Int.tdiv (IntKind.wrap .u64 (Int.tdiv (IntKind.wrap .u64 (Int.tdiv (IntKind.wrap .u64 n) 256)) 256)) 256)) 256)]) <| xg2 G.ok <| [gF]) (by simp only [cI, uL, vq] <;> rfl)
theorem kW (n : Int) (k : Nat) : ak PP GL XX HH NN (k + 2) 150 [A.c (u n)] [] = some ([Res.c (st (dw n))], []) := by
  exact rt (aa (EX n k) <| trivial) (gs := [G.call [Res.c (st (dw n))] []]) rfl
theorem qS (n : Int) (k : Nat) : ak PP GL XX HH NN (k + 2) 102 [A.c (w4 n)] [] = some ([Res.c (st (cI n))], []) := by
  exact rt (aa (E2 n k) <| trivial) (gs := [G.call [Res.c (st (cI n))] []]) rfl
theorem DC (s : ByteArray) (hs : ((↑(s.size) : Int) == 8) = true) (x0 : UInt8) (x1 : UInt8) (x2 : UInt8) (x3 : UInt8) (x4 : UInt8) (x5 : UInt8) (x6 : UInt8) (x7 : UInt8) (h0 : s[0]? = some x0) (h1 : s[1]? = some x1) (h2 : s[2]? = some x2) (h3 : s[3]? = some x3) (h4 : s[4]? = some x4) (h5 : s[5]? = some x5) (h6 : s[6]? = some x6) (h7 : s[7]? = some x7) (k : Nat) : ak PP GL XX HH NN (k + 1) 145 [A.c (st s), A.c (ii 8)] [] = some ([Res.c (u (cl [x0, x1, x2, x3, x4, x5, x6, x7])), Res.c (bo true)], []) := by
  exact rt (aa (cn hs) <| aa tt <| aa (rfl : (0 : Int) = (0 : Int)) <| aa h0 <| aa tt <| aa (rfl : (1 : Int) = (1 : Int)) <| aa h1 <| aa tt <| aa (rfl : (2 : Int) = (2 : Int)) <| aa h2 <| aa tt <| aa (rfl : (3 : Int) = (3 : Int)) <| aa h3 <| aa tt <| aa (rfl : (4 : Int) = (4 : Int)) <| aa h4 <| aa tt <| aa (rfl : (5 : Int) = (5 : Int)) <| aa h5 <| aa tt <| aa (rfl : (6 : Int) = (6 : Int)) <| aa h6 <| aa tt <| aa (rfl : (7 : Int) = (7 : Int)) <| aa h7 <| aa ff <| trivial) (gs := [gF, G.un, gT, G.byte 0 x0, gT, G.byte 1 x1, gT, G.byte 2 x2, gT, G.byte 3 x3, gT, G.byte 4 x4, gT, G.byte 5 x5, gT, G.byte 6 x6, gT, G.byte 7 x7, gF]) rfl
theorem DE (s : ByteArray) (hs : ((↑(s.size) : Int) == 4) = true) (x0 : UInt8) (x1 : UInt8) (x2 : UInt8) (x3 : UInt8) (h0 : s[0]? = some x0) (h1 : s[1]? = some x1) (h2 : s[2]? = some x2) (h3 : s[3]? = some x3) (k : Nat) : ak PP GL XX HH NN (k + 1) 145 [A.c (st s), A.c (ii 4)] [] = some ([Res.c (u (cl [x0, x1, x2, x3])), Res.c (bo true)], []) := by
  exact rt (aa (cn hs) <| aa tt <| aa (rfl : (0 : Int) = (0 : Int)) <| aa h0 <| aa tt <| aa (rfl : (1 : Int) = (1 : Int)) <| aa h1 <| aa tt <| aa (rfl : (2 : Int) = (2 : Int)) <| aa h2 <| aa tt <| aa (rfl : (3 : Int) = (3 : Int)) <| aa h3 <| aa ff <| trivial) (gs := [gF, G.un, gT, G.byte 0 x0, gT, G.byte 1 x1, gT, G.byte 2 x2, gT, G.byte 3 x3, gF]) rfl
theorem FL (s : ByteArray) (n : Int) (hs : ((↑(s.size) : Int) == n) = false) (k : Nat) : ak PP GL XX HH NN (k + 1) 145 [A.c (st s), A.c (ii n)] [] = some ([Res.c (u 0), Res.c (bo false)], []) := by
  exact rt (aa (cn hs) <| trivial) (gs := [gT]) rfl
theorem FC (s : ByteArray) (hs : s.size = 8) (k : Nat) : ak PP GL XX HH NN (k + 1) 145 [.c (st s), .c (ii 8)] [] = some ([.c (u (cl s.data.toList)), .c (bo true)], []) := by
  obtain ⟨a, b, c, d, e, f, g, i, hl⟩ := DL ((sH s).trans hs)
  have := DC s (by rw [hs]; rfl) a b c d e f g i (by rw [fX, hl]; rfl) (by rw [fX, hl]; rfl) (by rw [fX, hl]; rfl) (by rw [fX, hl]; rfl) (by rw [fX, hl]; rfl) (by rw [fX, hl]; rfl) (by rw [fX, hl]; rfl) (by rw [fX, hl]; rfl) k
  rw [hl]
  exact this
theorem F7 (s : ByteArray) (hs : s.size = 4) (k : Nat) : ak PP GL XX HH NN (k + 1) 145 [.c (st s), .c (ii 4)] [] = some ([.c (u (cl s.data.toList)), .c (bo true)], []) := by
  obtain ⟨a, b, c, d, hl⟩ := E8 ((sH s).trans hs)
  have := DE s (by rw [hs]; rfl) a b c d (by rw [fX, hl]; rfl) (by rw [fX, hl]; rfl) (by rw [fX, hl]; rfl) (by rw [fX, hl]; rfl) k
  rw [hl]
  exact this
theorem i8 (s : ByteArray) (hs : s.size = 8) (k : Nat) : ak PP GL XX HH NN (k + 2) 122 [A.c (st s)] [] = some ([Res.c (u (cl (Array.toList (ByteArray.data s)))), Res.c (bo true)], []) := by
  exact rt (aa (FC s hs k) <| trivial) (gs := [G.call [Res.c (u (cl (Array.toList (ByteArray.data s)))), Res.c (bo true)] []]) rfl
theorem EF (s : ByteArray) (hs : s.size = 4) (k : Nat) : ak PP GL XX HH NN (k + 2) 143 [A.c (st s)] [] = some ([Res.c (w4 (IntKind.wrap .u32 (cl (Array.toList (ByteArray.data s))))), Res.c (bo true)], []) := by
  exact rt (aa (F7 s hs k) <| trivial) (gs := [G.call [Res.c (u (cl (Array.toList (ByteArray.data s)))), Res.c (bo true)] []]) rfl
theorem BR (s : ByteArray) (hs : ((↑(s.size) : Int) == 4) = false) (k : Nat) : ak PP GL XX HH NN (k + 2) 143 [A.c (st s)] [] = some ([Res.c (w4 0), Res.c (bo false)], []) := by
  exact rt (aa (FL s 4 hs k) <| trivial) (gs := [G.call [Res.c (u 0), Res.c (bo false)] []]) rfl
theorem BL (a b c : Bool) (k : Nat) : ak PP GL XX HH NN (k + 1) 152 [.c (.slice 1 [[bo a], [bo b], [bo c]])] [] = some ([.c (by8 (fl a 1 + fl b 2 + fl c 4))], []) := by
  cases a <;> cases b <;> cases c <;> kernel_rfl
theorem CK (a b c d : Bool) (k : Nat) : ak PP GL XX HH NN (k + 1) 152 [.c (.slice 1 [[bo a], [bo b], [bo c], [bo d]])] [] = some ([.c (by8 (fl a 1 + fl b 2 + fl c 4 + fl d 8))], []) := by
  cases a <;> cases b <;> cases c <;> cases d <;> kernel_rfl
theorem fI (n : Int) (hz : decide (IntKind.wrap .u8 (Int.tdiv (IntKind.wrap .u8 (Int.tdiv (IntKind.wrap .u8 (Int.tdiv n 2)) 2)) 2) > 0) = false) (k : Nat) : ak PP GL XX HH NN (k + 1) 146 [A.c (by8 n), A.c (ii 3)] [] = some ([Res.top 1 [[bo (Int.tmod n (2 : Int) == 1)], [bo (Int.tmod (IntKind.wrap .u8 (Int.tdiv n 2)) (2 : Int) == 1)], [bo (Int.tmod (IntKind.wrap .u8 (Int.tdiv (IntKind.wrap .u8 (Int.tdiv n 2)) 2)) (2 : Int) == 1)]], Res.c (bo true)], []) := by
  exact rt (xa4 ff <| aa tt <| aa (show (2 : Int) ≠ (0 : Int) from by decide) <| aa (bP ([[bo (Int.tmod n (2 : Int) == 1)]])) <| aa (show List.length [[bo (Int.tmod n (2 : Int) == 1)]] ≤ 1073741824 from by simp only [vr]; omega) <| aa ((rfl : (0 : Nat) = (0 : Nat))).symm <| aa (show (2 : Int) ≠ (0 : Int) from by decide) <| aa tt <| aa (show (2 : Int) ≠ (0 : Int) from by decide) <| aa (rfl : [[bo (Int.tmod n (2 : Int) == 1)], [bo (Int.tmod (IntKind.wrap .u8 (Int.tdiv n (2 : Int))) (2 : Int) == 1)]] = [[bo (Int.tmod n (2 : Int) == 1)], [bo (Int.tmod (IntKind.wrap .u8 (Int.tdiv n (2 : Int))) (2 : Int) == 1)]]) <| aa (show List.length [[bo (Int.tmod n (2 : Int) == 1)], [bo (Int.tmod (IntKind.wrap .u8 (Int.tdiv n (2 : Int))) (2 : Int) == 1)]] ≤ 1073741824 from by simp only [vr]; omega) <| aa ((rfl : (1 : Nat) = (1 : Nat))).symm <| aa (show (2 : Int) ≠ (0 : Int) from by decide) <| aa tt <| aa (show (2 : Int) ≠ (0 : Int) from by decide) <| aa (rfl : [[bo (Int.tmod n (2 : Int) == 1)], [bo (Int.tmod (IntKind.wrap .u8 (Int.tdiv n (2 : Int))) (2 : Int) == 1)], [bo (Int.tmod (IntKind.wrap .u8 (Int.tdiv (IntKind.wrap .u8 (Int.tdiv n (2 : Int))) (2 : Int))) (2 : Int) == 1)]] = [[bo (Int.tmod n (2 : Int) == 1)], [bo (Int.tmod (IntKind.wrap .u8 (Int.tdiv n (2 : Int))) (2 : Int) == 1)], [bo (Int.tmod (IntKind.wrap .u8 (Int.tdiv (IntKind.wrap .u8 (Int.tdiv n (2 : Int))) (2 : Int))) (2 : Int) == 1)]]) <| aa (show List.length [[bo (Int.tmod n (2 : Int) == 1)], [bo (Int.tmod (IntKind.wrap .u8 (Int.tdiv n (2 : Int))) (2 : Int) == 1)], [bo (Int.tmod (IntKind.wrap .u8 (Int.tdiv (IntKind.wrap .u8 (Int.tdiv n (2 : Int))) (2 : Int))) (2 : Int) == 1)]] ≤ 1073741824 from by simp only [vr]; omega) <| aa ((rfl : (2 : Nat) = (2 : Nat))).symm <| aa (show (2 : Int) ≠ (0 : Int) from by decide) <| aa ff <| aa hz <| aa ((rfl : (3 : Nat) = (3 : Nat))).symm <| trivial) (gs := xg4 gF <| xc G.un <| xc gT <| xc G.ok <| xc (G.app [[bo (Int.tmod n (2 : Int) == 1)]]) <| xc G.ok <| xc gT <| xc G.ok <| xc (G.app [[bo (Int.tmod n (2 : Int) == 1)], [bo (Int.tmod (IntKind.wrap .u8 (Int.tdiv n 2)) (2 : Int) == 1)]]) <| xc G.ok <| xc gT <| xc G.ok <| xc (G.app [[bo (Int.tmod n (2 : Int) == 1)], [bo (Int.tmod (IntKind.wrap .u8 (Int.tdiv n 2)) (2 : Int) == 1)], [bo (Int.tmod (IntKind.wrap .u8 (Int.tdiv (IntKind.wrap .u8 (Int.tdiv n 2)) 2)) (2 : Int) == 1)]]) <| xc G.ok <| xg2 gF <| []) rfl
theorem cC (n : Int) (hz : decide (IntKind.wrap .u8 (Int.tdiv (IntKind.wrap .u8 (Int.tdiv (IntKind.wrap .u8 (Int.tdiv (IntKind.wrap .u8 (Int.tdiv n 2)) 2)) 2)) 2) > 0) = false) (k : Nat) : ak PP GL XX HH NN (k + 1) 146 [A.c (by8 n), A.c (ii 4)] [] = some ([Res.top 1 [[bo (Int.tmod n (2 : Int) == 1)], [bo (Int.tmod (IntKind.wrap .u8 (Int.tdiv n 2)) (2 : Int) == 1)], [bo (Int.tmod (IntKind.wrap .u8 (Int.tdiv (IntKind.wrap .u8 (Int.tdiv n 2)) 2)) (2 : Int) == 1)], [bo (Int.tmod (IntKind.wrap .u8 (Int.tdiv (IntKind.wrap .u8 (Int.tdiv (IntKind.wrap .u8 (Int.tdiv n 2)) 2)) 2)) (2 : Int) == 1)]], Res.c (bo true)], []) := by
  exact rt (xa4 ff <| aa tt <| aa (show (2 : Int) ≠ (0 : Int) from by decide) <| aa (bP ([[bo (Int.tmod n (2 : Int) == 1)]])) <| aa (show List.length [[bo (Int.tmod n (2 : Int) == 1)]] ≤ 1073741824 from by simp only [vr]; omega) <| aa ((rfl : (0 : Nat) = (0 : Nat))).symm <| aa (show (2 : Int) ≠ (0 : Int) from by decide) <| aa tt <| aa (show (2 : Int) ≠ (0 : Int) from by decide) <| aa (rfl : [[bo (Int.tmod n (2 : Int) == 1)], [bo (Int.tmod (IntKind.wrap .u8 (Int.tdiv n (2 : Int))) (2 : Int) == 1)]] = [[bo (Int.tmod n (2 : Int) == 1)], [bo (Int.tmod (IntKind.wrap .u8 (Int.tdiv n (2 : Int))) (2 : Int) == 1)]]) <| aa (show List.length [[bo (Int.tmod n (2 : Int) == 1)], [bo (Int.tmod (IntKind.wrap .u8 (Int.tdiv n (2 : Int))) (2 : Int) == 1)]] ≤ 1073741824 from by simp only [vr]; omega) <| aa ((rfl : (1 : Nat) = (1 : Nat))).symm <| aa (show (2 : Int) ≠ (0 : Int) from by decide) <| aa tt <| aa (show (2 : Int) ≠ (0 : Int) from by decide) <| aa (rfl : [[bo (Int.tmod n (2 : Int) == 1)], [bo (Int.tmod (IntKind.wrap .u8 (Int.tdiv n (2 : Int))) (2 : Int) == 1)], [bo (Int.tmod (IntKind.wrap .u8 (Int.tdiv (IntKind.wrap .u8 (Int.tdiv n (2 : Int))) (2 : Int))) (2 : Int) == 1)]] = [[bo (Int.tmod n (2 : Int) == 1)], [bo (Int.tmod (IntKind.wrap .u8 (Int.tdiv n (2 : Int))) (2 : Int) == 1)], [bo (Int.tmod (IntKind.wrap .u8 (Int.tdiv (IntKind.wrap .u8 (Int.tdiv n (2 : Int))) (2 : Int))) (2 : Int) == 1)]]) <| aa (show List.length [[bo (Int.tmod n (2 : Int) == 1)], [bo (Int.tmod (IntKind.wrap .u8 (Int.tdiv n (2 : Int))) (2 : Int) == 1)], [bo (Int.tmod (IntKind.wrap .u8 (Int.tdiv (IntKind.wrap .u8 (Int.tdiv n (2 : Int))) (2 : Int))) (2 : Int) == 1)]] ≤ 1073741824 from by simp only [vr]; omega) <| aa ((rfl : (2 : Nat) = (2 : Nat))).symm <| aa (show (2 : Int) ≠ (0 : Int) from by decide) <| aa tt <| aa (show (2 : Int) ≠ (0 : Int) from by decide) <| aa (rfl : [[bo (Int.tmod n (2 : Int) == 1)], [bo (Int.tmod (IntKind.wrap .u8 (Int.tdiv n (2 : Int))) (2 : Int) == 1)], [bo (Int.tmod (IntKind.wrap .u8 (Int.tdiv (IntKind.wrap .u8 (Int.tdiv n (2 : Int))) (2 : Int))) (2 : Int) == 1)], [bo (Int.tmod (IntKind.wrap .u8 (Int.tdiv (IntKind.wrap .u8 (Int.tdiv (IntKind.wrap .u8 (Int.tdiv n (2 : Int))) (2 : Int))) (2 : Int))) (2 : Int) == 1)]] = [[bo (Int.tmod n (2 : Int) == 1)], [bo (Int.tmod (IntKind.wrap .u8 (Int.tdiv n (2 : Int))) (2 : Int) == 1)], [bo (Int.tmod (IntKind.wrap .u8 (Int.tdiv (IntKind.wrap .u8 (Int.tdiv n (2 : Int))) (2 : Int))) (2 : Int) == 1)], [bo (Int.tmod (IntKind.wrap .u8 (Int.tdiv (IntKind.wrap .u8 (Int.tdiv (IntKind.wrap .u8 (Int.tdiv n (2 : Int))) (2 : Int))) (2 : Int))) (2 : Int) == 1)]]) <| aa (show List.length [[bo (Int.tmod n (2 : Int) == 1)], [bo (Int.tmod (IntKind.wrap .u8 (Int.tdiv n (2 : Int))) (2 : Int) == 1)], [bo (Int.tmod (IntKind.wrap .u8 (Int.tdiv (IntKind.wrap .u8 (Int.tdiv n (2 : Int))) (2 : Int))) (2 : Int) == 1)], [bo (Int.tmod (IntKind.wrap .u8 (Int.tdiv (IntKind.wrap .u8 (Int.tdiv (IntKind.wrap .u8 (Int.tdiv n (2 : Int))) (2 : Int))) (2 : Int))) (2 : Int) == 1)]] ≤ 1073741824 from by simp only [vr]; omega) <| aa ((rfl : (3 : Nat) = (3 : Nat))).symm <| aa (show (2 : Int) ≠ (0 : Int) from by decide) <| aa ff <| aa hz <| aa ((rfl : (4 : Nat) = (4 : Nat))).symm <| trivial) (gs := xg4 gF <| xc G.un <| xc gT <| xc G.ok <| xc (G.app [[bo (Int.tmod n (2 : Int) == 1)]]) <| xc G.ok <| xc gT <| xc G.ok <| xc (G.app [[bo (Int.tmod n (2 : Int) == 1)], [bo (Int.tmod (IntKind.wrap .u8 (Int.tdiv n 2)) (2 : Int) == 1)]]) <| xc G.ok <| xc gT <| xc G.ok <| xc (G.app [[bo (Int.tmod n (2 : Int) == 1)], [bo (Int.tmod (IntKind.wrap .u8 (Int.tdiv n 2)) (2 : Int) == 1)], [bo (Int.tmod (IntKind.wrap .u8 (Int.tdiv (IntKind.wrap .u8 (Int.tdiv n 2)) 2)) (2 : Int) == 1)]]) <| xc G.ok <| xc gT <| xc G.ok <| xc (G.app [[bo (Int.tmod n (2 : Int) == 1)], [bo (Int.tmod (IntKind.wrap .u8 (Int.tdiv n 2)) (2 : Int) == 1)], [bo (Int.tmod (IntKind.wrap .u8 (Int.tdiv (IntKind.wrap .u8 (Int.tdiv n 2)) 2)) (2 : Int) == 1)], [bo (Int.tmod (IntKind.wrap .u8 (Int.tdiv (IntKind.wrap .u8 (Int.tdiv (IntKind.wrap .u8 (Int.tdiv n 2)) 2)) 2)) (2 : Int) == 1)]]) <| xc G.ok <| xg2 gF <| []) rfl
theorem y5 (m : Nat) (h : m ≤ 7) (k : Nat) : ak PP GL XX HH NN (k + 1) 146 [.c (by8 (m : Int)), .c (ii 3)] [] = some ([.top 1 [[bo (m / 2 ^ 0 % 2 == 1)], [bo (m / 2 ^ 1 % 2 == 1)], [bo (m / 2 ^ 2 % 2 == 1)]], .c (bo true)], []) := by
  match m, h with
  | 0, _ => exact (fI 0 (by decide) k).trans (by kernel_rfl)
  | 1, _ => exact (fI 1 (by decide) k).trans (by kernel_rfl)
  | 2, _ => exact (fI 2 (by decide) k).trans (by kernel_rfl)
  | 3, _ => exact (fI 3 (by decide) k).trans (by kernel_rfl)
  | 4, _ => exact (fI 4 (by decide) k).trans (by kernel_rfl)
  | 5, _ => exact (fI 5 (by decide) k).trans (by kernel_rfl)
  | 6, _ => exact (fI 6 (by decide) k).trans (by kernel_rfl)
  | 7, _ => exact (fI 7 (by decide) k).trans (by kernel_rfl)
theorem yZ (m : Nat) (h : m ≤ 15) (k : Nat) : ak PP GL XX HH NN (k + 1) 146 [.c (by8 (m : Int)), .c (ii 4)] [] = some ([.top 1 [[bo (m / 2 ^ 0 % 2 == 1)], [bo (m / 2 ^ 1 % 2 == 1)], [bo (m / 2 ^ 2 % 2 == 1)], [bo (m / 2 ^ 3 % 2 == 1)]], .c (bo true)], []) := by
  match m, h with
  | 0, _ => exact (cC 0 (by decide) k).trans (by kernel_rfl)
  | 1, _ => exact (cC 1 (by decide) k).trans (by kernel_rfl)
  | 2, _ => exact (cC 2 (by decide) k).trans (by kernel_rfl)
  | 3, _ => exact (cC 3 (by decide) k).trans (by kernel_rfl)
  | 4, _ => exact (cC 4 (by decide) k).trans (by kernel_rfl)
  | 5, _ => exact (cC 5 (by decide) k).trans (by kernel_rfl)
  | 6, _ => exact (cC 6 (by decide) k).trans (by kernel_rfl)
  | 7, _ => exact (cC 7 (by decide) k).trans (by kernel_rfl)
  | 8, _ => exact (cC 8 (by decide) k).trans (by kernel_rfl)
  | 9, _ => exact (cC 9 (by decide) k).trans (by kernel_rfl)
  | 10, _ => exact (cC 10 (by decide) k).trans (by kernel_rfl)
  | 11, _ => exact (cC 11 (by decide) k).trans (by kernel_rfl)
  | 12, _ => exact (cC 12 (by decide) k).trans (by kernel_rfl)
  | 13, _ => exact (cC 13 (by decide) k).trans (by kernel_rfl)
  | 14, _ => exact (cC 14 (by decide) k).trans (by kernel_rfl)
  | 15, _ => exact (cC 15 (by decide) k).trans (by kernel_rfl)
theorem rH (x : UInt8) (h : x.toNat ≤ 7) (k : Nat) : ak PP GL XX HH NN (k + 1) 146 [.c (by8 (x.toNat : Int)), .c (ii 3)] [] = some ([.top 1 [[bo (aK x 0)], [bo (aK x 1)], [bo (aK x 2)]], .c (bo true)], []) := y5 x.toNat h k
theorem v7 (x : UInt8) (h : x.toNat ≤ 15) (k : Nat) : ak PP GL XX HH NN (k + 1) 146 [.c (by8 (x.toNat : Int)), .c (ii 4)] [] = some ([.top 1 [[bo (aK x 0)], [bo (aK x 1)], [bo (aK x 2)], [bo (aK x 3)]], .c (bo true)], []) := yZ x.toNat h k
end Go.Dm
namespace Go.Dm
open Go
def Cb (s : ByteArray) (c0 : Int) (c1 : Int) : St := St.mk (tc (st s) :: T.hole :: T.hole :: tc (u c0) :: tc (ii c1) :: hs 16 []) [] []
theorem BV (s : ByteArray) (n : Int) (i : Nat) (b : UInt8) (hb : s[i]? = some b) (k : Nat) (z0 : (decide ((↑i : Int) < (↑(s.size) : Int))) = true) : bw (EE (k + 1)) (HH 129) NN (LB PP 129 3) 0 0 (Cb s n (↑i : Int)) (Cb s (Int.tmod (IntKind.wrap .u64 (Fn IntKind.u64 n (IntKind.wrap .u64 (↑(UInt8.toNat b) : Int)) * 16777619)) 4294967296) (IntKind.wrap .i64 ((↑i : Int) + 1))) :=
  bh (aa z0 <| aa (rfl : (↑i : Int) = (↑i : Int)) <| aa hb <| aa (show (4294967296 : Int) ≠ (0 : Int) from by decide) <| trivial) (gs := [gT, G.byte i b, G.ok]) (by kernel_rfl)
def oq (s : ByteArray) (n : Int) (i : Nat) : St := St.mk (tc (st s) :: T.hole :: T.hole :: tc (u n) :: tc (ii (↑i : Int)) :: tc (ii (↑i : Int)) :: tc (st s) :: tc (ii (↑(s.size) : Int)) :: tc (bo (decide ((↑i : Int) < (↑(s.size) : Int)))) :: hs 12 []) [] []
theorem Db (s : ByteArray) (n : Int) (i : Nat) (k : Nat) (z0 : (decide ((↑i : Int) < (↑(s.size) : Int))) = false) : cm (EE (k + 1)) (HH 129) NN (LB PP 129 3) (Cb s n (↑i : Int)) (Ext.exit 0) (oq s n i) :=
  bI (aa z0 <| trivial) (gs := [gF]) (by kernel_rfl)
theorem blt {s : ByteArray} {i : Nat} {b : UInt8} (h : s.data.toList[i]? = some b) : decide ((i : Int) < (s.size : Int)) = true := by
  have := dp h
  rw [sH] at this
  exact decide_eq_true (by omega)
theorem F0 (s : ByteArray) (hs : s.size ≤ 1000000) (k : Nat) : bz (EE (k + 1)) (HH 129) NN (LB PP 129 3) (Cb s 2166136261 0) (.exit 0) (oq s (s.data.toList.foldl nV 2166136261) s.data.toList.length) := by
  have hl := sH s
  refine (B6 (E := fun k => EE (k + 1)) (fun n i => Cb s n (i : Nat)) (fun _ _ => True) s.data.toList nV 2166136261 (fun n => oq s n s.data.toList.length) (nv := 0) (nt := 0) (by kernel_rfl) (by kernel_rfl) trivial (fun _ _ _ _ _ => trivial) (fun k n i b hb _ => ?_) (fun k _ => ?_) (by unfold NN; omega)).2 k
  · have := BV s n i b (by rw [fX]; exact hb) k (blt hb)
    rwa [qJ hb (by omega)] at this
  · exact Db s _ _ k (by rw [hl]; exact dge)
theorem FY (s : ByteArray) (hs : s.size ≤ 1000000) (k : Nat) : ak PP GL XX HH NN (k + 2) 129 [A.c (st s)] [] = some ([Res.c (w4 (AV s))], []) := by
  exact rt (aa (F0 s hs k) <| trivial) (gs := [G.loop (Ext.exit 0) (oq s (List.foldl nV 2166136261 (Array.toList (ByteArray.data s))) (List.length (Array.toList (ByteArray.data s))))]) (by simp only [AV, vq] <;> rfl)
theorem oL (s : ByteArray) (hs : s.size ≤ 1000000) (k : Nat) : ak PP GL XX HH NN (k + 4) 101 [A.c (st s)] [] = some ([Res.c (st (bG s))], []) := by
  exact rt (aa (FY s hs (k + 1)) <| aa (qS (AV s) (k + 1)) <| aa (show s.size + ByteArray.size (cI (AV s)) ≤ 9223372036854775807 from by first | omega | (simp only [ByteArray.size_append, ax, aO, aU, List.size_toArray, aq, aA, aw, an, al, List.length_cons, List.length_nil] at *; omega)) <| trivial) (gs := [G.call [Res.c (w4 (AV s))] [], G.call [Res.c (st (cI (AV s)))] [], G.ok]) (by simp only [bG, vq] <;> rfl)
theorem Ce (s : ByteArray) (h4 : decide ((↑(s.size) : Int) < 4) = true) (k : Nat) : ak PP GL XX HH NN (k + 5) 121 [A.c (st s)] [] = some ([Res.c (st (ac s).1), Res.c (ii (ac s).2)], []) := by
  exact rt (aa h4 <| trivial) (gs := [gT]) (by simp only [ac, h4, vq] <;> rfl)
theorem C1 (s : ByteArray) (h4 : decide ((↑(s.size) : Int) < 4) = false) (hs : s.size ≤ 1000000) (hw : IntKind.wrap .i64 ((↑(s.size) : Int) - 4) = (↑(s.size - 4) : Int)) (hm : s.size - 4 ≤ s.size) (ht : ByteArray.size (ByteArray.extract s 0 (s.size - 4)) ≤ 1000000) (k : Nat) : ak PP GL XX HH NN (k + 5) 121 [A.c (st s)] [] = some ([Res.c (st (ac s).1), Res.c (ii (ac s).2)], []) := by
  rcases bft (bG (ByteArray.extract s 0 (s.size - 4)) == s) with z0 | z0
  · exact rt (aa h4 <| aa hw <| aa (rfl : (0 : Nat) = 0) <| aa (show (0 : Nat) ≤ s.size - (4 : Nat) from by omega) <| aa hm <| aa (oL (ByteArray.extract s 0 (s.size - 4)) ht k) <| aa (cn z0) <| trivial) (gs := [gF, G.cut 0 (s.size - 4) [], G.call [Res.c (st (bG (ByteArray.extract s 0 (s.size - 4))))] [], gF]) (by simp only [ac, h4, z0, vq] <;> rfl)
  · exact rt (aa h4 <| aa hw <| aa (rfl : (0 : Nat) = 0) <| aa (show (0 : Nat) ≤ s.size - (4 : Nat) from by omega) <| aa hm <| aa (oL (ByteArray.extract s 0 (s.size - 4)) ht k) <| aa (cn z0) <| trivial) (gs := [gF, G.cut 0 (s.size - 4) [], G.call [Res.c (st (bG (ByteArray.extract s 0 (s.size - 4))))] [], gT]) (by simp only [ac, h4, z0, vq] <;> rfl)
theorem eE (s : ByteArray) (hs : s.size ≤ 1000000) (k : Nat) : ak PP GL XX HH NN (k + 5) 121 [.c (st s)] [] = some ([.c (st (ac s).1), .c (ii (ac s).2)], []) := by
  cases h4 : decide ((s.size : Int) < 4) with
  | true => exact Ce s h4 k
  | false =>
    have h := of_decide_eq_false h4
    exact C1 s h4 hs (by rw [ej (by omega) (by omega)]; omega) (by omega) (by rw [ByteArray.size_extract]; omega) k
end Go.Dm
namespace Go.Dm
open Go
def Cv (n : Int) (c0 : Int) (c1 : Int) : St := St.mk (tc (ii n) :: T.hole :: T.hole :: tc (w4 c0) :: tc (ii c1) :: hs 8 []) [] []
theorem CY (n : Nat) (i : Nat) (p : Int) (k : Nat) (z0 : (decide ((↑i : Int) < (↑n : Int))) = true) : bw (EE (k + 1)) (HH 158) NN (LB PP 158 3) 0 0 (Cv (↑n : Int) p (↑i : Int)) (Cv (↑n : Int) (IntKind.wrap .u32 (2 * p)) (IntKind.wrap .i64 ((↑i : Int) + 1))) :=
  bh (aa z0 <| trivial) (gs := [gT]) (by kernel_rfl)
def qT (n : Nat) (i : Nat) (p : Int) : St := St.mk (tc (ii (↑n : Int)) :: T.hole :: T.hole :: tc (w4 p) :: tc (ii (↑i : Int)) :: tc (ii (↑i : Int)) :: tc (ii (↑n : Int)) :: tc (bo (decide ((↑i : Int) < (↑n : Int)))) :: hs 5 []) [] []
theorem Cz (n : Nat) (i : Nat) (p : Int) (k : Nat) (z0 : (decide ((↑i : Int) < (↑n : Int))) = false) : cm (EE (k + 1)) (HH 158) NN (LB PP 158 3) (Cv (↑n : Int) p (↑i : Int)) (Ext.exit 0) (qT n i p) :=
  bI (aa z0 <| trivial) (gs := [gF]) (by kernel_rfl)
theorem FU (n : Nat) (hn : n ≤ 31) (k : Nat) : bz (EE (k + 1)) (HH 158) NN (LB PP 158 3) (Cv n 1 0) (.exit 0) (qT n n (2 ^ n)) := by
  refine fR (nv := 0) (nt := 0) (fun i => Cv n (2 ^ i) (i : Nat)) n rfl (by kernel_rfl) (by kernel_rfl) (fun i hi => ?_) ?_ (by unfold NN; omega)
  · have := CY n i (2 ^ i) k (by simp; exact hi)
    have h2 := ki (i := i + 1) (by omega)
    have e : (2 : Int) ^ (i + 1) = 2 * 2 ^ i := by rw [Int.pow_succ, Int.mul_comm]
    rw [w64 hi (by omega)] at this
    have ew : IntKind.wrap .u32 (2 * 2 ^ i) = 2 ^ (i + 1) := by
      rw [← e]
      unfold IntKind.wrap
      simp [IntKind.signed, IntKind.bits]
      omega
    rw [ew] at this
    exact this
  · exact Cz n n (2 ^ n) k (by simp)
theorem pow (n : Nat) (hn : n ≤ 31) (k : Nat) : ak PP GL XX HH NN (k + 2) 158 [A.c (ii (↑n : Int))] [] = some ([Res.c (w4 ((2 : Int) ^ n))], []) := by
  exact rt (aa (FU n hn k) <| trivial) (gs := [G.loop (Ext.exit 0) (qT n n ((2 : Int) ^ n))]) rfl
theorem EM (m : Int) (i : Nat) (hi : i ≤ 31) (hz : (2 : Int) ^ i ≠ 0) (h1 : decide ((↑i : Int) ≥ 0) = true) (h2 : decide ((↑i : Int) < 32) = true) (k : Nat) : ak PP GL XX HH NN (k + 3) 157 [A.c (w4 m), A.c (ii (↑i : Int))] [] = some ([Res.c (bo (inM m i))], []) := by
  exact rt (xa3 tt <| xa3 h2 <| aa (pow i hi k) <| aa h2 <| aa hz <| aa h2 <| aa (show (2 : Int) ≠ (0 : Int) from by decide) <| xa2 h2 <| trivial) (gs := xg6 gT <| xc (G.call [Res.c (w4 ((2 : Int) ^ i))] []) <| xc gT <| xc G.ok <| xc gT <| xc G.ok <| xg2 gT <| []) (by simp only [inM, vq] <;> rfl)
theorem Ei (m : Int) (i : Int) (h1 : decide (i ≥ 0) = false) (k : Nat) : ak PP GL XX HH NN (k + 3) 157 [A.c (w4 m), A.c (ii i)] [] = some ([Res.c (bo false)], []) := by
  exact rt (xa3 h1 <| xa7 ff <| trivial) (gs := mC gF <| []) rfl
theorem Es (m : Int) (i : Int) (h1 : decide (i ≥ 0) = true) (h2 : decide (i < 32) = false) (k : Nat) : ak PP GL XX HH NN (k + 3) 157 [A.c (w4 m), A.c (ii i)] [] = some ([Res.c (bo false)], []) := by
  exact rt (xa3 h1 <| xa7 h2 <| trivial) (gs := xg3 gT <| xg7 gF <| []) rfl
theorem xu (x : BitVec 32) (i : Int) (k : Nat) : ak PP GL XX HH NN (k + 3) 157 [.c (w4 (mi x)), .c (ii i)] [] = some ([.c (bo (gM x i))], []) := by
  unfold gM inB
  by_cases h1 : 0 ≤ i
  · by_cases h2 : i < 32
    · have h := ki (i := i.toNat) (by omega)
      have := EM (mi x) i.toNat (by omega) (by omega) (decide_eq_true (by omega)) (decide_eq_true (by omega)) k
      rw [Int.toNat_of_nonneg h1] at this
      rw [decide_eq_true h1, decide_eq_true h2]
      rw [CZ] at this
      exact this
    · rw [decide_eq_false h2, Bool.and_false, Bool.false_and]
      exact Es (mi x) i (decide_eq_true h1) (decide_eq_false h2) k
  · rw [decide_eq_false h1, Bool.false_and, Bool.false_and]
    exact Ei (mi x) i (decide_eq_false h1) k
theorem Fp (x : Int) (h : inB x = true) (k : Nat) : ak PP GL XX HH NN (k + 2) 158 [.c (ii x)] [] = some ([.c (w4 (mi (mF x)))], []) := by
  unfold mF
  rw [h]
  unfold inB at h
  simp only [Bool.and_eq_true, decide_eq_true_eq] at h
  have := pow x.toNat (by omega) k
  rw [Int.toNat_of_nonneg h.1, xB (by omega)] at this
  exact this
def S19 (x : BitVec 32) (c0 : List (List C)) (c1 : Int) : St := St.mk (tc (w4 (mi x)) :: T.hole :: T.hole :: T.k (K.v (V.own 1 c0 (Tk.tok 0))) :: tc (ii c1) :: hs 12 []) [] [c0.length]
theorem Eg (x : BitVec 32) (c : List (List C)) (i : Nat) (hc : c.length ≤ 32) (k : Nat) (z0 : (decide ((↑i : Int) < 32)) = true) (z1 : (gM x (↑i : Int)) = true) : bw (EE (k + 3)) (HH 160) NN (LB PP 160 3) 0 1 (S19 x c (↑i : Int)) (S19 x (c ++ [[ii (↑i : Int)]]) (IntKind.wrap .i64 ((↑i : Int) + 1))) :=
  bh (aa z0 <| aa (xu x ((↑i : Int)) k) <| aa z1 <| aa (rfl : c ++ [[ii (↑i : Int)]] = c ++ [[ii (↑i : Int)]]) <| aa (show List.length (c ++ [[ii (↑i : Int)]]) ≤ 1073741824 from by simp only [vr]; omega) <| aa ((rfl : c.length = c.length)).symm <| trivial) (gs := [gT, G.call [Res.c (bo (gM x (↑i : Int)))] [], gT, G.app (c ++ [[ii (↑i : Int)]])]) (by kernel_rfl)
theorem DA (x : BitVec 32) (c : List (List C)) (i : Nat) (k : Nat) (z0 : (decide ((↑i : Int) < 32)) = true) (z1 : (gM x (↑i : Int)) = false) : bw (EE (k + 3)) (HH 160) NN (LB PP 160 3) 0 1 (S19 x c (↑i : Int)) (S19 x c (IntKind.wrap .i64 ((↑i : Int) + 1))) :=
  bh (aa z0 <| aa (xu x ((↑i : Int)) k) <| aa z1 <| trivial) (gs := [gT, G.call [Res.c (bo (gM x (↑i : Int)))] [], gF]) (by kernel_rfl)
def vF (x : BitVec 32) (c : List (List C)) (i : Nat) : St := St.mk (tc (w4 (mi x)) :: T.hole :: T.hole :: T.k (K.v (V.own 1 c (Tk.tok 0))) :: tc (ii (↑i : Int)) :: tc (ii (↑i : Int)) :: tc (bo (decide ((↑i : Int) < 32))) :: hs 10 []) [] [c.length]
theorem DK (x : BitVec 32) (c : List (List C)) (i : Nat) (k : Nat) (z0 : (decide ((↑i : Int) < 32)) = false) : cm (EE (k + 3)) (HH 160) NN (LB PP 160 3) (S19 x c (↑i : Int)) (Ext.exit 0) (vF x c i) :=
  bI (aa z0 <| trivial) (gs := [gF]) (by kernel_rfl)
theorem jF (x : BitVec 32) {i : Nat} (h : i < 32) : gM x (i : Int) = x.getLsbD i := by
  unfold gM inB
  rw [decide_eq_true (by omega : (0 : Int) ≤ i), decide_eq_true (by omega : (i : Int) < 32)]
  simp
theorem L19 (x : BitVec 32) (k : Nat) : bz (EE (k + 3)) (HH 160) NN (LB PP 160 3) (S19 x [] 0) (.exit 0) (vF x (is (jh x)) 32) := by
  rw [← C5]
  refine fR (nv := 0) (nt := 1) (fun i => S19 x (is (lsI x i)) (i : Nat)) 32 rfl (by kernel_rfl) (by kernel_rfl) (fun i hi => ?_) ?_ (by unfold NN; omega)
  · have hlen : (is (lsI x i)).length ≤ 32 := by rw [BZ]; exact Nat.le_trans (vC x i) (by omega)
    have hd : decide ((i : Int) < 32) = true := by simp; omega
    have e1 := w64 hi (by omega)
    have hbit := jF x hi
    show bw _ _ _ _ _ _ (S19 x (is (lsI x i)) (i : Nat)) (S19 x (is (lsI x (i + 1))) ((i + 1 : Nat) : Int))
    rw [yK]
    cases hb : x.getLsbD i with
    | true =>
      rw [hb] at hbit
      have := Eg x (is (lsI x i)) i hlen k hd hbit
      rw [e1] at this
      simpa [is] using this
    | false =>
      rw [hb] at hbit
      have := DA x (is (lsI x i)) i k hd hbit
      rw [e1] at this
      exact this
  · exact DK x (is (lsI x 32)) 32 k (by decide)
theorem D7 (x : BitVec 32) (k : Nat) : ak PP GL XX HH NN (k + 4) 160 [A.c (w4 (mi x))] [] = some ([Res.top 1 (is (jh x))], []) := by
  exact rt (aa (L19 x k) <| aa (show List.length (is (jh x)) = List.length (List.map eI (jh x)) from by first | rfl | simp | (simp; omega)) <| trivial) (gs := [G.loop (Ext.exit 0) (vF x (is (jh x)) 32)]) rfl
theorem zh {x : Int} (h1 : decide (x ≥ 0) = true) (h2 : decide (x < 32) = true) : inB x = true := by
  simp only [decide_eq_true_eq] at h1 h2
  unfold inB
  rw [decide_eq_true (by omega : (0 : Int) ≤ x), decide_eq_true h2]
  rfl
theorem za {x : Int} (h : decide (x ≥ 0) = false ∨ decide (x < 32) = false) : inB x = false := by
  unfold inB
  rcases h with h | h
  · rw [show decide (0 ≤ x) = false from h, Bool.false_and]
  · rw [h, Bool.and_false]
theorem Eu (x : Int) (h1 : decide (x ≥ 0) = true) (h2 : decide (x < 32) = true) (k : Nat) : ak PP GL XX HH NN (k + 2) 158 [.c (ii x)] [] = some ([.c (w4 (mi (mF x)))], []) := Fp x (zh h1 h2) k
theorem Fs (m : BitVec 32) (x : Int) (h : gM m x = true) (k : Nat) : ak PP GL XX HH NN (k + 2) 158 [.c (ii x)] [] = some ([.c (w4 (mi (mF x)))], []) := Fp x (by unfold gM at h; simp only [Bool.and_eq_true] at h; exact h.1) k
def S21 (l : List Int) (c0 : Int) (c1 : Int) : St := St.mk (tc (w4 c0) :: tc (C.slice 1 (List.map eI l)) :: T.hole :: T.hole :: T.hole :: tc (ii c1) :: hs 35 []) [] []
theorem Ed (l : List Int) (m : BitVec 32) (i : Nat) (x : Int) (hx : l[i]? = some x) (k : Nat) (z0 : (decide ((↑i : Int) < (↑(l.length) : Int))) = true) (z1 : (decide (x ≥ 0)) = true) (z2 : (decide (x < 32)) = true) (z3 : (gM m x) = true) : bw (EE (k + 3)) (HH 135) NN (LB PP 135 2) 0 0 (S21 l (mi m) (↑i : Int)) (S21 l (mi m) (IntKind.wrap .i64 ((↑i : Int) + 1))) :=
  bh (aa (au (eI) (l)) <| aa z0 <| aa (rfl : (↑i : Int) = (↑i : Int)) <| aa (aI (f := eI) hx) <| xa3 z1 <| aa (rfl : (↑i : Int) = (↑i : Int)) <| aa (aI (f := eI) hx) <| xa3 z1 <| xa4 z2 <| aa (rfl : (↑i : Int) = (↑i : Int)) <| aa (aI (f := eI) hx) <| xa2 z2 <| aa (xu m x k) <| xa2 z2 <| aa (cn z3) <| trivial) (gs := xc (G.len (l.length)) <| xc gT <| xc (G.idx i [ii x]) <| xg3 gT <| xc (G.idx i [ii x]) <| xg7 gT <| xc (G.idx i [ii x]) <| xg2 gT <| xc (G.call [Res.c (bo (gM m x))] []) <| xg2 gT <| [gF]) (by kernel_rfl)
theorem D0 (l : List Int) (m : BitVec 32) (i : Nat) (x : Int) (hx : l[i]? = some x) (k : Nat) (z0 : (decide ((↑i : Int) < (↑(l.length) : Int))) = true) (z1 : (decide (x ≥ 0)) = true) (z2 : (decide (x < 32)) = true) (z3 : (gM m x) = false) : bw (EE (k + 3)) (HH 135) NN (LB PP 135 2) 0 0 (S21 l (mi m) (↑i : Int)) (S21 l (IntKind.wrap .u32 (mi m + mi (mF x))) (IntKind.wrap .i64 ((↑i : Int) + 1))) :=
  bh (aa (au (eI) (l)) <| aa z0 <| aa (rfl : (↑i : Int) = (↑i : Int)) <| aa (aI (f := eI) hx) <| xa3 z1 <| aa (rfl : (↑i : Int) = (↑i : Int)) <| aa (aI (f := eI) hx) <| xa3 z1 <| xa4 z2 <| aa (rfl : (↑i : Int) = (↑i : Int)) <| aa (aI (f := eI) hx) <| xa2 z2 <| aa (xu m x k) <| xa2 z2 <| aa (cn z3) <| aa (rfl : (↑i : Int) = (↑i : Int)) <| aa (aI (f := eI) hx) <| aa (Eu x z1 z2 (k + 1)) <| trivial) (gs := xc (G.len (l.length)) <| xc gT <| xc (G.idx i [ii x]) <| xg3 gT <| xc (G.idx i [ii x]) <| xg7 gT <| xc (G.idx i [ii x]) <| xg2 gT <| xc (G.call [Res.c (bo (gM m x))] []) <| xg3 gT <| [G.idx i [ii x], G.call [Res.c (w4 (mi (mF x)))] []]) (by kernel_rfl)
theorem ER (l : List Int) (m : BitVec 32) (i : Nat) (x : Int) (hx : l[i]? = some x) (k : Nat) (z0 : (decide ((↑i : Int) < (↑(l.length) : Int))) = true) (z1 : (decide (x ≥ 0)) = true) (z2 : (decide (x < 32)) = false) : bw (EE (k + 3)) (HH 135) NN (LB PP 135 2) 0 0 (S21 l (mi m) (↑i : Int)) (S21 l (mi m) (IntKind.wrap .i64 ((↑i : Int) + 1))) :=
  bh (aa (au (eI) (l)) <| aa z0 <| aa (rfl : (↑i : Int) = (↑i : Int)) <| aa (aI (f := eI) hx) <| xa3 z1 <| aa (rfl : (↑i : Int) = (↑i : Int)) <| aa (aI (f := eI) hx) <| xa3 z1 <| xa8 z2 <| aa ff <| trivial) (gs := xc (G.len (l.length)) <| xc gT <| xc (G.idx i [ii x]) <| xg3 gT <| xc (G.idx i [ii x]) <| xg3 gT <| xg9 gF <| []) (by kernel_rfl)
theorem DM (l : List Int) (m : BitVec 32) (i : Nat) (x : Int) (hx : l[i]? = some x) (k : Nat) (z0 : (decide ((↑i : Int) < (↑(l.length) : Int))) = true) (z1 : (decide (x ≥ 0)) = false) : bw (EE (k + 3)) (HH 135) NN (LB PP 135 2) 0 0 (S21 l (mi m) (↑i : Int)) (S21 l (mi m) (IntKind.wrap .i64 ((↑i : Int) + 1))) :=
  bh (aa (au (eI) (l)) <| aa z0 <| aa (rfl : (↑i : Int) = (↑i : Int)) <| aa (aI (f := eI) hx) <| xa6 z1 <| xa9 ff <| trivial) (gs := xc (G.len (l.length)) <| xc gT <| xc (G.idx i [ii x]) <| bv gF <| xg3 gF <| []) (by kernel_rfl)
def sZ (l : List Int) (m : BitVec 32) (i : Nat) : St := St.mk (tc (w4 (mi m)) :: tc (C.slice 1 (List.map eI l)) :: T.hole :: T.hole :: T.hole :: tc (ii (↑i : Int)) :: tc (ii (↑i : Int)) :: tc (C.slice 1 (List.map eI l)) :: tc (ii (↑(l.length) : Int)) :: tc (bo (decide ((↑i : Int) < (↑(l.length) : Int)))) :: hs 31 []) [] []
theorem E3 (l : List Int) (m : BitVec 32) (i : Nat) (k : Nat) (z0 : (decide ((↑i : Int) < (↑(l.length) : Int))) = false) : cm (EE (k + 3)) (HH 135) NN (LB PP 135 2) (S21 l (mi m) (↑i : Int)) (Ext.exit 0) (sZ l m i) :=
  bI (aa (au (eI) (l)) <| aa z0 <| trivial) (gs := [G.len (l.length), gF]) (by kernel_rfl)
def S23 (l : List Int) (c0 : Int) (c1 : Int) : St := St.mk (tc (w4 c0) :: tc (C.slice 1 (List.map eI l)) :: T.hole :: T.hole :: T.hole :: tc (ii c1) :: hs 20 []) [] []
theorem EN (l : List Int) (m : BitVec 32) (i : Nat) (x : Int) (hx : l[i]? = some x) (k : Nat) (z0 : (decide ((↑i : Int) < (↑(l.length) : Int))) = true) (z1 : (gM m x) = true) : bw (EE (k + 3)) (HH 161) NN (LB PP 161 2) 0 0 (S23 l (mi m) (↑i : Int)) (S23 l (IntKind.wrap .u32 (mi m - mi (mF x))) (IntKind.wrap .i64 ((↑i : Int) + 1))) :=
  bh (aa (au (eI) (l)) <| aa z0 <| aa (rfl : (↑i : Int) = (↑i : Int)) <| aa (aI (f := eI) hx) <| aa (xu m x k) <| aa z1 <| aa (rfl : (↑i : Int) = (↑i : Int)) <| aa (aI (f := eI) hx) <| aa (Fs m x z1 (k + 1)) <| trivial) (gs := [G.len (l.length), gT, G.idx i [ii x], G.call [Res.c (bo (gM m x))] [], gT, G.idx i [ii x], G.call [Res.c (w4 (mi (mF x)))] []]) (by kernel_rfl)
theorem EG (l : List Int) (m : BitVec 32) (i : Nat) (x : Int) (hx : l[i]? = some x) (k : Nat) (z0 : (decide ((↑i : Int) < (↑(l.length) : Int))) = true) (z1 : (gM m x) = false) : bw (EE (k + 3)) (HH 161) NN (LB PP 161 2) 0 0 (S23 l (mi m) (↑i : Int)) (S23 l (mi m) (IntKind.wrap .i64 ((↑i : Int) + 1))) :=
  bh (aa (au (eI) (l)) <| aa z0 <| aa (rfl : (↑i : Int) = (↑i : Int)) <| aa (aI (f := eI) hx) <| aa (xu m x k) <| aa z1 <| trivial) (gs := [G.len (l.length), gT, G.idx i [ii x], G.call [Res.c (bo (gM m x))] [], gF]) (by kernel_rfl)
def rU (l : List Int) (m : BitVec 32) (i : Nat) : St := St.mk (tc (w4 (mi m)) :: tc (C.slice 1 (List.map eI l)) :: T.hole :: T.hole :: T.hole :: tc (ii (↑i : Int)) :: tc (ii (↑i : Int)) :: tc (C.slice 1 (List.map eI l)) :: tc (ii (↑(l.length) : Int)) :: tc (bo (decide ((↑i : Int) < (↑(l.length) : Int)))) :: hs 16 []) [] []
theorem Du (l : List Int) (m : BitVec 32) (i : Nat) (k : Nat) (z0 : (decide ((↑i : Int) < (↑(l.length) : Int))) = false) : cm (EE (k + 3)) (HH 161) NN (LB PP 161 2) (S23 l (mi m) (↑i : Int)) (Ext.exit 0) (rU l m i) :=
  bI (aa (au (eI) (l)) <| aa z0 <| trivial) (gs := [G.len (l.length), gF]) (by kernel_rfl)
theorem oI {x : Int} (h : inB x = true) : mF x = BitVec.twoPow 32 x.toNat ∧ x.toNat < 32 ∧ (2 : Int) ^ x.toNat = mi (mF x) := by
  unfold mF
  rw [h]
  unfold inB at h
  simp only [Bool.and_eq_true, decide_eq_true_eq] at h
  exact ⟨rfl, by omega, xB (by omega)⟩
theorem ow {x : Int} (h : inB x = false) : mF x = 0#32 := by
  unfold mF; rw [h]; rfl
theorem BF {m : BitVec 32} {x : Int} (h : gM m x = true) : m ||| mF x = m := by
  unfold gM at h
  simp only [Bool.and_eq_true] at h
  obtain ⟨e, hlt, _⟩ := oI h.1
  rw [e]
  apply BitVec.eq_of_getLsbD_eq
  intro j hj
  simp only [BitVec.getLsbD_or, BitVec.getLsbD_twoPow, hj, decide_true, Bool.true_and]
  by_cases hji : x.toNat = j
  · rw [← hji, h.2]; simp
  · simp [hji]
theorem yA {m : BitVec 32} {x : Int} (h : gM m x = false) : m &&& ~~~mF x = m := by
  unfold gM at h
  cases hb : inB x with
  | false => rw [ow hb]; show m &&& BitVec.allOnes 32 = m; exact BitVec.and_allOnes
  | true =>
    rw [hb, Bool.true_and] at h
    obtain ⟨e, hlt, _⟩ := oI hb
    rw [e]
    apply BitVec.eq_of_getLsbD_eq
    intro j hj
    simp only [BitVec.getLsbD_and, BitVec.getLsbD_not, BitVec.getLsbD_twoPow, hj, decide_true, Bool.true_and]
    by_cases hji : x.toNat = j
    · rw [← hji, h]; simp
    · simp [hji]
theorem L21 (x : BitVec 32) (l : List Int) (hl : l.length ≤ 1000000) (k : Nat) : bz (EE (k + 3)) (HH 135) NN (LB PP 135 2) (S21 l (mi x) 0) (.exit 0) (sZ l (uK x l) l.length) := by
  refine dU (E := EE (k + 3)) (H := HH 135) (n := NN) (b := LB PP 135 2) (fun (m : BitVec 32) (i : Nat) => S21 l (mi m) (i : Nat)) (fun _ _ => True) l
    (fun m x => m ||| mF x) x (nv := 0) (nt := 0) (e := .exit 0) (t := fun m => sZ l m l.length) rfl (by kernel_rfl) (by kernel_rfl) trivial (fun m i y hy _ => ⟨?_, trivial⟩) (fun _ => ?_) (by unfold NN; omega)
  · have hi := (List.getElem?_eq_some_iff.1 hy).1
    have hd : decide ((i : Int) < (l.length : Int)) = true := by simp; exact hi
    have e1 := w64 hi (by omega)
    cases h1 : decide (y ≥ 0) with
    | false =>
      have := DM l m i y hy k hd h1
      rw [e1] at this
      rw [ow (za (.inl h1)), BitVec.or_zero]
      exact this
    | true =>
      cases h2 : decide (y < 32) with
      | false =>
        have := ER l m i y hy k hd h1 h2
        rw [e1] at this
        rw [ow (za (.inr h2)), BitVec.or_zero]
        exact this
      | true =>
        cases hb : gM m y with
        | true =>
          have := Ed l m i y hy k hd h1 h2 hb
          rw [e1] at this
          rw [BF hb]
          exact this
        | false =>
          have := D0 l m i y hy k hd h1 h2 hb
          have hin := zh h1 h2
          obtain ⟨eb, hlt, ep⟩ := oI hin
          unfold gM at hb
          rw [hin, Bool.true_and] at hb
          rw [e1, ← ep, vm hlt hb, ← eb] at this
          exact this
  · exact E3 l _ l.length k dge
theorem Fi (x : BitVec 32) (l : List Int) (hl : l.length ≤ 1000000) (k : Nat) : ak PP GL XX HH NN (k + 4) 135 [A.c (w4 (mi x)), A.c (C.slice 1 (is l))] [] = some ([Res.c (w4 (mi (uK x l)))], []) := by
  exact rt (aa (L21 x l hl k) <| trivial) (gs := [G.loop (Ext.exit 0) (sZ l (uK x l) (l.length))]) rfl
theorem L23 (x : BitVec 32) (l : List Int) (hl : l.length ≤ 1000000) (k : Nat) : bz (EE (k + 3)) (HH 161) NN (LB PP 161 2) (S23 l (mi x) 0) (.exit 0) (rU l (mB x l) l.length) := by
  refine dU (E := EE (k + 3)) (H := HH 161) (n := NN) (b := LB PP 161 2) (fun (m : BitVec 32) (i : Nat) => S23 l (mi m) (i : Nat)) (fun _ _ => True) l
    (fun m x => m &&& ~~~mF x) x (nv := 0) (nt := 0) (e := .exit 0) (t := fun m => rU l m l.length) rfl (by kernel_rfl) (by kernel_rfl) trivial (fun m i y hy _ => ⟨?_, trivial⟩) (fun _ => ?_) (by unfold NN; omega)
  · have hi := (List.getElem?_eq_some_iff.1 hy).1
    have hd : decide ((i : Int) < (l.length : Int)) = true := by simp; exact hi
    have e1 := w64 hi (by omega)
    cases hb : gM m y with
    | false =>
      have := EG l m i y hy k hd hb
      rw [e1] at this
      rw [yA hb]
      exact this
    | true =>
      have := EN l m i y hy k hd hb
      unfold gM at hb
      simp only [Bool.and_eq_true] at hb
      obtain ⟨eb, hlt, ep⟩ := oI hb.1
      rw [e1, ← ep, AW hlt hb.2, ← eb] at this
      exact this
  · exact Du l _ l.length k dge
theorem F8 (x : BitVec 32) (l : List Int) (hl : l.length ≤ 1000000) (k : Nat) : ak PP GL XX HH NN (k + 4) 161 [A.c (w4 (mi x)), A.c (C.slice 1 (is l))] [] = some ([Res.c (w4 (mi (mB x l)))], []) := by
  exact rt (aa (L23 x l hl k) <| trivial) (gs := [G.loop (Ext.exit 0) (rU l (mB x l) (l.length))]) rfl
theorem Fg (x y : BitVec 32) (k : Nat) : ak PP GL XX HH NN (k + 4) 135 [.c (w4 (mi x)), .c (.slice 1 (is (jh y)))] [] = some ([.c (w4 (mi (x ||| y)))], []) := by
  have := Fi x (jh y) (Nat.le_trans (xk y) (by omega)) k
  rwa [tT] at this
def S25 (l : List (BitVec 32)) (c0 : Int) (c1 : Int) : St := St.mk (tc (C.slice 1 (List.map eW l)) :: T.hole :: T.hole :: tc (w4 c0) :: tc (ii c1) :: hs 14 []) [] []
theorem DB (l : List (BitVec 32)) (m : BitVec 32) (i : Nat) (x : BitVec 32) (hx : l[i]? = some x) (k : Nat) (z0 : (decide ((↑i : Int) < (↑(l.length) : Int))) = true) : bw (EE (k + 5)) (HH 138) NN (LB PP 138 3) 0 0 (S25 l (mi m) (↑i : Int)) (S25 l (mi (m ||| x)) (IntKind.wrap .i64 ((↑i : Int) + 1))) :=
  bh (aa (au (eW) (l)) <| aa z0 <| aa (rfl : (↑i : Int) = (↑i : Int)) <| aa (aI (f := eW) hx) <| aa (D7 x (k + 1)) <| aa (Fg m x (k + 1)) <| trivial) (gs := [G.len (l.length), gT, G.idx i [w4 (mi x)], G.call [Res.top 1 (is (jh x))] [], G.call [Res.c (w4 (mi (m ||| x)))] []]) (by kernel_rfl)
def sB (l : List (BitVec 32)) (m : BitVec 32) (i : Nat) : St := St.mk (tc (C.slice 1 (List.map eW l)) :: T.hole :: T.hole :: tc (w4 (mi m)) :: tc (ii (↑i : Int)) :: tc (ii (↑i : Int)) :: tc (C.slice 1 (List.map eW l)) :: tc (ii (↑(l.length) : Int)) :: tc (bo (decide ((↑i : Int) < (↑(l.length) : Int)))) :: hs 10 []) [] []
theorem E0 (l : List (BitVec 32)) (m : BitVec 32) (i : Nat) (k : Nat) (z0 : (decide ((↑i : Int) < (↑(l.length) : Int))) = false) : cm (EE (k + 5)) (HH 138) NN (LB PP 138 3) (S25 l (mi m) (↑i : Int)) (Ext.exit 0) (sB l m i) :=
  bI (aa (au (eW) (l)) <| aa z0 <| trivial) (gs := [G.len (l.length), gF]) (by kernel_rfl)
theorem L25 (l : List (BitVec 32)) (hl : l.length ≤ 1000000) (k : Nat) : bz (EE (k + 5)) (HH 138) NN (LB PP 138 3) (S25 l 0 0) (.exit 0) (sB l (orI 0#32 l) l.length) := by
  refine dU (E := EE (k + 5)) (H := HH 138) (n := NN) (b := LB PP 138 3) (fun (m : BitVec 32) (i : Nat) => S25 l (mi m) (i : Nat)) (fun _ _ => True) l
    (fun m x => m ||| x) 0#32 (nv := 0) (nt := 0) (e := .exit 0) (t := fun m => sB l m l.length) rfl (by kernel_rfl) (by kernel_rfl) trivial (fun m i y hy _ => ⟨?_, trivial⟩) (fun _ => ?_) (by unfold NN; omega)
  · have hi := (List.getElem?_eq_some_iff.1 hy).1
    have := DB l m i y hy k (by simp; exact hi)
    rw [w64 hi (by omega)] at this
    exact this
  · exact E0 l _ l.length k dge
theorem Cu (l : List (BitVec 32)) (hl : l.length ≤ 1000000) (k : Nat) : ak PP GL XX HH NN (k + 6) 138 [A.c (C.slice 1 (ms l))] [] = some ([Res.c (w4 (mi (orI (BitVec.ofNat 32 0) l)))], []) := by
  exact rt (aa (L25 l hl k) <| trivial) (gs := [G.loop (Ext.exit 0) (sB l (orI (BitVec.ofNat 32 0) l) (l.length))]) rfl
def S14 (n : Int) (c0 : Int) (c1 : Int) : St := St.mk (tc (ii n) :: T.hole :: T.hole :: tc (w4 c0) :: tc (ii c1) :: hs 16 []) [] []
theorem DG (n : Nat) (m : Int) (i : Nat) (hi : i ≤ 31) (k : Nat) (z0 : (decide ((↑i : Int) < (↑n : Int))) = true) : bw (EE (k + 2)) (HH 159) NN (LB PP 159 5) 0 0 (S14 (↑n : Int) m (↑i : Int)) (S14 (↑n : Int) (IntKind.wrap .u32 (m + 2 ^ i)) (IntKind.wrap .i64 ((↑i : Int) + 1))) :=
  bh (aa z0 <| aa (pow i hi k) <| trivial) (gs := [gT, G.call [Res.c (w4 ((2 : Int) ^ i))] []]) (by kernel_rfl)
def uV (n : Nat) (m : Int) (i : Nat) : St := St.mk (tc (ii (↑n : Int)) :: T.hole :: T.hole :: tc (w4 m) :: tc (ii (↑i : Int)) :: hs 6 (tc (ii (↑i : Int)) :: tc (ii (↑n : Int)) :: tc (bo (decide ((↑i : Int) < (↑n : Int)))) :: hs 7 [])) [] []
theorem EQ (n : Nat) (m : Int) (i : Nat) (k : Nat) (z0 : (decide ((↑i : Int) < (↑n : Int))) = false) : cm (EE (k + 2)) (HH 159) NN (LB PP 159 5) (S14 (↑n : Int) m (↑i : Int)) (Ext.exit 0) (uV n m i) :=
  bI (aa z0 <| trivial) (gs := [gF]) (by kernel_rfl)
theorem pR {i : Nat} (h : i ≤ 31) : IntKind.wrap .u32 ((2 : Int) ^ i - 1 + 2 ^ i) = 2 ^ (i + 1) - 1 := by
  have h2 := ki h
  have e : (2 : Int) ^ (i + 1) = 2 * 2 ^ i := by rw [Int.pow_succ, Int.mul_comm]
  have ew : (2 : Int) ^ i - 1 + 2 ^ i = 2 ^ (i + 1) - 1 := by omega
  rw [ew]
  unfold IntKind.wrap
  simp [IntKind.signed, IntKind.bits]
  omega
theorem L14 (n : Nat) (hn : n ≤ 32) (k : Nat) : bz (EE (k + 2)) (HH 159) NN (LB PP 159 5) (S14 n 0 0) (.exit 0) (uV n (2 ^ n - 1) n) := by
  refine fR (nv := 0) (nt := 0) (fun i => S14 n (2 ^ i - 1) (i : Nat)) n rfl (by kernel_rfl) (by kernel_rfl) (fun i hi => ?_) ?_ (by unfold NN; omega)
  · have := DG n (2 ^ i - 1) i (by omega) k (by simp; exact hi)
    rw [w64 hi (by omega), pR (by omega)] at this
    exact this
  · exact EQ n (2 ^ n - 1) n k (by simp)
theorem D9 (n : Nat) (hn : n ≤ 32) (h1 : decide ((↑n : Int) < 1) = false) (h2 : decide ((↑n : Int) > 32) = false) (k : Nat) : ak PP GL XX HH NN (k + 3) 159 [A.c (ii (↑n : Int))] [] = some ([Res.c (w4 ((2 : Int) ^ n - 1))], []) := by
  exact rt (xa3 h1 <| aa h2 <| aa (L14 n hn k) <| trivial) (gs := xg4 gF <| [G.loop (Ext.exit 0) (uV n ((2 : Int) ^ n - 1) n)]) rfl
theorem E5 (B : Int) (h1 : decide (B < 1) = true) (k : Nat) : ak PP GL XX HH NN (k + 3) 159 [A.c (ii B)] [] = some ([Res.c (w4 0)], []) := by
  exact rt (xa3 h1 <| aa tt <| trivial) (gs := xg4 gT <| []) rfl
theorem Em (B : Int) (h1 : decide (B < 1) = false) (h2 : decide (B > 32) = true) (k : Nat) : ak PP GL XX HH NN (k + 3) 159 [A.c (ii B)] [] = some ([Res.c (w4 0)], []) := by
  exact rt (xa3 h1 <| aa h2 <| trivial) (gs := xg3 gF <| [gT]) rfl
theorem zS {n : Nat} (h : n ≤ 32) : (2 : Int) ^ n - 1 = mi (BitVec.ofNat 32 (2 ^ n - 1)) := by
  simp only [mi, BitVec.toNat_ofNat]
  have h2 : 2 ^ n ≤ 2 ^ 32 := Nat.pow_le_pow_right (by omega) h
  have h3 : 0 < 2 ^ n := Nat.pow_pos (by omega)
  rw [Nat.mod_eq_of_lt (by omega)]
  have e : ((2 ^ n : Nat) : Int) = (2 : Int) ^ n := by simp
  rw [← e]
  omega
theorem FF (B : Int) (k : Nat) : ak PP GL XX HH NN (k + 3) 159 [.c (ii B)] [] = some ([.c (w4 (mi (zZ B)))], []) := by
  unfold zZ
  by_cases h1 : B < 1
  · rw [if_neg (by omega)]
    exact E5 B (decide_eq_true h1) k
  · by_cases h2 : B ≤ 32
    · rw [if_pos ⟨by omega, h2⟩, ← zS (by omega)]
      have := D9 B.toNat (by omega) (decide_eq_false (by omega)) (decide_eq_false (by omega)) k
      rwa [Int.toNat_of_nonneg (by omega)] at this
    · rw [if_neg (by omega)]
      exact Em B (decide_eq_false h1) (decide_eq_true (by omega)) k
def S12 (x : BitVec 32) (c0 : Int) : St := St.mk (tc (w4 (mi x)) :: hs 4 (tc (ii c0) :: hs 14 [])) [] []
def vj (x : BitVec 32) (i : Nat) : St := St.mk (tc (w4 (mi x)) :: T.hole :: T.hole :: T.hole :: tc (bo false) :: tc (ii (↑i : Int)) :: hs 7 [tc (ii (↑i : Int)), tc (bo (decide ((↑i : Int) < 32))), T.hole, T.hole, tc (w4 (mi x)), tc (ii (↑i : Int)), tc (bo (gM x (↑i : Int)))]) [] []
theorem EI (x : BitVec 32) (i : Nat) (k : Nat) (z0 : (decide ((↑i : Int) < 32)) = true) (z1 : (gM x (↑i : Int)) = true) : cm (EE (k + 3)) (HH 144) NN (LB PP 144 4) (S12 x (↑i : Int)) (Ext.ret) (vj x i) :=
  bI (aa z0 <| aa (xu x ((↑i : Int)) k) <| aa z1 <| trivial) (gs := [gT, G.call [Res.c (bo (gM x (↑i : Int)))] [], gT]) (by kernel_rfl)
theorem D2 (x : BitVec 32) (i : Nat) (k : Nat) (z0 : (decide ((↑i : Int) < 32)) = true) (z1 : (gM x (↑i : Int)) = false) : bw (EE (k + 3)) (HH 144) NN (LB PP 144 4) 0 0 (S12 x (↑i : Int)) (S12 x (IntKind.wrap .i64 ((↑i : Int) + 1))) :=
  bh (aa z0 <| aa (xu x ((↑i : Int)) k) <| aa z1 <| trivial) (gs := [gT, G.call [Res.c (bo (gM x (↑i : Int)))] [], gF]) (by kernel_rfl)
def vV (x : BitVec 32) (i : Nat) : St := St.mk (tc (w4 (mi x)) :: hs 4 (tc (ii (↑i : Int)) :: hs 7 (tc (ii (↑i : Int)) :: tc (bo (decide ((↑i : Int) < 32))) :: hs 5 []))) [] []
theorem Eo (x : BitVec 32) (i : Nat) (k : Nat) (z0 : (decide ((↑i : Int) < 32)) = false) : cm (EE (k + 3)) (HH 144) NN (LB PP 144 4) (S12 x (↑i : Int)) (Ext.exit 0) (vV x i) :=
  bI (aa z0 <| trivial) (gs := [gF]) (by kernel_rfl)
theorem nk {B n i y : Nat} (h : (List.range' B n)[i]? = some y) : y = B + i ∧ i < n := by
  obtain ⟨hi, rfl⟩ := List.getElem?_eq_some_iff.1 h
  simp at hi
  simp [hi]
def pE (x : BitVec 32) (B : Nat) : Bool := (List.range' B (32 - B)).all fun i => !x.getLsbD i
theorem zO (x : BitVec 32) (B : Nat) (hB : B ≤ 32) (k : Nat) (i y : Nat) (hy : (List.range' B (32 - B))[i]? = some y) (hp : x.getLsbD y = false) : bw (EE (k + 3)) (HH 144) NN (LB PP 144 4) 0 0 (S12 x ((B + i : Nat) : Int)) (S12 x ((B + (i + 1) : Nat) : Int)) := by
  obtain ⟨rfl, hi⟩ := nk hy
  have := D2 x (B + i) k (decide_eq_true (by omega)) (by rw [jF x (by omega)]; exact hp)
  rw [w64 (show B + i < 32 by omega) (by omega)] at this
  exact this
theorem zY (x : BitVec 32) (B : Nat) (hB : B ≤ 32) (hb : pE x B = false) (k : Nat) : bz (EE (k + 3)) (HH 144) NN (LB PP 144 4) (S12 x B) .ret (vj x (B + (List.range' B (32 - B)).findIdx x.getLsbD)) := by
  have hany : (List.range' B (32 - B)).any x.getLsbD = true := by
    unfold pE at hb
    rw [List.all_eq_not_any_not] at hb
    simpa using hb
  have hj := cj hany
  refine ld (E := EE (k + 3)) (n := NN) (b := LB PP 144 4) (fun i => S12 x ((B + i : Nat) : Int)) (List.range' B (32 - B)) x.getLsbD (nv := 0) (nt := 0) rfl (by kernel_rfl) (by kernel_rfl)
    (fun i y hy hp => zO x B hB k i y hy hp) (fun y hy hp => ?_) hj (by unfold NN; simp; omega)
  obtain ⟨rfl, hi⟩ := nk hy
  exact EI x _ k (decide_eq_true (by omega)) (by rw [jF x (by omega)]; exact hp)
theorem yY (x : BitVec 32) (B : Nat) (hB : B ≤ 32) (hb : pE x B = true) (k : Nat) : bz (EE (k + 3)) (HH 144) NN (LB PP 144 4) (S12 x B) (.exit 0) (vV x 32) := by
  refine jL (E := EE (k + 3)) (n := NN) (b := LB PP 144 4) (fun i => S12 x ((B + i : Nat) : Int)) (List.range' B (32 - B)) x.getLsbD (nv := 0) (nt := 0) rfl (by kernel_rfl) (by kernel_rfl)
    (fun i y hy hp => zO x B hB k i y hy hp) ?_ hb (by unfold NN; simp; omega)
  rw [List.length_range', show B + (32 - B) = 32 by omega]
  exact Eo x 32 k (by decide)
theorem Bg (x : BitVec 32) (B : Nat) (hB : B ≤ 32) (h1 : decide ((↑B : Int) < 1) = false) (h2 : decide ((↑B : Int) > 32) = false) (hb : pE x B = true) (k : Nat) : ak PP GL XX HH NN (k + 4) 144 [A.c (w4 (mi x)), A.c (ii (↑B : Int))] [] = some ([Res.c (bo true)], []) := by
  exact rt (xa3 h1 <| aa h2 <| aa (yY x B hB hb k) <| trivial) (gs := xg4 gF <| [G.loop (Ext.exit 0) (vV x 32)]) rfl
theorem A5 (x : BitVec 32) (B : Nat) (hB : B ≤ 32) (h1 : decide ((↑B : Int) < 1) = false) (h2 : decide ((↑B : Int) > 32) = false) (hb : pE x B = false) (k : Nat) : ak PP GL XX HH NN (k + 4) 144 [A.c (w4 (mi x)), A.c (ii (↑B : Int))] [] = some ([Res.c (bo false)], []) := by
  exact rt (xa3 h1 <| aa h2 <| aa (zY x B hB hb k) <| trivial) (gs := xg4 gF <| [G.loop Ext.ret (vj x (B + List.findIdx (BitVec.getLsbD x) (List.range' B (32 - B))))]) rfl
theorem A3 (x : BitVec 32) (B : Int) (h1 : decide (B < 1) = true) (k : Nat) : ak PP GL XX HH NN (k + 4) 144 [A.c (w4 (mi x)), A.c (ii B)] [] = some ([Res.c (bo false)], []) := by
  exact rt (xa3 h1 <| aa tt <| trivial) (gs := xg4 gT <| []) rfl
theorem At (x : BitVec 32) (B : Int) (h1 : decide (B < 1) = false) (h2 : decide (B > 32) = true) (k : Nat) : ak PP GL XX HH NN (k + 4) 144 [A.c (w4 (mi x)), A.c (ii B)] [] = some ([Res.c (bo false)], []) := by
  exact rt (xa3 h1 <| aa h2 <| trivial) (gs := xg3 gF <| [gT]) rfl
theorem sM {n j : Nat} (hn : n ≤ 32) (hj : j < 32) : (BitVec.ofNat 32 (2 ^ n - 1)).getLsbD j = decide (j < n) := by
  rw [BitVec.getLsbD_ofNat, Nat.testBit_two_pow_sub_one]
  simp [hj]
theorem yp (x : BitVec 32) (n : Nat) (h1 : 1 ≤ n) (h2 : n ≤ 32) : pE x n = (x &&& ~~~zZ n == 0#32) := by
  unfold pE zZ
  rw [if_pos ⟨by omega, by omega⟩, Int.toNat_natCast, Bool.eq_iff_iff, List.all_eq_true, beq_iff_eq]
  constructor
  · intro h
    apply BitVec.eq_of_getLsbD_eq
    intro j hj
    simp only [BitVec.getLsbD_and, BitVec.getLsbD_not, BitVec.getLsbD_zero, hj, decide_true, Bool.true_and, sM h2 hj]
    by_cases hjn : j < n
    · simp [hjn]
    · have := h j (by simp; omega)
      simp at this
      simp [this]
  · intro h j hj
    simp at hj
    have := congrArg (fun b : BitVec 32 => b.getLsbD j) h
    simp only [BitVec.getLsbD_and, BitVec.getLsbD_not, BitVec.getLsbD_zero, sM h2 (show j < 32 by omega)] at this
    rw [decide_eq_false (by omega : ¬ j < n), decide_eq_true (by omega : j < 32)] at this
    simpa using this
theorem kx (x : BitVec 32) (B : Int) (k : Nat) : ak PP GL XX HH NN (k + 4) 144 [.c (w4 (mi x)), .c (ii B)] [] = some ([.c (bo (d4 x B))], []) := by
  unfold d4
  by_cases h1 : B < 1
  · rw [decide_eq_false (by omega : ¬ 1 ≤ B), Bool.false_and, Bool.false_and]
    exact A3 x B (decide_eq_true h1) k
  · by_cases h2 : B ≤ 32
    · rw [decide_eq_true (by omega : 1 ≤ B), decide_eq_true h2, Bool.true_and, Bool.true_and]
      obtain ⟨n, rfl⟩ := Int.eq_ofNat_of_zero_le (a := B) (by omega)
      rw [← yp x n (by omega) (by omega)]
      cases hb : pE x n with
      | true => exact Bg x n (by omega) (decide_eq_false (by omega)) (decide_eq_false (by omega)) hb k
      | false => exact A5 x n (by omega) (decide_eq_false (by omega)) (decide_eq_false (by omega)) hb k
    · rw [decide_eq_false h2, Bool.and_false, Bool.false_and]
      exact At x B (decide_eq_false h1) (decide_eq_true (by omega)) k
def S8 (x : BitVec 32) (f : Int) (c0 : Int) : St := St.mk (tc (w4 (mi x)) :: tc (ii f) :: hs 4 (tc (ii c0) :: hs 13 [])) [] []
def As (x : BitVec 32) (f : Int) (i : Nat) : St := St.mk [tc (w4 (mi x)), tc (ii f), T.hole, T.hole, tc (ii (↑i : Int)), tc (bo true), tc (ii (↑i : Int)), tc (ii (↑i : Int)), tc (bo (decide ((↑i : Int) < 32))), T.hole, T.hole, tc (ii (↑i : Int)), tc (ii f), tc (bo (decide ((↑i : Int) ≥ f))), tc (bo (decide ((↑i : Int) ≥ f))), tc (w4 (mi x)), tc (ii (↑i : Int)), tc (bo (gM x (↑i : Int))), tc (bo (gM x (↑i : Int))), tc (ii (↑i : Int))] [] []
theorem FE (x : BitVec 32) (f : Int) (i : Nat) (k : Nat) (z0 : (decide ((↑i : Int) < 32)) = true) (z1 : (decide ((↑i : Int) ≥ f)) = true) (z2 : (gM x (↑i : Int)) = true) : cm (EE (k + 3)) (HH 139) NN (LB PP 139 2) (S8 x f (↑i : Int)) (Ext.ret) (As x f i) :=
  bI (aa z0 <| xa3 z1 <| aa (xu x ((↑i : Int)) k) <| aa z1 <| aa z2 <| trivial) (gs := xg4 gT <| xc (G.call [Res.c (bo (gM x (↑i : Int)))] []) <| xg2 gT <| []) (by kernel_rfl)
theorem Fu (x : BitVec 32) (f : Int) (i : Nat) (k : Nat) (z0 : (decide ((↑i : Int) < 32)) = true) (z1 : (decide ((↑i : Int) ≥ f)) = true) (z2 : (gM x (↑i : Int)) = false) : bw (EE (k + 3)) (HH 139) NN (LB PP 139 2) 0 0 (S8 x f (↑i : Int)) (S8 x f (IntKind.wrap .i64 ((↑i : Int) + 1))) :=
  bh (aa z0 <| xa3 z1 <| aa (xu x ((↑i : Int)) k) <| aa z1 <| aa z2 <| trivial) (gs := xg4 gT <| [G.call [Res.c (bo (gM x (↑i : Int)))] [], gT, gF]) (by kernel_rfl)
theorem F6 (x : BitVec 32) (f : Int) (i : Nat) (k : Nat) (z0 : (decide ((↑i : Int) < 32)) = true) (z1 : (decide ((↑i : Int) ≥ f)) = false) : bw (EE (k + 3)) (HH 139) NN (LB PP 139 2) 0 0 (S8 x f (↑i : Int)) (S8 x f (IntKind.wrap .i64 ((↑i : Int) + 1))) :=
  bh (aa z0 <| xa4 z1 <| aa ff <| trivial) (gs := xc gT <| xg5 gF <| []) (by kernel_rfl)
def Ah (x : BitVec 32) (f : Int) (i : Nat) : St := St.mk (tc (w4 (mi x)) :: tc (ii f) :: hs 4 (tc (ii (↑i : Int)) :: tc (ii (↑i : Int)) :: tc (bo (decide ((↑i : Int) < 32))) :: hs 11 [])) [] []
theorem F5 (x : BitVec 32) (f : Int) (i : Nat) (k : Nat) (z0 : (decide ((↑i : Int) < 32)) = false) : cm (EE (k + 3)) (HH 139) NN (LB PP 139 2) (S8 x f (↑i : Int)) (Ext.exit 0) (Ah x f i) :=
  bI (aa z0 <| trivial) (gs := [gF]) (by kernel_rfl)
def pN (x : BitVec 32) (f : Int) (i : Nat) : Bool := decide ((i : Int) ≥ f) && x.getLsbD i
theorem pr {n i y : Nat} (h : (List.range n)[i]? = some y) : y = i ∧ i < n := by
  obtain ⟨hi, rfl⟩ := List.getElem?_eq_some_iff.1 h
  simp at hi
  simp [hi]
theorem Da (x : BitVec 32) (f : Int) (k : Nat) (i y : Nat) (hy : (List.range 32)[i]? = some y) (hp : pN x f y = false) : bw (EE (k + 3)) (HH 139) NN (LB PP 139 2) 0 0 (S8 x f (i : Nat)) (S8 x f ((i + 1 : Nat) : Int)) := by
  obtain ⟨rfl, hi⟩ := pr hy
  have e := w64 hi (show 32 < 9223372036854775808 by omega)
  unfold pN at hp
  cases h1 : decide ((y : Int) ≥ f) with
  | false =>
    have := F6 x f y k (decide_eq_true (by omega)) h1
    rwa [e] at this
  | true =>
    rw [h1, Bool.true_and] at hp
    have := Fu x f y k (decide_eq_true (by omega)) h1 (by rw [jF x hi]; exact hp)
    rwa [e] at this
theorem B0 (x : BitVec 32) (f : Int) (hb : (List.range 32).any (pN x f) = true) (k : Nat) : bz (EE (k + 3)) (HH 139) NN (LB PP 139 2) (S8 x f 0) .ret (As x f ((List.range 32).findIdx (pN x f))) := by
  refine ld (E := EE (k + 3)) (n := NN) (b := LB PP 139 2) (fun i => S8 x f (i : Nat)) (List.range 32) (pN x f) (nv := 0) (nt := 0) rfl (by kernel_rfl) (by kernel_rfl)
    (fun i y hy hp => Da x f k i y hy hp) (fun y hy hp => ?_) (cj hb) (by rw [List.length_range]; unfold NN; omega)
  obtain ⟨e, hi⟩ := pr hy
  rw [e] at hp
  unfold pN at hp
  simp only [Bool.and_eq_true] at hp
  exact FE x f _ k (decide_eq_true (by omega)) hp.1 (by rw [jF x hi]; exact hp.2)
theorem Aa (x : BitVec 32) (f : Int) (hb : (List.range 32).any (pN x f) = false) (k : Nat) : bz (EE (k + 3)) (HH 139) NN (LB PP 139 2) (S8 x f 0) (.exit 0) (Ah x f 32) := by
  refine jL (E := EE (k + 3)) (n := NN) (b := LB PP 139 2) (fun i => S8 x f (i : Nat)) (List.range 32) (pN x f) (nv := 0) (nt := 0) rfl (by kernel_rfl) (by kernel_rfl)
    (fun i y hy hp => Da x f k i y hy hp) ?_ (f7 hb) (by rw [List.length_range]; unfold NN; omega)
  rw [List.length_range]
  exact F5 x f 32 k (by decide)
theorem BQ (x : BitVec 32) (f : Int) (hb : List.any (List.range 32) (pN x f) = true) (k : Nat) : ak PP GL XX HH NN (k + 4) 139 [A.c (w4 (mi x)), A.c (ii f)] [] = some ([Res.c (ii (↑(List.findIdx (pN x f) (List.range 32)) : Int)), Res.c (bo true)], []) := by
  exact ro (g := 139) (aa (B0 x f hb k) <| trivial) (gs := [G.loop Ext.ret (As x f (List.findIdx (pN x f) (List.range 32)))])
theorem CL (x : BitVec 32) (f : Int) (hb : List.any (List.range 32) (pN x f) = false) (k : Nat) : ak PP GL XX HH NN (k + 4) 139 [A.c (w4 (mi x)), A.c (ii f)] [] = some ([Res.c (ii 0), Res.c (bo false)], []) := by
  exact ro (g := 139) (aa (Aa x f hb k) <| trivial) (gs := [G.loop (Ext.exit 0) (Ah x f 32)])
theorem xz (x : BitVec 32) (f : Int) : fQ x f = if (List.range 32).any (pN x f) then some (((List.range 32).findIdx (pN x f) : Nat) : Int) else none := by
  have e : fQ x f = ((List.range 32).find? (pN x f)).map fun (i : Nat) => (i : Int) := by
    unfold fQ jh vh
    rw [List.find?_map, List.find?_filter]
    congr 2
    funext i
    unfold pN
    simp only [Function.comp, Bool.decide_and, Bool.decide_eq_true, ge_iff_le]
    rw [Bool.and_comm]
  rw [e]
  cases hb : (List.range 32).any (pN x f) with
  | true =>
    have hj := cj hb
    rw [List.find?_eq_getElem?_findIdx, List.getElem?_eq_getElem hj]
    simp
  | false =>
    have h := f7 hb
    rw [List.find?_eq_none.2 (fun i hi => by have := List.all_eq_true.1 h i hi; simpa using this)]
    rfl
theorem Bn (x : BitVec 32) (f : Int) (k : Nat) : ak PP GL XX HH NN (k + 4) 139 [.c (w4 (mi x)), .c (ii f)] [] = some ([.c (ii ((fQ x f).getD 0)), .c (bo (fQ x f).isSome)], []) := by
  rw [xz]
  cases hb : (List.range 32).any (pN x f) with
  | true => exact BQ x f hb k
  | false => exact CL x f hb k
end Go.Dm
namespace Go.Dm
open Go
def Sho (d : Dk) (j : Nat) (c0 : ByteArray) (c1 : Int) : St := St.mk (T.hole :: tc (ii (↑j : Int)) :: T.k (K.v (V.ptr 0 0)) :: T.hole :: T.hole :: tc (st c0) :: tc (ii c1) :: Dm.hs 27 []) [[V.c (C.slice 1 (List.map eS d.sure)), V.c (C.slice 2 (List.map Wr.cs d.cache)), V.c (ii d.fuse), V.c (bo d.dead)]] []
theorem ET (d : Dk) (j : Nat) (s : ByteArray) (i : Nat) (w : Wr) (hw : d.cache[i]? = some w) (k : Nat) (z0 : (decide ((↑i : Int) < (↑(d.cache.length) : Int))) = true) (z1 : (Wr.sec w == (↑j : Int)) = true) : bw (EE (k + 1)) (HH 155) NN (LB PP 155 3) 1 0 (Sho d j s (↑i : Int)) (Sho d j w.data (IntKind.wrap .i64 ((↑i : Int) + 1))) :=
  bh (aa (au (Wr.cs) d.cache) <| aa z0 <| aa (rfl : (↑i : Int) = (↑i : Int)) <| aa (aI (f := Wr.cs) hw) <| aa z1 <| aa (rfl : (↑i : Int) = (↑i : Int)) <| aa (aI (f := Wr.cs) hw) <| trivial) (gs := [G.len (d.cache.length), gT, G.idx i [ii w.sec, st w.data], gT, G.idx i [ii w.sec, st w.data]]) (by kernel_rfl)
theorem Ey (d : Dk) (j : Nat) (s : ByteArray) (i : Nat) (w : Wr) (hw : d.cache[i]? = some w) (k : Nat) (z0 : (decide ((↑i : Int) < (↑(d.cache.length) : Int))) = true) (z1 : (Wr.sec w == (↑j : Int)) = false) : bw (EE (k + 1)) (HH 155) NN (LB PP 155 3) 1 0 (Sho d j s (↑i : Int)) (Sho d j s (IntKind.wrap .i64 ((↑i : Int) + 1))) :=
  bh (aa (au (Wr.cs) d.cache) <| aa z0 <| aa (rfl : (↑i : Int) = (↑i : Int)) <| aa (aI (f := Wr.cs) hw) <| aa z1 <| trivial) (gs := [G.len (d.cache.length), gT, G.idx i [ii w.sec, st w.data], gF]) (by kernel_rfl)
def rP (d : Dk) (j : Nat) (s : ByteArray) (i : Nat) : St := St.mk (T.hole :: tc (ii (↑j : Int)) :: T.k (K.v (V.ptr 0 0)) :: T.hole :: T.hole :: tc (st s) :: tc (ii (↑i : Int)) :: hs 5 (tc (ii (↑i : Int)) :: T.k (K.v (V.ptr 0 1)) :: tc (C.slice 2 (List.map Wr.cs d.cache)) :: tc (ii (↑(d.cache.length) : Int)) :: tc (bo (decide ((↑i : Int) < (↑(d.cache.length) : Int)))) :: hs 17 [])) [[V.c (C.slice 1 (List.map eS d.sure)), V.c (C.slice 2 (List.map Wr.cs d.cache)), V.c (ii d.fuse), V.c (bo d.dead)]] []
theorem Dx (d : Dk) (j : Nat) (s : ByteArray) (i : Nat) (k : Nat) (z0 : (decide ((↑i : Int) < (↑(d.cache.length) : Int))) = false) : cm (EE (k + 1)) (HH 155) NN (LB PP 155 3) (Sho d j s (↑i : Int)) (Ext.exit 0) (rP d j s i) :=
  bI (aa (au (Wr.cs) d.cache) <| aa z0 <| trivial) (gs := [G.len (d.cache.length), gF]) (by kernel_rfl)
theorem Lho (d : Dk) (j : Nat) (s : ByteArray) (hc : d.cache.length ≤ 1000000) (k : Nat) : bz (EE (k + 1)) (HH 155) NN (LB PP 155 3) (Sho d j s 0) (.exit 0) (rP d j (d.cache.foldl (fun s w => bif w.sec == (j : Int) then w.data else s) s) d.cache.length) := by
  refine (B6 (E := fun k => EE (k + 1)) (fun s i => Sho d j s (i : Nat)) (fun _ _ => True) d.cache (fun s w => bif w.sec == (j : Int) then w.data else s) s (fun s => rP d j s d.cache.length) (nv := 1) (nt := 0) (by kernel_rfl) (by kernel_rfl) trivial (fun _ _ _ _ _ => trivial) (fun k s i w hw _ => ?_) (fun k _ => Dx d j _ _ k dge) (by unfold NN; omega)).2 k
  cases hq : w.sec == (j : Int) with
  | true =>
    have := ET d j s i w hw k (dlt hw) hq
    rwa [qJ hw (by omega)] at this
  | false =>
    have := Ey d j s i w hw k (dlt hw) hq
    rwa [qJ hw (by omega)] at this
theorem C7 (d : Dk) (j : Nat) (s : ByteArray) (hs : d.sure[j]? = some s) (hc : d.cache.length ≤ 1000000) (k : Nat) : ak PP GL XX HH NN (k + 2) 155 [A.agg (Dk.cs d), A.c (ii (↑j : Int))] [] = some ([Res.c (st (List.foldl (fun (s : ByteArray) (w : Wr) => bif Wr.sec w == (↑j : Int) then Wr.data w else s) s d.cache))], []) := by
  exact rt (aa (rfl : (↑j : Int) = (↑j : Int)) <| aa (aI (f := eS) hs) <| aa (Lho d j s hc k) <| trivial) (gs := [G.idx j [st s], G.loop (Ext.exit 0) (rP d j (List.foldl (fun (s : ByteArray) (w : Wr) => bif Wr.sec w == (↑j : Int) then Wr.data w else s) s d.cache) (d.cache.length))]) rfl
theorem y9 (d : Dk) (j : Nat) (hj : j < d.sure.length) (hc : d.cache.length ≤ 1000000) (k : Nat) : ak PP GL XX HH NN (k + 2) 155 [.agg d.cs, .c (ii (j : Int))] [] = some ([.c (st (eA d (j : Int)))], []) := by
  have hs : d.sure[j]? = some d.sure[j] := List.getElem?_eq_getElem hj
  have := C7 d j d.sure[j] hs hc k
  unfold eA
  rw [List.getD_eq_getElem?_getD, Int.toNat_natCast, hs]
  exact this
theorem Bh (d : Dk) (i : Int) (h1 : decide (i < 0) = false) (h2 : decide (i ≥ (d.sure.length : Int)) = false) (hc : d.cache.length ≤ 1000000) (k : Nat) : ak PP GL XX HH NN (k + 2) 155 [.agg d.cs, .c (ii i)] [] = some ([.c (st (eA d i))], []) := by
  have h3 := of_decide_eq_false h1
  have h4 := of_decide_eq_false h2
  have := y9 d i.toNat (by omega) hc k
  rwa [Int.toNat_of_nonneg (by omega)] at this
theorem la (d : Dk) (i : Int) (hc : d.cache.length ≤ 1000000) (k : Nat) : ak PP GL XX HH NN (k + 3) 133 [A.agg (Dk.cs d), A.c (ii i)] [] = some ([Res.c (st (aR d i).1), Res.c (ii (aR d i).2)], []) := by
  rcases bft d.dead with z0 | z0
  · exact rt (aa z0 <| trivial) (gs := [gT]) (by simp only [aR, z0, vq] <;> rfl)
  · rcases bft (decide (i < 0)) with z1 | z1
    · exact rt (aa z0 <| xa6 z1 <| aa tt <| trivial) (gs := xc gF <| xg7 gT <| []) (by simp only [aR, z0, z1, vq] <;> rfl)
    · rcases bft (decide (i ≥ (↑(d.sure.length) : Int))) with z2 | z2
      · exact rt (aa z0 <| xa4 z1 <| aa (au (eS) d.sure) <| xa2 z1 <| aa z2 <| trivial) (gs := xg5 gF <| xc (G.len (d.sure.length)) <| xg2 gF <| [gT]) (by simp only [aR, z0, z1, z2, vq] <;> rfl)
      · exact rt (aa z0 <| xa4 z1 <| aa (au (eS) d.sure) <| xa2 z1 <| aa z2 <| aa (Bh d i z1 z2 hc k) <| trivial) (gs := xg5 gF <| xc (G.len (d.sure.length)) <| xg3 gF <| [G.call [Res.c (st (eA d i))] []]) (by simp only [aR, z0, z1, z2, vq] <;> rfl)
theorem ya (d : Dk) (k : Nat) : ak PP GL XX HH NN (k + 1) 164 [A.agg (Dk.cs d)] [] = some ([Res.agg (Dk.cs (bm d))], []) := by
  rcases bft (Dk.fuse d == 1) with z0 | z0
  · rcases bft (decide (Dk.fuse d > 0)) with z1 | z1
    · exact rt (aa z0 <| aa z1 <| trivial) (gs := xg2 gT <| []) (by simp only [bm, z0, z1, vq] <;> rfl)
    · exact rt (aa z0 <| aa z1 <| trivial) (gs := [gT, gF]) (by simp only [bm, z0, z1, vq] <;> rfl)
  · rcases bft (decide (Dk.fuse d > 0)) with z1 | z1
    · exact rt (aa z0 <| aa z1 <| trivial) (gs := [gF, gT]) (by simp only [bm, z0, z1, vq] <;> rfl)
    · exact rt (aa z0 <| aa z1 <| trivial) (gs := xg2 gF <| []) (by simp only [bm, z0, z1, vq] <;> rfl)
theorem wa (d : Dk) : (bm d).sure = d.sure := rfl
theorem io (d : Dk) : (bm d).cache = d.cache := rfl
theorem mm (d : Dk) (i : Int) (data : ByteArray) (hc : List.length (bm d).cache ≤ 1000000) (k : Nat) : ak PP GL XX HH NN (k + 2) 153 [A.agg (Dk.cs d), A.c (ii i), A.c (st data)] [] = some ([Res.agg (Dk.cs (bi d i data).1), Res.c (ii (bi d i data).2)], []) := by
  rcases bft d.dead with z0 | z0
  · exact rt (aa z0 <| trivial) (gs := [gT]) (rs := [Res.agg (Dk.cs d), Res.c (ii 6)]) (by simp only [bi, z0, vq] <;> rfl)
  · rcases bft (decide (i < 0)) with z1 | z1
    · exact rt (aa z0 <| xa6 z1 <| aa tt <| trivial) (gs := xc gF <| xg7 gT <| []) (rs := [Res.agg (Dk.cs d), Res.c (ii 4)]) (by simp only [bi, z0, z1, vq] <;> rfl)
    · rcases bft (decide (i ≥ (↑(d.sure.length) : Int))) with z2 | z2
      · exact rt (aa z0 <| xa4 z1 <| aa (au (eS) d.sure) <| xa2 z1 <| aa z2 <| trivial) (gs := xg5 gF <| xc (G.len (d.sure.length)) <| xg2 gF <| [gT]) (rs := [Res.agg (Dk.cs d), Res.c (ii 4)]) (by simp only [bi, z0, z1, z2, vq] <;> rfl)
      · rcases bft (decide ((↑(data.size) : Int) > 64)) with z3 | z3
        · exact rt (aa z0 <| xa4 z1 <| aa (au (eS) d.sure) <| xa2 z1 <| aa z2 <| aa z3 <| trivial) (gs := xg5 gF <| xc (G.len (d.sure.length)) <| xg3 gF <| [gT]) (rs := [Res.agg (Dk.cs d), Res.c (ii 5)]) (by simp only [bi, z0, z1, z2, z3, vq] <;> rfl)
        · rcases bft (bm d).dead with z4 | z4
          · exact rt (aa z0 <| xa4 z1 <| aa (au (eS) d.sure) <| xa2 z1 <| aa z2 <| aa z3 <| aa (ya d k) <| aa z4 <| trivial) (gs := xg5 gF <| xc (G.len (d.sure.length)) <| xg4 gF <| [G.call [Res.agg (Dk.cs (bm d))] [], gT]) (rs := [Res.agg (Dk.cs (bm d)), Res.c (ii 6)]) (by simp only [bi, z0, z1, z2, z3, z4, vq] <;> rfl)
          · exact rt (aa z0 <| xa4 z1 <| aa (au (eS) d.sure) <| xa2 z1 <| aa z2 <| aa z3 <| aa (ya d k) <| aa z4 <| aa (bP (List.map Wr.cs (bm d).cache)) <| aa (aV (Wr.cs) (l := Dk.cache (bm d)) (n := 1073741824) (by omega)) <| aa (bL (Wr.cs) (bm d).cache ([(Wr.mk i data)])) <| aa (aV (Wr.cs) (l := Dk.cache (bm d) ++ [(Wr.mk i data)]) (n := 1073741824) (by simp only [vr]; omega)) <| aa (Eq.refl (List.length (List.map Wr.cs (bm d).cache))) <| trivial) (gs := xg5 gF <| xc (G.len (d.sure.length)) <| xg4 gF <| [G.call [Res.agg (Dk.cs (bm d))] [], gF, G.app (List.map Wr.cs (bm d).cache), G.app (List.map Wr.cs (Dk.cache (bm d) ++ [(Wr.mk i data)]))]) (rs := [Res.agg (Dk.cs ({ bm d with cache := Dk.cache (bm d) ++ [(Wr.mk i data)] } : Dk)), Res.c (ii 0)]) (by simp only [bi, z0, z1, z2, z3, z4, vq] <;> rfl)
def Sfl (d : Dk) (c0 : List (List C)) (c1 : Int) : St := St.mk (T.hole :: T.k (K.v (V.ptr 0 0)) :: T.k (K.v (V.ptr 1 0)) :: T.hole :: T.k (K.v (V.own 1 c0 (Tk.tok 0))) :: tc (ii c1) :: hs 25 []) [[V.c (C.slice 1 (List.map eS (bm d).sure)), V.c (C.slice 2 (List.map Wr.cs (bm d).cache)), V.c (ii (bm d).fuse), V.c (bo (bm d).dead)], [V.own 1 [] Tk.exact, V.own 2 [] Tk.exact, V.c (ii 0), V.c (bo false)]] [c0.length]
theorem DJ (d : Dk) (l : List ByteArray) (i : Nat) (hi : i < List.length (bm d).sure) (hc : List.length (bm d).cache ≤ 1000000) (hl : l.length ≤ 1000000) (k : Nat) (z0 : (decide ((↑i : Int) < (↑(List.length (bm d).sure) : Int))) = true) : bw (EE (k + 2)) (HH 154) NN (LB PP 154 8) 2 1 (Sfl d (List.map eS l) (↑i : Int)) (Sfl d (List.map eS (l ++ [eA (bm d) (↑i : Int)])) (IntKind.wrap .i64 ((↑i : Int) + 1))) :=
  bh (aa (au (eS) (bm d).sure) <| aa z0 <| aa (y9 (bm d) i hi hc k) <| aa (bL (eS) (l) ([eA (bm d) (↑i : Int)])) <| aa (aV (eS) (l := l ++ [eA (bm d) (↑i : Int)]) (n := 1073741824) (by simp only [vr]; omega)) <| aa (Eq.refl (List.length (List.map eS l))) <| trivial) (gs := [G.len (List.length (bm d).sure), gT, G.call [Res.c (st (eA (bm d) (↑i : Int)))] [], G.app (List.map eS (l ++ [eA (bm d) (↑i : Int)]))]) (by kernel_rfl)
def v8 (d : Dk) (l : List ByteArray) (i : Nat) : St := St.mk (T.hole :: T.k (K.v (V.ptr 0 0)) :: T.k (K.v (V.ptr 1 0)) :: T.hole :: T.k (K.v (V.own 1 (List.map eS l) (Tk.tok 0))) :: tc (ii (↑i : Int)) :: hs 8 (tc (ii (↑i : Int)) :: T.k (K.v (V.ptr 0 0)) :: tc (C.slice 1 (List.map eS (bm d).sure)) :: tc (ii (↑(List.length (bm d).sure) : Int)) :: tc (bo (decide ((↑i : Int) < (↑(List.length (bm d).sure) : Int)))) :: hs 12 [])) [[V.c (C.slice 1 (List.map eS (bm d).sure)), V.c (C.slice 2 (List.map Wr.cs (bm d).cache)), V.c (ii (bm d).fuse), V.c (bo (bm d).dead)], [V.own 1 [] Tk.exact, V.own 2 [] Tk.exact, V.c (ii 0), V.c (bo false)]] [List.length (List.map eS l)]
theorem E9 (d : Dk) (l : List ByteArray) (i : Nat) (k : Nat) (z0 : (decide ((↑i : Int) < (↑(List.length (bm d).sure) : Int))) = false) : cm (EE (k + 2)) (HH 154) NN (LB PP 154 8) (Sfl d (List.map eS l) (↑i : Int)) (Ext.exit 0) (v8 d l i) :=
  bI (aa (au (eS) (bm d).sure) <| aa z0 <| trivial) (gs := [G.len (List.length (bm d).sure), gF]) (by kernel_rfl)
theorem Lfl (d : Dk) (hs : d.sure.length ≤ 1000000) (hc : d.cache.length ≤ 1000000) (k : Nat) : bz (EE (k + 2)) (HH 154) NN (LB PP 154 8) (Sfl d [] 0) (.exit 0) (v8 d (l3 (bm d)) d.sure.length) := by
  refine fR (E := EE (k + 2)) (fun i => Sfl d (((List.range i).map fun (i : Nat) => eA (bm d) (i : Int)).map eS) (i : Nat)) d.sure.length (nv := 2) (nt := 1) rfl (by kernel_rfl) (by kernel_rfl) (fun i hi => ?_) (E9 d _ d.sure.length k dge) (by unfold NN; omega)
  have hd : decide ((i : Int) < ((bm d).sure.length : Int)) = true := decide_eq_true (by rw [wa]; omega)
  have := DJ d ((List.range i).map fun (i : Nat) => eA (bm d) (i : Int)) i hi hc (by simp; omega) k hd
  rw [w64 hi (by omega)] at this
  rw [List.range_succ, List.map_append, List.map_cons, List.map_nil]
  exact this
theorem wy (d : Dk) (hs : d.sure.length ≤ 1000000) (hc : d.cache.length ≤ 1000000) (k : Nat) : ak PP GL XX HH NN (k + 4) 154 [A.agg (Dk.cs d)] [] = some ([Res.agg (Dk.cs (dL d).1), Res.c (ii (dL d).2)], []) := by
  rcases bft d.dead with z0 | z0
  · exact rt (aa z0 <| trivial) (gs := [gT]) (rs := [Res.agg (Dk.cs d), Res.c (ii 6)]) (by simp only [dL, z0, vq] <;> rfl)
  · rcases bft (bm d).dead with z1 | z1
    · exact rt (aa z0 <| aa (ya d (k + 2)) <| aa z1 <| trivial) (gs := [gF, G.call [Res.agg (Dk.cs (bm d))] [], gT]) (rs := [Res.agg (Dk.cs (bm d)), Res.c (ii 6)]) (by simp only [dL, z0, z1, vq] <;> rfl)
    · exact rt (aa z0 <| aa (ya d (k + 2)) <| aa z1 <| aa (Lfl d hs hc (k + 1)) <| trivial) (gs := [gF, G.call [Res.agg (Dk.cs (bm d))] [], gF, G.loop (Ext.exit 0) (v8 d (l3 (bm d)) (d.sure.length))]) (rs := [Res.agg (Dk.cs ({ bm d with sure := l3 (bm d), cache := [] } : Dk)), Res.c (ii 0)]) (by simp only [dL, z0, z1, vq] <;> rfl)
theorem Fh (d : Dk) (n : Int) (k : Nat) : ak PP GL XX HH NN (k + 1) 67 [A.agg (Dk.cs d), A.c (ii n)] [] = some ([Res.agg (Dk.cs (Bm d n))], []) := by
  exact rt (trivial) (gs := []) (by simp only [Bm, vq] <;> rfl)
theorem BK (d : Dk) (k : Nat) : ak PP GL XX HH NN (k + 1) 95 [A.agg (Dk.cs d)] [] = some ([Res.agg (Dk.cs (mU d))], []) := by
  exact rt (trivial) (gs := []) (by simp only [mU, vq] <;> rfl)
end Go.Dm
namespace Go.Dm
open Go
theorem br (v : Ve) (g : Int) (k : Nat) : ak PP GL XX HH NN (k + 1) 46 [A.agg (Ve.cs v), A.c (u g)] [] = some ([Res.c (ii (az v g))], []) := by
  rcases bft (g == 0) with z0 | z0
  · exact rt (aa tt <| xa6 (cn z0) <| aa ff <| aa tt <| xa6 (cn z0) <| aa ff <| aa tt <| xa6 (cn z0) <| aa ff <| aa tt <| xa6 (cn z0) <| xa2 ff <| trivial) (gs := xc G.un <| xc gT <| xg7 gF <| xc gT <| xg7 gF <| xc gT <| xg7 gF <| xc gT <| xg8 gF <| []) (by simp only [az, z0, vq] <;> rfl)
  · rcases bft (Ve.cur v == g) with z1 | z1
    · exact rt (aa tt <| xa2 (cn z0) <| aa (rfl : (0 : Int) = 0) <| xa4 (cn z0) <| aa z1 <| trivial) (gs := xc G.un <| xg3 gT <| xc (G.at 0) <| xg5 gT <| []) (by simp only [az, z0, z1, vq] <;> rfl)
    · rcases bft (Ve.bit v == g) with z2 | z2
      · exact rt (aa tt <| xa2 (cn z0) <| aa (rfl : (0 : Int) = 0) <| xa4 (cn z0) <| aa z1 <| aa tt <| xa2 (cn z0) <| aa (rfl : (1 : Int) = 1) <| xa4 (cn z0) <| aa z2 <| trivial) (gs := xc G.un <| xg3 gT <| xc (G.at 0) <| xg4 gT <| xc gF <| xg3 gT <| xc (G.at 1) <| xg5 gT <| []) (by simp only [az, z0, z1, z2, vq] <;> rfl)
      · rcases bft (Ve.o0 v == g) with z3 | z3
        · exact rt (aa tt <| xa2 (cn z0) <| aa (rfl : (0 : Int) = 0) <| xa4 (cn z0) <| aa z1 <| aa tt <| xa2 (cn z0) <| aa (rfl : (1 : Int) = 1) <| xa4 (cn z0) <| aa z2 <| aa tt <| xa2 (cn z0) <| aa (rfl : (2 : Int) = 2) <| xa4 (cn z0) <| aa z3 <| trivial) (gs := xc G.un <| xg3 gT <| xc (G.at 0) <| xg4 gT <| xc gF <| xg3 gT <| xc (G.at 1) <| xg4 gT <| xc gF <| xg3 gT <| xc (G.at 2) <| xg5 gT <| []) (by simp only [az, z0, z1, z2, z3, vq] <;> rfl)
        · rcases bft (Ve.o1 v == g) with z4 | z4
          · exact rt (aa tt <| xa2 (cn z0) <| aa (rfl : (0 : Int) = 0) <| xa4 (cn z0) <| aa z1 <| aa tt <| xa2 (cn z0) <| aa (rfl : (1 : Int) = 1) <| xa4 (cn z0) <| aa z2 <| aa tt <| xa2 (cn z0) <| aa (rfl : (2 : Int) = 2) <| xa4 (cn z0) <| aa z3 <| aa tt <| xa2 (cn z0) <| aa (rfl : (3 : Int) = 3) <| xa4 (cn z0) <| aa z4 <| trivial) (gs := xc G.un <| xg3 gT <| xc (G.at 0) <| xg4 gT <| xc gF <| xg3 gT <| xc (G.at 1) <| xg4 gT <| xc gF <| xg3 gT <| xc (G.at 2) <| xg4 gT <| xc gF <| xg3 gT <| xc (G.at 3) <| xg5 gT <| []) (by simp only [az, z0, z1, z2, z3, z4, vq] <;> rfl)
          · exact rt (aa tt <| xa2 (cn z0) <| aa (rfl : (0 : Int) = 0) <| xa4 (cn z0) <| aa z1 <| aa tt <| xa2 (cn z0) <| aa (rfl : (1 : Int) = 1) <| xa4 (cn z0) <| aa z2 <| aa tt <| xa2 (cn z0) <| aa (rfl : (2 : Int) = 2) <| xa4 (cn z0) <| aa z3 <| aa tt <| xa2 (cn z0) <| aa (rfl : (3 : Int) = 3) <| xa4 (cn z0) <| aa z4 <| aa ff <| trivial) (gs := xc G.un <| xg3 gT <| xc (G.at 0) <| xg4 gT <| xc gF <| xg3 gT <| xc (G.at 1) <| xg4 gT <| xc gF <| xg3 gT <| xc (G.at 2) <| xg4 gT <| xc gF <| xg3 gT <| xc (G.at 3) <| xg4 gT <| xg2 gF <| []) (by simp only [az, z0, z1, z2, z3, z4, vq] <;> rfl)
theorem C3 (v : Ve) (g : Int) (k : Nat) : ak PP GL XX HH NN (k + 1) 108 [A.agg (Ve.cs v), A.c (u g)] [] = some ([Res.agg (Ve.cs (bif g == 0 then (Ve.mk 0 0 0 0) else eo v g)), Res.c (ii (bif g == 0 then 14 else 0))], []) := by
  rcases bft (g == 0) with z0 | z0
  · exact rt (aa z0 <| trivial) (gs := [gT]) (by simp only [eo, z0, vq] <;> rfl)
  · rcases bft (Ve.bit v == 0) with z1 | z1
    · exact rt (aa z0 <| aa z1 <| trivial) (gs := [gF, gT]) (by simp only [eo, z0, z1, vq] <;> rfl)
    · exact rt (aa z0 <| aa z1 <| trivial) (gs := xg2 gF <| []) (by simp only [eo, z0, z1, vq] <;> rfl)
theorem kj (v : Ve) (k : Nat) : ak PP GL XX HH NN (k + 1) 113 [A.agg (Ve.cs v)] [] = some ([Res.agg (Ve.cs (bu v))], []) := by
  rcases bft (Ve.bit v == 0) with z0 | z0
  · exact rt (aa z0 <| trivial) (gs := [gT]) (by simp only [bu, z0, vq] <;> rfl)
  · exact rt (aa z0 <| trivial) (gs := [gF]) (by simp only [bu, z0, vq] <;> rfl)
theorem B1 (v : Ve) (g : Int) (k : Nat) : ak PP GL XX HH NN (k + 1) 115 [A.agg (Ve.cs v), A.c (u g)] [] = some ([Res.agg (Ve.cs (mE v g))], []) := by
  exact rt (trivial) (gs := []) (by simp only [mE, vq] <;> rfl)
theorem js (s : Su) (k : Nat) : ak PP GL XX HH NN (k + 1) 127 [A.agg (Su.cs s)] [] = some ([Res.c (bo (ce s))], []) := by
  rcases bft (decide (Su.blocks s ≥ 1)) with z0 | z0
  · rcases bft (decide (Su.blocks s ≤ 32)) with z1 | z1
    · exact rt (xa4 z0 <| xa5 z1 <| trivial) (gs := xg9 gT <| []) (by simp only [ce, z0, z1, vq] <;> rfl)
    · exact rt (xa4 z0 <| xa5 z1 <| trivial) (gs := xg4 gT <| xg5 gF <| []) (by simp only [ce, z0, z1, vq] <;> rfl)
  · exact rt (xa4 z0 <| xa5 ff <| trivial) (gs := xg9 gF <| []) (by simp only [ce, z0, vq] <;> rfl)
theorem oM (s : Su) (k : Nat) : ak PP GL XX HH NN (k + 3) 128 [A.agg (Su.cs s)] [] = some ([Res.c (st (cH s))], []) := by
  exact rt (aa (BL s.inc s.pri s.dis (k + 1)) <| aa (rfl : some ([IntKind.wrap .u8 s.blocks, fl s.inc (1 : Int) + fl s.pri (2 : Int) + fl s.dis (4 : Int)]) = some ([IntKind.wrap .u8 s.blocks, fl s.inc (1 : Int) + fl s.pri (2 : Int) + fl s.dis (4 : Int)])) <| aa (show ByteArray.size (ByteArray.mk #[(71 : UInt8), (77 : UInt8), (1 : UInt8)]) + ByteArray.size (ck [IntKind.wrap .u8 s.blocks, fl s.inc (1 : Int) + fl s.pri (2 : Int) + fl s.dis (4 : Int)]) ≤ 9223372036854775807 from by first | omega | (simp only [ByteArray.size_append, ax, aO, aU, List.size_toArray, aq, aA, aw, an, al, List.length_cons, List.length_nil] at *; omega)) <| aa (kW s.v.cur k) <| aa (show ByteArray.size (ByteArray.mk #[(71 : UInt8), (77 : UInt8), (1 : UInt8)] ++ ck [IntKind.wrap .u8 s.blocks, fl s.inc (1 : Int) + fl s.pri (2 : Int) + fl s.dis (4 : Int)]) + ByteArray.size (dw s.v.cur) ≤ 9223372036854775807 from by first | omega | (simp only [ByteArray.size_append, ax, aO, aU, List.size_toArray, aq, aA, aw, an, al, List.length_cons, List.length_nil] at *; omega)) <| aa (kW s.v.bit k) <| aa (show ByteArray.size (ByteArray.mk #[(71 : UInt8), (77 : UInt8), (1 : UInt8)] ++ ck [IntKind.wrap .u8 s.blocks, fl s.inc (1 : Int) + fl s.pri (2 : Int) + fl s.dis (4 : Int)] ++ dw s.v.cur) + ByteArray.size (dw s.v.bit) ≤ 9223372036854775807 from by first | omega | (simp only [ByteArray.size_append, ax, aO, aU, List.size_toArray, aq, aA, aw, an, al, List.length_cons, List.length_nil] at *; omega)) <| aa (kW s.v.o0 k) <| aa (show ByteArray.size (ByteArray.mk #[(71 : UInt8), (77 : UInt8), (1 : UInt8)] ++ ck [IntKind.wrap .u8 s.blocks, fl s.inc (1 : Int) + fl s.pri (2 : Int) + fl s.dis (4 : Int)] ++ dw s.v.cur ++ dw s.v.bit) + ByteArray.size (dw s.v.o0) ≤ 9223372036854775807 from by first | omega | (simp only [ByteArray.size_append, ax, aO, aU, List.size_toArray, aq, aA, aw, an, al, List.length_cons, List.length_nil] at *; omega)) <| aa (kW s.v.o1 k) <| aa (show ByteArray.size (ByteArray.mk #[(71 : UInt8), (77 : UInt8), (1 : UInt8)] ++ ck [IntKind.wrap .u8 s.blocks, fl s.inc (1 : Int) + fl s.pri (2 : Int) + fl s.dis (4 : Int)] ++ dw s.v.cur ++ dw s.v.bit ++ dw s.v.o0) + ByteArray.size (dw s.v.o1) ≤ 9223372036854775807 from by first | omega | (simp only [ByteArray.size_append, ax, aO, aU, List.size_toArray, aq, aA, aw, an, al, List.length_cons, List.length_nil] at *; omega)) <| trivial) (gs := [G.call [Res.c (by8 (fl s.inc 1 + fl s.pri 2 + fl s.dis 4))] [], G.str [IntKind.wrap .u8 s.blocks, fl s.inc 1 + fl s.pri 2 + fl s.dis 4], G.ok, G.call [Res.c (st (dw s.v.cur))] [], G.ok, G.call [Res.c (st (dw s.v.bit))] [], G.ok, G.call [Res.c (st (dw s.v.o0))] [], G.ok, G.call [Res.c (st (dw s.v.o1))] [], G.ok]) (by simp only [cH, vq] <;> rfl)
theorem kR (s : Su) (k : Nat) : ak PP GL XX HH NN (k + 5) 100 [A.agg (Su.cs s)] [] = some ([Res.c (st (bd s).1), Res.c (ii (bd s).2)], []) := by
  rcases bft (ce s) with z0 | z0
  · exact rt (aa (js s (k + 3)) <| aa (cn z0) <| aa (oM s (k + 1)) <| aa (oL (cH s) (show ByteArray.size (cH s) ≤ 1000000 from by first | omega | (simp only [ByteArray.size_append, ax, aO, aU, List.size_toArray, aq, aA, aw, an, al, List.length_cons, List.length_nil] at *; omega)) k) <| trivial) (gs := [G.call [Res.c (bo (ce s))] [], gF, G.call [Res.c (st (cH s))] [], G.call [Res.c (st (bG (cH s)))] []]) (by simp only [bd, z0, vq] <;> rfl)
  · exact rt (aa (js s (k + 3)) <| aa (cn z0) <| trivial) (gs := [G.call [Res.c (bo (ce s))] [], gT]) (by simp only [bd, z0, vq] <;> rfl)
theorem yR (t : ByteArray) (a : Nat) (hw : IntKind.wrap .i64 ((↑a : Int) + 8) = (↑(a + 8) : Int)) (hl : a ≤ a + 8) (hs : a + 8 ≤ t.size) (he : ByteArray.size (ByteArray.extract t a (a + 8)) = 8) (k : Nat) : ak PP GL XX HH NN (k + 3) 163 [A.c (st t), A.c (ii (↑a : Int))] [] = some ([Res.c (u (a9 t a))], []) := by
  exact rt (aa hw <| aa (rfl : (↑a : Int) = (↑a : Int)) <| aa hl <| aa hs <| aa (i8 (ByteArray.extract t a (a + 8)) he k) <| trivial) (gs := [G.cut a (a + 8) [], G.call [Res.c (u (cl (Array.toList (ByteArray.data (ByteArray.extract t a (a + 8)))))), Res.c (bo true)] []]) (by simp only [a9, vq] <;> rfl)
theorem nX (t : ByteArray) (a : Nat) (ha : a ≤ 1000) (h : a + 8 ≤ t.size) (k : Nat) : ak PP GL XX HH NN (k + 3) 163 [.c (st t), .c (ii (a : Int))] [] = some ([.c (u (a9 t a))], []) :=
  yR t a (by rw [ej (by omega) (by omega)]; omega) (by omega) h (by rw [ByteArray.size_extract]; omega) k
theorem EW (t : ByteArray) (h : t.size = 37) (k : Nat) : ak PP GL XX HH NN (k + 3) 163 [.c (st t), .c (ii 5)] [] = some ([.c (u (a9 t 5))], []) := nX t 5 (by omega) (by omega) k
theorem Az (t : ByteArray) (h : t.size = 37) (k : Nat) : ak PP GL XX HH NN (k + 3) 163 [.c (st t), .c (ii 13)] [] = some ([.c (u (a9 t 13))], []) := nX t 13 (by omega) (by omega) k
theorem Ao (t : ByteArray) (h : t.size = 37) (k : Nat) : ak PP GL XX HH NN (k + 3) 163 [.c (st t), .c (ii 21)] [] = some ([.c (u (a9 t 21))], []) := nX t 21 (by omega) (by omega) k
theorem AB (t : ByteArray) (h : t.size = 37) (k : Nat) : ak PP GL XX HH NN (k + 3) 163 [.c (st t), .c (ii 29)] [] = some ([.c (u (a9 t 29))], []) := nX t 29 (by omega) (by omega) k
theorem Cq (b : ByteArray) (hb : b.size ≤ 1000000) (h1 : (Prod.snd (ac b) == 0) = false) (k : Nat) : ak PP GL XX HH NN (k + 6) 141 [A.c (st b)] [] = some ([Res.agg (Su.cs (cp b).1), Res.c (ii (cp b).2)], []) := by
  exact rt (aa (eE b hb k) <| aa (cn h1) <| trivial) (gs := [G.call [Res.c (st (ac b).1), Res.c (ii (ac b).2)] [], gT]) (by simp only [cp, h1, vq] <;> rfl)
theorem Ct (b : ByteArray) (hb : b.size ≤ 1000000) (h1 : (Prod.snd (ac b) == 0) = true) (h2 : ((↑(ByteArray.size (ac b).1) : Int) == 37) = false) (k : Nat) : ak PP GL XX HH NN (k + 6) 141 [A.c (st b)] [] = some ([Res.agg (Su.cs (cp b).1), Res.c (ii (cp b).2)], []) := by
  exact rt (aa (eE b hb k) <| aa (cn h1) <| xa4 (cn h2) <| aa tt <| trivial) (gs := xc (G.call [Res.c (st (ac b).1), Res.c (ii (ac b).2)] []) <| xc gF <| xg5 gT <| []) (by simp only [cp, h1, h2, vq] <;> rfl)
theorem B4 (b : ByteArray) (hb : b.size ≤ 1000000) (h1 : (Prod.snd (ac b) == 0) = true) (h2 : ((↑(ByteArray.size (ac b).1) : Int) == 37) = true) (h4 : (ac b).1[4]? = some (af (ac b).1 4)) (h7 : decide ((↑(UInt8.toNat (af (ac b).1 4)) : Int) > 7) = true) (k : Nat) : ak PP GL XX HH NN (k + 6) 141 [A.c (st b)] [] = some ([Res.agg (Su.cs (cp b).1), Res.c (ii (cp b).2)], []) := by
  exact rt (aa (eE b hb k) <| aa (cn h1) <| xa2 (cn h2) <| aa (rfl : (4 : Int) = (4 : Int)) <| aa h4 <| xa2 (cn h2) <| aa h7 <| trivial) (gs := xc (G.call [Res.c (st (ac b).1), Res.c (ii (ac b).2)] []) <| xg3 gF <| xc (G.byte 4 (af (ac b).1 4)) <| xg2 gF <| [gT]) (by simp only [cp, h1, h2, h7, vq] <;> rfl)
theorem CP (b : ByteArray) (hb : b.size ≤ 1000000) (h1 : (Prod.snd (ac b) == 0) = true) (h2 : ((↑(ByteArray.size (ac b).1) : Int) == 37) = true) (hs : ByteArray.size (ac b).1 = 37) (h3 : (ac b).1[3]? = some (af (ac b).1 3)) (h4 : (ac b).1[4]? = some (af (ac b).1 4)) (h7 : decide ((↑(UInt8.toNat (af (ac b).1 4)) : Int) > 7) = false) (h8 : UInt8.toNat (af (ac b).1 4) ≤ 7) (k : Nat) : ak PP GL XX HH NN (k + 6) 141 [A.c (st b)] [] = some ([Res.agg (Su.cs (cp b).1), Res.c (ii (cp b).2)], []) := by
  rcases bft (ce (Su.mk (IntKind.wrap .i64 (↑(UInt8.toNat (af (ac b).1 3)) : Int)) ((Ve.mk (a9 (ac b).1 5) (a9 (ac b).1 13) (a9 (ac b).1 21) (a9 (ac b).1 29))) (aK (af (ac b).1 4) 0) (aK (af (ac b).1 4) 1) (aK (af (ac b).1 4) 2))) with z0 | z0
  · rcases bft (cH (Su.mk (IntKind.wrap .i64 (↑(UInt8.toNat (af (ac b).1 3)) : Int)) ((Ve.mk (a9 (ac b).1 5) (a9 (ac b).1 13) (a9 (ac b).1 21) (a9 (ac b).1 29))) (aK (af (ac b).1 4) 0) (aK (af (ac b).1 4) 1) (aK (af (ac b).1 4) 2)) == Prod.fst (ac b)) with z1 | z1
    · exact rt (aa (eE b hb k) <| aa (cn h1) <| xa2 (cn h2) <| aa (rfl : (4 : Int) = (4 : Int)) <| aa h4 <| xa2 (cn h2) <| aa h7 <| aa (rfl : (4 : Int) = (4 : Int)) <| aa h4 <| aa (rH (af (ac b).1 4) h8 (k + 4)) <| aa (rfl : (3 : Int) = (3 : Int)) <| aa h3 <| aa (EW (ac b).1 hs (k + 2)) <| aa (Az (ac b).1 hs (k + 2)) <| aa (Ao (ac b).1 hs (k + 2)) <| aa (AB (ac b).1 hs (k + 2)) <| aa (rfl : (0 : Int) = (0 : Int)) <| aa (rfl : some ([bo (aK (af (ac b).1 (4 : Nat)) (0 : Nat))]) = some ([bo (aK (af (ac b).1 (4 : Nat)) (0 : Nat))])) <| aa (rfl : (1 : Int) = (1 : Int)) <| aa (rfl : some ([bo (aK (af (ac b).1 (4 : Nat)) (1 : Nat))]) = some ([bo (aK (af (ac b).1 (4 : Nat)) (1 : Nat))])) <| aa (rfl : (2 : Int) = (2 : Int)) <| aa (rfl : some ([bo (aK (af (ac b).1 (4 : Nat)) (2 : Nat))]) = some ([bo (aK (af (ac b).1 (4 : Nat)) (2 : Nat))])) <| aa (js ((Su.mk (IntKind.wrap .i64 (↑(UInt8.toNat (af (ac b).1 3)) : Int)) ((Ve.mk (a9 (ac b).1 5) (a9 (ac b).1 13) (a9 (ac b).1 21) (a9 (ac b).1 29))) (aK (af (ac b).1 4) 0) (aK (af (ac b).1 4) 1) (aK (af (ac b).1 4) 2))) (k + 4)) <| xa2 (cn z0) <| aa (oM ((Su.mk (IntKind.wrap .i64 (↑(UInt8.toNat (af (ac b).1 3)) : Int)) ((Ve.mk (a9 (ac b).1 5) (a9 (ac b).1 13) (a9 (ac b).1 21) (a9 (ac b).1 29))) (aK (af (ac b).1 4) 0) (aK (af (ac b).1 4) 1) (aK (af (ac b).1 4) 2))) (k + 2)) <| xa3 (cn z0) <| aa (cn z1) <| trivial) (gs := xc (G.call [Res.c (st (ac b).1), Res.c (ii (ac b).2)] []) <| xg3 gF <| xc (G.byte 4 (af (ac b).1 4)) <| xg3 gF <| xc (G.byte 4 (af (ac b).1 4)) <| xc (G.call [Res.top 1 [[bo (aK (af (ac b).1 4) 0)], [bo (aK (af (ac b).1 4) 1)], [bo (aK (af (ac b).1 4) 2)]], Res.c (bo true)] []) <| xc (G.byte 3 (af (ac b).1 3)) <| xc (G.call [Res.c (u (a9 (ac b).1 5))] []) <| xc (G.call [Res.c (u (a9 (ac b).1 13))] []) <| xc (G.call [Res.c (u (a9 (ac b).1 21))] []) <| xc (G.call [Res.c (u (a9 (ac b).1 29))] []) <| xc (G.idx 0 [bo (aK (af (ac b).1 4) 0)]) <| xc (G.idx 1 [bo (aK (af (ac b).1 4) 1)]) <| xc (G.idx 2 [bo (aK (af (ac b).1 4) 2)]) <| xc (G.call [Res.c (bo (ce (Su.mk (IntKind.wrap .i64 (↑(UInt8.toNat (af (ac b).1 3)) : Int)) ((Ve.mk (a9 (ac b).1 5) (a9 (ac b).1 13) (a9 (ac b).1 21) (a9 (ac b).1 29))) (aK (af (ac b).1 4) 0) (aK (af (ac b).1 4) 1) (aK (af (ac b).1 4) 2))))] []) <| xg2 gF <| xc (G.call [Res.c (st (cH (Su.mk (IntKind.wrap .i64 (↑(UInt8.toNat (af (ac b).1 3)) : Int)) ((Ve.mk (a9 (ac b).1 5) (a9 (ac b).1 13) (a9 (ac b).1 21) (a9 (ac b).1 29))) (aK (af (ac b).1 4) 0) (aK (af (ac b).1 4) 1) (aK (af (ac b).1 4) 2))))] []) <| xg4 gF <| []) (by simp only [cp, zt, h1, h2, h7, z0, z1, vq] <;> rfl)
    · exact rt (aa (eE b hb k) <| aa (cn h1) <| xa2 (cn h2) <| aa (rfl : (4 : Int) = (4 : Int)) <| aa h4 <| xa2 (cn h2) <| aa h7 <| aa (rfl : (4 : Int) = (4 : Int)) <| aa h4 <| aa (rH (af (ac b).1 4) h8 (k + 4)) <| aa (rfl : (3 : Int) = (3 : Int)) <| aa h3 <| aa (EW (ac b).1 hs (k + 2)) <| aa (Az (ac b).1 hs (k + 2)) <| aa (Ao (ac b).1 hs (k + 2)) <| aa (AB (ac b).1 hs (k + 2)) <| aa (rfl : (0 : Int) = (0 : Int)) <| aa (rfl : some ([bo (aK (af (ac b).1 (4 : Nat)) (0 : Nat))]) = some ([bo (aK (af (ac b).1 (4 : Nat)) (0 : Nat))])) <| aa (rfl : (1 : Int) = (1 : Int)) <| aa (rfl : some ([bo (aK (af (ac b).1 (4 : Nat)) (1 : Nat))]) = some ([bo (aK (af (ac b).1 (4 : Nat)) (1 : Nat))])) <| aa (rfl : (2 : Int) = (2 : Int)) <| aa (rfl : some ([bo (aK (af (ac b).1 (4 : Nat)) (2 : Nat))]) = some ([bo (aK (af (ac b).1 (4 : Nat)) (2 : Nat))])) <| aa (js ((Su.mk (IntKind.wrap .i64 (↑(UInt8.toNat (af (ac b).1 3)) : Int)) ((Ve.mk (a9 (ac b).1 5) (a9 (ac b).1 13) (a9 (ac b).1 21) (a9 (ac b).1 29))) (aK (af (ac b).1 4) 0) (aK (af (ac b).1 4) 1) (aK (af (ac b).1 4) 2))) (k + 4)) <| xa2 (cn z0) <| aa (oM ((Su.mk (IntKind.wrap .i64 (↑(UInt8.toNat (af (ac b).1 3)) : Int)) ((Ve.mk (a9 (ac b).1 5) (a9 (ac b).1 13) (a9 (ac b).1 21) (a9 (ac b).1 29))) (aK (af (ac b).1 4) 0) (aK (af (ac b).1 4) 1) (aK (af (ac b).1 4) 2))) (k + 2)) <| xa3 (cn z0) <| aa (cn z1) <| trivial) (gs := xc (G.call [Res.c (st (ac b).1), Res.c (ii (ac b).2)] []) <| xg3 gF <| xc (G.byte 4 (af (ac b).1 4)) <| xg3 gF <| xc (G.byte 4 (af (ac b).1 4)) <| xc (G.call [Res.top 1 [[bo (aK (af (ac b).1 4) 0)], [bo (aK (af (ac b).1 4) 1)], [bo (aK (af (ac b).1 4) 2)]], Res.c (bo true)] []) <| xc (G.byte 3 (af (ac b).1 3)) <| xc (G.call [Res.c (u (a9 (ac b).1 5))] []) <| xc (G.call [Res.c (u (a9 (ac b).1 13))] []) <| xc (G.call [Res.c (u (a9 (ac b).1 21))] []) <| xc (G.call [Res.c (u (a9 (ac b).1 29))] []) <| xc (G.idx 0 [bo (aK (af (ac b).1 4) 0)]) <| xc (G.idx 1 [bo (aK (af (ac b).1 4) 1)]) <| xc (G.idx 2 [bo (aK (af (ac b).1 4) 2)]) <| xc (G.call [Res.c (bo (ce (Su.mk (IntKind.wrap .i64 (↑(UInt8.toNat (af (ac b).1 3)) : Int)) ((Ve.mk (a9 (ac b).1 5) (a9 (ac b).1 13) (a9 (ac b).1 21) (a9 (ac b).1 29))) (aK (af (ac b).1 4) 0) (aK (af (ac b).1 4) 1) (aK (af (ac b).1 4) 2))))] []) <| xg2 gF <| xc (G.call [Res.c (st (cH (Su.mk (IntKind.wrap .i64 (↑(UInt8.toNat (af (ac b).1 3)) : Int)) ((Ve.mk (a9 (ac b).1 5) (a9 (ac b).1 13) (a9 (ac b).1 21) (a9 (ac b).1 29))) (aK (af (ac b).1 4) 0) (aK (af (ac b).1 4) 1) (aK (af (ac b).1 4) 2))))] []) <| xg3 gF <| [gT]) (by simp only [cp, zt, h1, h2, h7, z0, z1, vq] <;> rfl)
  · exact rt (aa (eE b hb k) <| aa (cn h1) <| xa2 (cn h2) <| aa (rfl : (4 : Int) = (4 : Int)) <| aa h4 <| xa2 (cn h2) <| aa h7 <| aa (rfl : (4 : Int) = (4 : Int)) <| aa h4 <| aa (rH (af (ac b).1 4) h8 (k + 4)) <| aa (rfl : (3 : Int) = (3 : Int)) <| aa h3 <| aa (EW (ac b).1 hs (k + 2)) <| aa (Az (ac b).1 hs (k + 2)) <| aa (Ao (ac b).1 hs (k + 2)) <| aa (AB (ac b).1 hs (k + 2)) <| aa (rfl : (0 : Int) = (0 : Int)) <| aa (rfl : some ([bo (aK (af (ac b).1 (4 : Nat)) (0 : Nat))]) = some ([bo (aK (af (ac b).1 (4 : Nat)) (0 : Nat))])) <| aa (rfl : (1 : Int) = (1 : Int)) <| aa (rfl : some ([bo (aK (af (ac b).1 (4 : Nat)) (1 : Nat))]) = some ([bo (aK (af (ac b).1 (4 : Nat)) (1 : Nat))])) <| aa (rfl : (2 : Int) = (2 : Int)) <| aa (rfl : some ([bo (aK (af (ac b).1 (4 : Nat)) (2 : Nat))]) = some ([bo (aK (af (ac b).1 (4 : Nat)) (2 : Nat))])) <| aa (js ((Su.mk (IntKind.wrap .i64 (↑(UInt8.toNat (af (ac b).1 3)) : Int)) ((Ve.mk (a9 (ac b).1 5) (a9 (ac b).1 13) (a9 (ac b).1 21) (a9 (ac b).1 29))) (aK (af (ac b).1 4) 0) (aK (af (ac b).1 4) 1) (aK (af (ac b).1 4) 2))) (k + 4)) <| xa5 (cn z0) <| aa tt <| trivial) (gs := xc (G.call [Res.c (st (ac b).1), Res.c (ii (ac b).2)] []) <| xg3 gF <| xc (G.byte 4 (af (ac b).1 4)) <| xg3 gF <| xc (G.byte 4 (af (ac b).1 4)) <| xc (G.call [Res.top 1 [[bo (aK (af (ac b).1 4) 0)], [bo (aK (af (ac b).1 4) 1)], [bo (aK (af (ac b).1 4) 2)]], Res.c (bo true)] []) <| xc (G.byte 3 (af (ac b).1 3)) <| xc (G.call [Res.c (u (a9 (ac b).1 5))] []) <| xc (G.call [Res.c (u (a9 (ac b).1 13))] []) <| xc (G.call [Res.c (u (a9 (ac b).1 21))] []) <| xc (G.call [Res.c (u (a9 (ac b).1 29))] []) <| xc (G.idx 0 [bo (aK (af (ac b).1 4) 0)]) <| xc (G.idx 1 [bo (aK (af (ac b).1 4) 1)]) <| xc (G.idx 2 [bo (aK (af (ac b).1 4) 2)]) <| xc (G.call [Res.c (bo (ce (Su.mk (IntKind.wrap .i64 (↑(UInt8.toNat (af (ac b).1 3)) : Int)) ((Ve.mk (a9 (ac b).1 5) (a9 (ac b).1 13) (a9 (ac b).1 21) (a9 (ac b).1 29))) (aK (af (ac b).1 4) 0) (aK (af (ac b).1 4) 1) (aK (af (ac b).1 4) 2))))] []) <| xg6 gT <| []) (by simp only [cp, zt, h1, h2, h7, z0, vq] <;> rfl)
theorem wP (b : ByteArray) (hb : b.size ≤ 1000000) (k : Nat) : ak PP GL XX HH NN (k + 6) 141 [.c (st b)] [] = some ([.agg (cp b).1.cs, .c (ii (cp b).2)], []) := by
  cases h1 : (ac b).2 == 0 with
  | false => exact Cq b hb h1 k
  | true =>
    cases h2 : ((ac b).1.size : Int) == 37 with
    | false => exact Ct b hb h1 h2 k
    | true =>
      have hs : (ac b).1.size = 37 := by have := eq_of_beq h2; omega
      have h4 := eZ (s := (ac b).1) (i := 4) (by omega)
      cases h7 : decide (((af (ac b).1 4).toNat : Int) > 7) with
      | true => exact B4 b hb h1 h2 h4 h7 k
      | false =>
        have h8 := of_decide_eq_false h7
        exact CP b hb h1 h2 hs (eZ (by omega)) h4 h7 (by omega) k
end Go.Dm
namespace Go.Dm
open Go
theorem y7 (n : Int) : IntKind.wrap .u32 n = mi (BitVec.ofInt 32 n) := by
  unfold IntKind.wrap mi
  simp only [IntKind.signed, IntKind.bits, BitVec.toNat_ofInt]
  simp
  omega
theorem r8 (s : ByteArray) (hs : s.size = 4) (k : Nat) : ak PP GL XX HH NN (k + 2) 143 [.c (st s)] [] = some ([.c (w4 (mi (BitVec.ofInt 32 (cl s.data.toList)))), .c (bo true)], []) := by
  rw [← y7]
  exact EF s hs k
theorem vT (d : Dk) (s : Su) (k : Nat) : ak PP GL XX HH NN (k + 1) 142 [A.agg (Dk.cs d), A.agg (Su.cs s)] [] = some ([Res.c (bo (kY d s))], []) := by
  exact rt (aa (au (eS) d.sure) <| trivial) (gs := [G.len (d.sure.length)]) (by simp only [kY, vq] <;> rfl)
theorem yb (d : Dk) (hc : d.cache.length ≤ 1000000) (hr : ByteArray.size (aR d 0).1 ≤ 1000000) (k : Nat) : ak PP GL XX HH NN (k + 7) 118 [A.agg (Dk.cs d)] [] = some ([Res.agg (Su.cs (eT d).1), Res.c (ii (eT d).2)], []) := by
  rcases bft (Prod.snd (aR d 0) == 0) with z0 | z0
  · rcases bft (Prod.snd (cp (aR d 0).1) == 0) with z1 | z1
    · rcases bft (kY d (cp (aR d 0).1).1) with z2 | z2
      · exact rt (aa (la d 0 hc (k + 3)) <| aa (cn z0) <| aa (wP (aR d 0).1 hr k) <| aa (cn z1) <| aa (vT d (cp (aR d 0).1).1 (k + 5)) <| aa (cn z2) <| trivial) (gs := [G.call [Res.c (st (aR d 0).1), Res.c (ii (aR d 0).2)] [], gF, G.call [Res.agg (Su.cs (cp (aR d 0).1).1), Res.c (ii (cp (aR d 0).1).2)] [], gF, G.call [Res.c (bo (kY d (cp (aR d 0).1).1))] [], gF]) (by simp only [eT, su0, z0, z1, z2, vq] <;> rfl)
      · exact rt (aa (la d 0 hc (k + 3)) <| aa (cn z0) <| aa (wP (aR d 0).1 hr k) <| aa (cn z1) <| aa (vT d (cp (aR d 0).1).1 (k + 5)) <| aa (cn z2) <| trivial) (gs := [G.call [Res.c (st (aR d 0).1), Res.c (ii (aR d 0).2)] [], gF, G.call [Res.agg (Su.cs (cp (aR d 0).1).1), Res.c (ii (cp (aR d 0).1).2)] [], gF, G.call [Res.c (bo (kY d (cp (aR d 0).1).1))] [], gT]) (by simp only [eT, su0, z0, z1, z2, vq] <;> rfl)
    · exact rt (aa (la d 0 hc (k + 3)) <| aa (cn z0) <| aa (wP (aR d 0).1 hr k) <| aa (cn z1) <| trivial) (gs := [G.call [Res.c (st (aR d 0).1), Res.c (ii (aR d 0).2)] [], gF, G.call [Res.agg (Su.cs (cp (aR d 0).1).1), Res.c (ii (cp (aR d 0).1).2)] [], gT]) (by simp only [eT, su0, z0, z1, vq] <;> rfl)
  · exact rt (aa (la d 0 hc (k + 3)) <| aa (cn z0) <| trivial) (gs := [G.call [Res.c (st (aR d 0).1), Res.c (ii (aR d 0).2)] [], gT]) (by simp only [eT, su0, z0, vq] <;> rfl)
theorem AH (d : Dk) (s : Su) (hc : List.length (bm d).cache ≤ 1000) (h1 : List.length (Dk.sure (bi d 0 (bd s).1).1) ≤ 1000000) (h2 : List.length (Dk.cache (bi d 0 (bd s).1).1) ≤ 1000000) (k : Nat) : ak PP GL XX HH NN (k + 6) 131 [A.agg (Dk.cs d), A.agg (Su.cs s)] [] = some ([Res.agg (Dk.cs (cd d s).1), Res.c (ii (cd d s).2)], []) := by
  rcases bft (Prod.snd (bd s) == 0) with z0 | z0
  · rcases bft (kY d s) with z1 | z1
    · rcases bft (Prod.snd (bi d 0 (bd s).1) == 0) with z2 | z2
      · exact rt (aa (kR s k) <| xa3 (cn z0) <| aa (vT d s (k + 4)) <| xa2 (cn z0) <| aa (cn z1) <| aa (mm d 0 (bd s).1 (show List.length (bm d).cache ≤ 1000000 from by omega) (k + 3)) <| aa (cn z2) <| aa (wy (bi d 0 (bd s).1).1 h1 h2 (k + 1)) <| trivial) (gs := xc (G.call [Res.c (st (bd s).1), Res.c (ii (bd s).2)] []) <| xg3 gF <| xc (G.call [Res.c (bo (kY d s))] []) <| xg3 gF <| [G.call [Res.agg (Dk.cs (bi d 0 (bd s).1).1), Res.c (ii (bi d 0 (bd s).1).2)] [], gF, G.call [Res.agg (Dk.cs (dL (bi d 0 (bd s).1).1).1), Res.c (ii (dL (bi d 0 (bd s).1).1).2)] []]) (by simp only [cd, z0, z1, z2, vq] <;> rfl)
      · exact rt (aa (kR s k) <| xa3 (cn z0) <| aa (vT d s (k + 4)) <| xa2 (cn z0) <| aa (cn z1) <| aa (mm d 0 (bd s).1 (show List.length (bm d).cache ≤ 1000000 from by omega) (k + 3)) <| aa (cn z2) <| trivial) (gs := xc (G.call [Res.c (st (bd s).1), Res.c (ii (bd s).2)] []) <| xg3 gF <| xc (G.call [Res.c (bo (kY d s))] []) <| xg3 gF <| [G.call [Res.agg (Dk.cs (bi d 0 (bd s).1).1), Res.c (ii (bi d 0 (bd s).1).2)] [], gT]) (by simp only [cd, z0, z1, z2, vq] <;> rfl)
    · exact rt (aa (kR s k) <| xa3 (cn z0) <| aa (vT d s (k + 4)) <| xa2 (cn z0) <| aa (cn z1) <| trivial) (gs := xc (G.call [Res.c (st (bd s).1), Res.c (ii (bd s).2)] []) <| xg3 gF <| xc (G.call [Res.c (bo (kY d s))] []) <| xg2 gF <| [gT]) (by simp only [cd, z0, z1, vq] <;> rfl)
  · exact rt (aa (kR s k) <| xa5 (cn z0) <| aa tt <| trivial) (gs := xc (G.call [Res.c (st (bd s).1), Res.c (ii (bd s).2)] []) <| xg6 gT <| []) (by simp only [cd, z0, vq] <;> rfl)
theorem BE (d : Dk) (hc : d.cache.length ≤ 1000000) (hr : ByteArray.size (aR d 1).1 ≤ 1000000) (h1 : (Prod.snd (aR d 1) == 0) = false) (k : Nat) : ak PP GL XX HH NN (k + 7) 119 [A.agg (Dk.cs d)] [] = some ([Res.c (w4 (mi (d3 d).1)), Res.c (ii (d3 d).2)], []) := by
  exact rt (aa (la d 1 hc (k + 3)) <| aa (cn h1) <| trivial) (gs := [G.call [Res.c (st (aR d 1).1), Res.c (ii (aR d 1).2)] [], gT]) (by simp only [d3, h1, vq] <;> rfl)
theorem BW (d : Dk) (hc : d.cache.length ≤ 1000000) (hr : ByteArray.size (aR d 1).1 ≤ 1000000) (h1 : (Prod.snd (aR d 1) == 0) = true) (h2 : (Prod.snd (ac (aR d 1).1) == 0) = false) (k : Nat) : ak PP GL XX HH NN (k + 7) 119 [A.agg (Dk.cs d)] [] = some ([Res.c (w4 (mi (d3 d).1)), Res.c (ii (d3 d).2)], []) := by
  exact rt (aa (la d 1 hc (k + 3)) <| aa (cn h1) <| aa (eE (aR d 1).1 hr (k + 1)) <| aa (cn h2) <| trivial) (gs := [G.call [Res.c (st (aR d 1).1), Res.c (ii (aR d 1).2)] [], gF, G.call [Res.c (st (ac (aR d 1).1).1), Res.c (ii (ac (aR d 1).1).2)] [], gT]) (by simp only [d3, h1, h2, vq] <;> rfl)
theorem CB (d : Dk) (hc : d.cache.length ≤ 1000000) (hr : ByteArray.size (aR d 1).1 ≤ 1000000) (h1 : (Prod.snd (aR d 1) == 0) = true) (h2 : (Prod.snd (ac (aR d 1).1) == 0) = true) (h3 : ((↑(ByteArray.size (ac (aR d 1).1).1) : Int) == 4) = false) (k : Nat) : ak PP GL XX HH NN (k + 7) 119 [A.agg (Dk.cs d)] [] = some ([Res.c (w4 (mi (d3 d).1)), Res.c (ii (d3 d).2)], []) := by
  exact rt (aa (la d 1 hc (k + 3)) <| aa (cn h1) <| aa (eE (aR d 1).1 hr (k + 1)) <| aa (cn h2) <| aa (BR (ac (aR d 1).1).1 h3 (k + 4)) <| xa9 tt <| trivial) (gs := xc (G.call [Res.c (st (aR d 1).1), Res.c (ii (aR d 1).2)] []) <| xc gF <| xc (G.call [Res.c (st (ac (aR d 1).1).1), Res.c (ii (ac (aR d 1).1).2)] []) <| xc gF <| xc (G.call [Res.c (w4 0), Res.c (bo false)] []) <| xg9 gT <| []) (by simp only [d3, h1, h2, h3, vq] <;> rfl)
theorem CN (d : Dk) (hc : d.cache.length ≤ 1000000) (hr : ByteArray.size (aR d 1).1 ≤ 1000000) (h1 : (Prod.snd (aR d 1) == 0) = true) (h2 : (Prod.snd (ac (aR d 1).1) == 0) = true) (h3 : ((↑(ByteArray.size (ac (aR d 1).1).1) : Int) == 4) = true) (h4 : ByteArray.size (ac (aR d 1).1).1 = 4) (k : Nat) : ak PP GL XX HH NN (k + 7) 119 [A.agg (Dk.cs d)] [] = some ([Res.c (w4 (mi (d3 d).1)), Res.c (ii (d3 d).2)], []) := by
  rcases bft (d4 (BitVec.ofInt 32 (cl (Array.toList (ByteArray.data (ac (aR d 1).1).1)))) (IntKind.wrap .i64 ((↑(d.sure.length) : Int) - 2))) with z0 | z0
  · exact rt (aa (la d 1 hc (k + 3)) <| aa (cn h1) <| aa (eE (aR d 1).1 hr (k + 1)) <| aa (cn h2) <| aa (r8 (ac (aR d 1).1).1 h4 (k + 4)) <| xa4 ff <| aa (au (eS) d.sure) <| xa2 ff <| aa (kx (BitVec.ofInt 32 (cl (Array.toList (ByteArray.data (ac (aR d 1).1).1)))) (IntKind.wrap .i64 ((↑(d.sure.length) : Int) - 2)) (k + 2)) <| xa2 ff <| aa (cn z0) <| trivial) (gs := xc (G.call [Res.c (st (aR d 1).1), Res.c (ii (aR d 1).2)] []) <| xc gF <| xc (G.call [Res.c (st (ac (aR d 1).1).1), Res.c (ii (ac (aR d 1).1).2)] []) <| xc gF <| xc (G.call [Res.c (w4 (mi (BitVec.ofInt 32 (cl (Array.toList (ByteArray.data (ac (aR d 1).1).1)))))), Res.c (bo true)] []) <| xg4 gF <| xc (G.len (d.sure.length)) <| xg2 gF <| xc (G.call [Res.c (bo (d4 (BitVec.ofInt 32 (cl (Array.toList (ByteArray.data (ac (aR d 1).1).1)))) (IntKind.wrap .i64 ((↑(d.sure.length) : Int) - 2))))] []) <| xg3 gF <| []) (by simp only [d3, h1, h2, h3, z0, vq] <;> rfl)
  · exact rt (aa (la d 1 hc (k + 3)) <| aa (cn h1) <| aa (eE (aR d 1).1 hr (k + 1)) <| aa (cn h2) <| aa (r8 (ac (aR d 1).1).1 h4 (k + 4)) <| xa4 ff <| aa (au (eS) d.sure) <| xa2 ff <| aa (kx (BitVec.ofInt 32 (cl (Array.toList (ByteArray.data (ac (aR d 1).1).1)))) (IntKind.wrap .i64 ((↑(d.sure.length) : Int) - 2)) (k + 2)) <| xa2 ff <| aa (cn z0) <| trivial) (gs := xc (G.call [Res.c (st (aR d 1).1), Res.c (ii (aR d 1).2)] []) <| xc gF <| xc (G.call [Res.c (st (ac (aR d 1).1).1), Res.c (ii (ac (aR d 1).1).2)] []) <| xc gF <| xc (G.call [Res.c (w4 (mi (BitVec.ofInt 32 (cl (Array.toList (ByteArray.data (ac (aR d 1).1).1)))))), Res.c (bo true)] []) <| xg4 gF <| xc (G.len (d.sure.length)) <| xg2 gF <| xc (G.call [Res.c (bo (d4 (BitVec.ofInt 32 (cl (Array.toList (ByteArray.data (ac (aR d 1).1).1)))) (IntKind.wrap .i64 ((↑(d.sure.length) : Int) - 2))))] []) <| xg2 gF <| [gT]) (by simp only [d3, h1, h2, h3, z0, vq] <;> rfl)
theorem AE (d : Dk) (hc : d.cache.length ≤ 1000000) (hr : (aR d 1).1.size ≤ 1000000) (k : Nat) : ak PP GL XX HH NN (k + 7) 119 [.agg d.cs] [] = some ([.c (w4 (mi (d3 d).1)), .c (ii (d3 d).2)], []) := by
  cases h1 : (aR d 1).2 == 0 with
  | false => exact BE d hc hr h1 k
  | true =>
    cases h2 : (ac (aR d 1).1).2 == 0 with
    | false => exact BW d hc hr h1 h2 k
    | true =>
      cases h3 : ((ac (aR d 1).1).1.size : Int) == 4 with
      | false => exact CB d hc hr h1 h2 h3 k
      | true => exact CN d hc hr h1 h2 h3 (by have := eq_of_beq h3; omega) k
theorem Bc (d : Dk) (m : BitVec 32) (hc : List.length (bm d).cache ≤ 1000) (k : Nat) : ak PP GL XX HH NN (k + 5) 162 [A.agg (Dk.cs d), A.c (w4 (mi m))] [] = some ([Res.agg (Dk.cs (cV d m).1), Res.c (ii (cV d m).2)], []) := by
  rcases bft (d4 m (IntKind.wrap .i64 ((↑(d.sure.length) : Int) - 2))) with z0 | z0
  · exact rt (aa (au (eS) d.sure) <| aa (kx m (IntKind.wrap .i64 ((↑(d.sure.length) : Int) - 2)) k) <| aa (cn z0) <| aa (qS (mi m) (k + 2)) <| aa (oL (cI (mi m)) (show ByteArray.size (cI (mi m)) ≤ 1000000 from by first | omega | (simp only [ByteArray.size_append, ax, aO, aU, List.size_toArray, aq, aA, aw, an, al, List.length_cons, List.length_nil] at *; omega)) k) <| aa (mm d 1 (bG (cI (mi m))) (show List.length (bm d).cache ≤ 1000000 from by omega) (k + 2)) <| trivial) (gs := [G.len (d.sure.length), G.call [Res.c (bo (d4 m (IntKind.wrap .i64 ((↑(d.sure.length) : Int) - 2))))] [], gF, G.call [Res.c (st (cI (mi m)))] [], G.call [Res.c (st (bG (cI (mi m))))] [], G.call [Res.agg (Dk.cs (bi d 1 (bG (cI (mi m)))).1), Res.c (ii (bi d 1 (bG (cI (mi m)))).2)] []]) (by simp only [cV, z0, vq] <;> rfl)
  · exact rt (aa (au (eS) d.sure) <| aa (kx m (IntKind.wrap .i64 ((↑(d.sure.length) : Int) - 2)) k) <| aa (cn z0) <| trivial) (gs := [G.len (d.sure.length), G.call [Res.c (bo (d4 m (IntKind.wrap .i64 ((↑(d.sure.length) : Int) - 2))))] [], gT]) (by simp only [cV, z0, vq] <;> rfl)
theorem Ez (d : Dk) (m : BitVec 32) (hc : List.length (bm d).cache ≤ 1000) (h1 : List.length (Dk.sure (cV d m).1) ≤ 1000000) (h2 : List.length (Dk.cache (cV d m).1) ≤ 1000000) (k : Nat) : ak PP GL XX HH NN (k + 6) 156 [A.agg (Dk.cs d), A.c (w4 (mi m))] [] = some ([Res.agg (Dk.cs (fu d m).1), Res.c (ii (fu d m).2)], []) := by
  rcases bft (Prod.snd (cV d m) == 0) with z0 | z0
  · exact rt (aa (Bc d m hc k) <| aa (cn z0) <| aa (wy (cV d m).1 h1 h2 (k + 1)) <| trivial) (gs := [G.call [Res.agg (Dk.cs (cV d m).1), Res.c (ii (cV d m).2)] [], gF, G.call [Res.agg (Dk.cs (dL (cV d m).1).1), Res.c (ii (dL (cV d m).1).2)] []]) (by simp only [fu, z0, vq] <;> rfl)
  · exact rt (aa (Bc d m hc k) <| aa (cn z0) <| trivial) (gs := [G.call [Res.agg (Dk.cs (cV d m).1), Res.c (ii (cV d m).2)] [], gT]) (by simp only [fu, z0, vq] <;> rfl)
theorem ko (d : Dk) (i : Int) (k : Nat) : ak PP GL XX HH NN (k + 1) 132 [A.agg (Dk.cs d), A.c (ii i)] [] = some ([Res.c (bo (et d i))], []) := by
  rcases bft (decide (i ≥ 0)) with z0 | z0
  · exact rt (xa4 z0 <| aa (au (eS) d.sure) <| xa3 z0 <| trivial) (gs := xg4 gT <| xc (G.len (d.sure.length)) <| xg3 gT <| []) (by simp only [et, z0, vq] <;> rfl)
  · exact rt (xa7 z0 <| trivial) (gs := xg7 gF <| []) (by simp only [et, z0, vq] <;> rfl)
theorem wH (d : Dk) (i : Int) (hc : d.cache.length ≤ 1000000) (k : Nat) : ak PP GL XX HH NN (k + 4) 107 [A.agg (Dk.cs d), A.c (ii i)] [] = some ([Res.c (st (bj d i).1), Res.c (ii (bj d i).2)], []) := by
  rcases bft (et d i) with z0 | z0
  · rcases bft (Prod.snd (aR d (IntKind.wrap .i64 (i + 2))) == 0) with z1 | z1
    · rcases bft ((↑(ByteArray.size (aR d (IntKind.wrap .i64 (i + 2))).1) : Int) == 8) with z2 | z2
      · exact rt (aa (ko d i (k + 2)) <| aa (cn z0) <| aa (la d (IntKind.wrap .i64 (i + 2)) hc k) <| aa (cn z1) <| aa (cn z2) <| trivial) (gs := xc (G.call [Res.c (bo (et d i))] []) <| xc gF <| xc (G.call [Res.c (st (aR d (IntKind.wrap .i64 (i + 2))).1), Res.c (ii (aR d (IntKind.wrap .i64 (i + 2))).2)] []) <| xg2 gF <| []) (by simp only [bj, z0, z1, z2, vq] <;> rfl)
      · exact rt (aa (ko d i (k + 2)) <| aa (cn z0) <| aa (la d (IntKind.wrap .i64 (i + 2)) hc k) <| aa (cn z1) <| aa (cn z2) <| trivial) (gs := [G.call [Res.c (bo (et d i))] [], gF, G.call [Res.c (st (aR d (IntKind.wrap .i64 (i + 2))).1), Res.c (ii (aR d (IntKind.wrap .i64 (i + 2))).2)] [], gF, gT]) (by simp only [bj, z0, z1, z2, vq] <;> rfl)
    · exact rt (aa (ko d i (k + 2)) <| aa (cn z0) <| aa (la d (IntKind.wrap .i64 (i + 2)) hc k) <| aa (cn z1) <| trivial) (gs := [G.call [Res.c (bo (et d i))] [], gF, G.call [Res.c (st (aR d (IntKind.wrap .i64 (i + 2))).1), Res.c (ii (aR d (IntKind.wrap .i64 (i + 2))).2)] [], gT]) (by simp only [bj, z0, z1, vq] <;> rfl)
  · exact rt (aa (ko d i (k + 2)) <| aa (cn z0) <| trivial) (gs := [G.call [Res.c (bo (et d i))] [], gT]) (by simp only [bj, z0, vq] <;> rfl)
theorem E1 (d : Dk) (i : Int) (data : ByteArray) (hc : List.length (bm d).cache ≤ 1000) (h1 : List.length (Dk.sure (bi d (IntKind.wrap .i64 (i + 2)) data).1) ≤ 1000000) (h2 : List.length (Dk.cache (bi d (IntKind.wrap .i64 (i + 2)) data).1) ≤ 1000000) (k : Nat) : ak PP GL XX HH NN (k + 5) 136 [A.agg (Dk.cs d), A.c (ii i), A.c (st data)] [] = some ([Res.agg (Dk.cs (gN d i data).1), Res.c (ii (gN d i data).2)], []) := by
  rcases bft (et d i) with z0 | z0
  · rcases bft ((↑(data.size) : Int) == 8) with z1 | z1
    · rcases bft (Prod.snd (bi d (IntKind.wrap .i64 (i + 2)) data) == 0) with z2 | z2
      · exact rt (aa (ko d i (k + 3)) <| aa (cn z0) <| aa (cn z1) <| aa (mm d (IntKind.wrap .i64 (i + 2)) data (show List.length (bm d).cache ≤ 1000000 from by omega) (k + 2)) <| aa (cn z2) <| aa (wy (bi d (IntKind.wrap .i64 (i + 2)) data).1 h1 h2 k) <| trivial) (gs := xc (G.call [Res.c (bo (et d i))] []) <| xg2 gF <| [G.call [Res.agg (Dk.cs (bi d (IntKind.wrap .i64 (i + 2)) data).1), Res.c (ii (bi d (IntKind.wrap .i64 (i + 2)) data).2)] [], gF, G.call [Res.agg (Dk.cs (dL (bi d (IntKind.wrap .i64 (i + 2)) data).1).1), Res.c (ii (dL (bi d (IntKind.wrap .i64 (i + 2)) data).1).2)] []]) (by simp only [gN, z0, z1, z2, vq] <;> rfl)
      · exact rt (aa (ko d i (k + 3)) <| aa (cn z0) <| aa (cn z1) <| aa (mm d (IntKind.wrap .i64 (i + 2)) data (show List.length (bm d).cache ≤ 1000000 from by omega) (k + 2)) <| aa (cn z2) <| trivial) (gs := xc (G.call [Res.c (bo (et d i))] []) <| xg2 gF <| [G.call [Res.agg (Dk.cs (bi d (IntKind.wrap .i64 (i + 2)) data).1), Res.c (ii (bi d (IntKind.wrap .i64 (i + 2)) data).2)] [], gT]) (by simp only [gN, z0, z1, z2, vq] <;> rfl)
    · exact rt (aa (ko d i (k + 3)) <| aa (cn z0) <| aa (cn z1) <| trivial) (gs := [G.call [Res.c (bo (et d i))] [], gF, gT]) (by simp only [gN, z0, z1, vq] <;> rfl)
  · exact rt (aa (ko d i (k + 3)) <| aa (cn z0) <| trivial) (gs := [G.call [Res.c (bo (et d i))] [], gT]) (by simp only [gN, z0, vq] <;> rfl)
end Go.Dm
namespace Go.Dm
open Go
def yT (d : Dk) (c0 : List (List C)) (c1 : Int) : St := St.mk (T.hole :: T.k (K.v (V.ptr 0 0)) :: T.hole :: T.hole :: T.k (K.v (V.own 1 c0 (Tk.tok 0))) :: tc (ii c1) :: hs 24 []) [[V.c (C.slice 1 (List.map eS d.sure)), V.c (C.slice 2 (List.map Wr.cs d.cache)), V.c (ii d.fuse), V.c (bo d.dead)]] [c0.length]
theorem C2 (d : Dk) (l : List ByteArray) (i : Nat) (hc : d.cache.length ≤ 1000000) (hl : l.length ≤ 1000000) (k : Nat) (z0 : (decide ((↑i : Int) < IntKind.wrap .i64 ((↑(d.sure.length) : Int) - 2))) = true) (z1 : (Prod.snd (bj d (↑i : Int)) == 0) = true) : bw (EE (k + 4)) (HH 120) NN (LB PP 120 3) 1 1 (yT d (List.map eS l) (↑i : Int)) (yT d (List.map eS (l ++ [Prod.fst (bj d (↑i : Int))])) (IntKind.wrap .i64 ((↑i : Int) + 1))) :=
  bh (aa (au (eS) d.sure) <| aa z0 <| aa (wH d ((↑i : Int)) hc k) <| aa (cn z1) <| aa (bL (eS) (l) ([Prod.fst (bj d (↑i : Int))])) <| aa (aV (eS) (l := l ++ [Prod.fst (bj d (↑i : Int))]) (n := 1073741824) (by simp only [vr]; omega)) <| aa (Eq.refl (List.length (List.map eS l))) <| trivial) (gs := [G.len (d.sure.length), gT, G.call [Res.c (st (bj d (↑i : Int)).1), Res.c (ii (bj d (↑i : Int)).2)] [], gF, G.app (List.map eS (l ++ [Prod.fst (bj d (↑i : Int))]))]) (by kernel_rfl)
def my (d : Dk) (l : List ByteArray) (i : Nat) : St := St.mk (T.hole :: T.k (K.v (V.ptr 0 0)) :: T.k (K.v (V.own 1 [] Tk.exact)) :: tc (ii (bj d (↑i : Int)).2) :: T.k (K.v (V.own 1 (List.map eS l) (Tk.tok 0))) :: tc (ii (↑i : Int)) :: tc (st (bj d (↑i : Int)).1) :: tc (ii (bj d (↑i : Int)).2) :: tc (ii (↑i : Int)) :: T.k (K.v (V.ptr 0 0)) :: tc (C.slice 1 (List.map eS d.sure)) :: tc (ii (↑(d.sure.length) : Int)) :: tc (ii (IntKind.wrap .i64 ((↑(d.sure.length) : Int) - 2))) :: tc (bo (decide ((↑i : Int) < IntKind.wrap .i64 ((↑(d.sure.length) : Int) - 2)))) :: T.hole :: T.hole :: T.tup [K.v (V.c (st (bj d (↑i : Int)).1)), K.v (V.c (ii (bj d (↑i : Int)).2))] :: T.k (K.agg [V.c (C.slice 1 (List.map eS d.sure)), V.c (C.slice 2 (List.map Wr.cs d.cache)), V.c (ii d.fuse), V.c (bo d.dead)]) :: tc (ii (↑i : Int)) :: T.tup [K.v (V.c (st (bj d (↑i : Int)).1)), K.v (V.c (ii (bj d (↑i : Int)).2))] :: tc (st (bj d (↑i : Int)).1) :: tc (ii (bj d (↑i : Int)).2) :: tc (ii (bj d (↑i : Int)).2) :: tc (bo (Prod.snd (bj d (↑i : Int)) != 0)) :: tc (ii (bj d (↑i : Int)).2) :: hs 5 []) [[V.c (C.slice 1 (List.map eS d.sure)), V.c (C.slice 2 (List.map Wr.cs d.cache)), V.c (ii d.fuse), V.c (bo d.dead)]] [List.length (List.map eS l)]
theorem Ci (d : Dk) (l : List ByteArray) (i : Nat) (hc : d.cache.length ≤ 1000000) (k : Nat) (z0 : (decide ((↑i : Int) < IntKind.wrap .i64 ((↑(d.sure.length) : Int) - 2))) = true) (z1 : (Prod.snd (bj d (↑i : Int)) == 0) = false) : cm (EE (k + 4)) (HH 120) NN (LB PP 120 3) (yT d (List.map eS l) (↑i : Int)) (Ext.ret) (my d l i) :=
  bI (aa (au (eS) d.sure) <| aa z0 <| aa (wH d ((↑i : Int)) hc k) <| aa (cn z1) <| trivial) (gs := [G.len (d.sure.length), gT, G.call [Res.c (st (bj d (↑i : Int)).1), Res.c (ii (bj d (↑i : Int)).2)] [], gT]) (by kernel_rfl)
def mu (d : Dk) (l : List ByteArray) (i : Nat) : St := St.mk (T.hole :: T.k (K.v (V.ptr 0 0)) :: T.hole :: T.hole :: T.k (K.v (V.own 1 (List.map eS l) (Tk.tok 0))) :: tc (ii (↑i : Int)) :: T.hole :: T.hole :: tc (ii (↑i : Int)) :: T.k (K.v (V.ptr 0 0)) :: tc (C.slice 1 (List.map eS d.sure)) :: tc (ii (↑(d.sure.length) : Int)) :: tc (ii (IntKind.wrap .i64 ((↑(d.sure.length) : Int) - 2))) :: tc (bo (decide ((↑i : Int) < IntKind.wrap .i64 ((↑(d.sure.length) : Int) - 2)))) :: hs 16 []) [[V.c (C.slice 1 (List.map eS d.sure)), V.c (C.slice 2 (List.map Wr.cs d.cache)), V.c (ii d.fuse), V.c (bo d.dead)]] [List.length (List.map eS l)]
theorem BT (d : Dk) (l : List ByteArray) (i : Nat) (k : Nat) (z0 : (decide ((↑i : Int) < IntKind.wrap .i64 ((↑(d.sure.length) : Int) - 2))) = false) : cm (EE (k + 4)) (HH 120) NN (LB PP 120 3) (yT d (List.map eS l) (↑i : Int)) (Ext.exit 0) (mu d l i) :=
  bI (aa (au (eS) d.sure) <| aa z0 <| trivial) (gs := [G.len (d.sure.length), gF]) (by kernel_rfl)
theorem FT (d : Dk) (hs : d.sure.length ≤ 1000000) (hc : d.cache.length ≤ 1000000) :
    ((qK d = ((List.range (d.sure.length - 2)).map fun (i : Nat) => (bj d (i : Int)).1, 0)) ∧ ∀ k, bz (EE (k + 4)) (HH 120) NN (LB PP 120 3) (yT d [] 0) (.exit 0) (mu d ((List.range (d.sure.length - 2)).map fun (i : Nat) => (bj d (i : Int)).1) (d.sure.length - 2 : Nat))) ∨
    ∃ (l : List ByteArray) (i : Nat), qK d = ([], (bj d (i : Int)).2) ∧ ∀ k, bz (EE (k + 4)) (HH 120) NN (LB PP 120 3) (yT d [] 0) .ret (my d l i) := by
  have hn : ∀ i : Nat, i < d.sure.length - 2 → decide ((i : Int) < IntKind.wrap .i64 ((d.sure.length : Int) - 2)) = true := fun i hi => decide_eq_true (by rw [ej (by omega) (by omega)]; omega)
  have hn2 : decide (((d.sure.length - 2 : Nat) : Int) < IntKind.wrap .i64 ((d.sure.length : Int) - 2)) = false := decide_eq_false (by rw [ej (by omega) (by omega)]; omega)
  rcases sL (E := fun k => EE (k + 4)) (H := HH 120) (n := NN) (b := LB PP 120 3) (fun i => yT d (((List.range i).map fun (i : Nat) => (bj d (i : Int)).1).map eS) (i : Nat)) (List.range (d.sure.length - 2)) (fun (i : Nat) => !((bj d (i : Int)).2 == 0)) (fun i x => my d ((List.range i).map fun (i : Nat) => (bj d (i : Int)).1) i) (mu d ((List.range (d.sure.length - 2)).map fun (i : Nat) => (bj d (i : Int)).1) (d.sure.length - 2 : Nat)) (nv := 1) (nt := 1) (e := .ret) (e' := .exit 0) (by kernel_rfl) (by kernel_rfl)
    (fun k i x hx hp => by
      have hi := dp hx
      rw [List.length_range] at hi
      have hxi : x = i := by have := (List.getElem?_eq_some_iff.1 hx).2; simpa using this.symm
      subst hxi
      have := C2 d ((List.range x).map fun (i : Nat) => (bj d (i : Int)).1) x hc (by simp; omega) k (hn x hi) (by simpa using hp)
      rw [w64 hi (by omega)] at this
      rw [List.range_succ, List.map_append, List.map_cons, List.map_nil]
      exact this)
    (fun k i x hx hp => by
      have hi := dp hx
      rw [List.length_range] at hi
      have hxi : x = i := by have := (List.getElem?_eq_some_iff.1 hx).2; simpa using this.symm
      subst hxi
      exact Ci d _ x hc k (hn x hi) (by simpa using hp))
    (fun k => by rw [List.length_range]; exact BT d _ _ k hn2) (by rw [List.length_range]; unfold NN; omega) with ⟨h1, h2⟩ | ⟨h1, i, x, hx, hp, hf, _, h2⟩
  · refine .inl ⟨?_, h2⟩
    unfold qK
    have : (List.range (d.sure.length - 2)).find? (fun (i : Nat) => !((bj d (i : Int)).2 == 0)) = none := by
      rw [List.find?_eq_none]
      rw [List.any_eq_false] at h1
      exact h1
    rw [this]
  · have hxi : x = i := by have := (List.getElem?_eq_some_iff.1 hx).2; simpa using this.symm
    subst hxi
    refine .inr ⟨_, x, ?_, h2⟩
    unfold qK
    rw [hf]
theorem FZ (d : Dk) (l : List ByteArray) (i : Nat) (hL : ∀ k, bz (EE (k + 4)) (HH 120) NN (LB PP 120 3) (yT d [] 0) Ext.ret (my d l i)) (k : Nat) : ak PP GL XX HH NN (k + 5) 120 [A.agg (Dk.cs d)] [] = some ([Res.top 1 [], Res.c (ii (bj d (↑i : Int)).2)], []) := by
  exact ro (g := 120) (aa (hL k) <| trivial) (gs := [G.loop Ext.ret (my d l i)])
theorem FS (d : Dk) (l : List ByteArray) (i : Nat) (hL : ∀ k, bz (EE (k + 4)) (HH 120) NN (LB PP 120 3) (yT d [] 0) (Ext.exit 0) (mu d l i)) (k : Nat) : ak PP GL XX HH NN (k + 5) 120 [A.agg (Dk.cs d)] [] = some ([Res.top 1 (List.map eS l), Res.c (ii 0)], []) := by
  exact ro (g := 120) (aa (hL k) <| aa (Eq.refl (List.length (List.map eS l))) <| trivial) (gs := [G.loop (Ext.exit 0) (mu d l i)])
theorem Fo (d : Dk) (hs : d.sure.length ≤ 1000000) (hc : d.cache.length ≤ 1000000) (k : Nat) : ak PP GL XX HH NN (k + 5) 120 [.agg d.cs] [] = some ([.top 1 ((qK d).1.map eS), .c (ii (qK d).2)], []) := by
  rcases FT d hs hc with ⟨h1, h2⟩ | ⟨l, i, h1, h2⟩
  · rw [h1]; exact FS d _ _ h2 k
  · rw [h1]; exact FZ d l i h2 k
theorem CR (s : Su) (q : Bool) (m : BitVec 32) (k : Nat) : ak PP GL XX HH NN (k + 1) 70 [A.agg (Su.cs s), A.c (bo q), A.c (w4 (mi m))] [] = some ([Res.agg (He.cs (Bz s q m))], []) := by
  rcases bft s.pri with z0 | z0
  · exact rt (xa3 z0 <| trivial) (gs := xg3 gT <| []) (by simp only [Bz, z0, vq] <;> rfl)
  · exact rt (xa3 z0 <| trivial) (gs := xg3 gF <| []) (by simp only [Bz, z0, vq] <;> rfl)
theorem cS (h : He) (k : Nat) : ak PP GL XX HH NN (k + 5) 148 [A.agg (He.cs h)] [] = some ([Res.c (bo (bK h))], []) := by
  rcases bft (decide (He.blocks h ≥ 1)) with z0 | z0
  · rcases bft (decide (He.blocks h ≤ 32)) with z1 | z1
    · rcases bft (Ve.cur h.v == 0) with z2 | z2
      · exact rt (xa4 z0 <| xa5 z1 <| xa6 (cn z2) <| m6 ff <| trivial) (gs := xg9 gT <| bv gF <| xg6 gF <| []) (by simp only [bK, z0, z1, z2, vq] <;> rfl)
      · rcases bft (d4 h.mask h.blocks) with z3 | z3
        · rcases bft h.pri with z4 | z4
          · rcases bft h.was with z5 | z5
            · exact rt (xa4 z0 <| xa5 z1 <| xa5 (cn z2) <| aa (kx h.mask h.blocks k) <| aa (cn z2) <| xa3 z3 <| xa2 z4 <| aa z3 <| aa z4 <| xa2 z3 <| xa6 (cn z5) <| trivial) (gs := bv gT <| xg2 gT <| xc (G.call [Res.c (bo (d4 h.mask h.blocks))] []) <| mC gT <| xg6 gF <| []) (by simp only [bK, z0, z1, z2, z3, z4, z5, vq] <;> rfl)
            · exact rt (xa4 z0 <| xa5 z1 <| xa5 (cn z2) <| aa (kx h.mask h.blocks k) <| aa (cn z2) <| xa3 z3 <| xa2 z4 <| aa z3 <| aa z4 <| xa2 z3 <| xa3 (cn z5) <| xa2 z4 <| aa (cn z5) <| aa z4 <| xa2 (cn z5) <| trivial) (gs := bv gT <| xg2 gT <| xc (G.call [Res.c (bo (d4 h.mask h.blocks))] []) <| bv gT <| xg7 gT <| []) (by simp only [bK, z0, z1, z2, z3, z4, z5, vq] <;> rfl)
          · exact rt (xa4 z0 <| xa5 z1 <| xa5 (cn z2) <| aa (kx h.mask h.blocks k) <| aa (cn z2) <| xa3 z3 <| xa2 z4 <| aa z3 <| aa z4 <| xa2 z3 <| xa3 tt <| xa2 z4 <| aa tt <| aa z4 <| xa2 tt <| trivial) (gs := bv gT <| xg2 gT <| xc (G.call [Res.c (bo (d4 h.mask h.blocks))] []) <| xg4 gT <| xg2 gF <| xc gT <| xc gF <| xg5 gT <| xg2 gF <| xc gT <| xc gF <| xg2 gT <| []) (by simp only [bK, z0, z1, z2, z3, z4, vq] <;> rfl)
        · exact rt (xa4 z0 <| xa5 z1 <| xa5 (cn z2) <| aa (kx h.mask h.blocks k) <| aa (cn z2) <| xa6 z3 <| xa6 ff <| trivial) (gs := bv gT <| xg2 gT <| xc (G.call [Res.c (bo (d4 h.mask h.blocks))] []) <| xc gT <| bv gF <| []) (by simp only [bK, z0, z1, z2, z3, vq] <;> rfl)
    · exact rt (xa4 z0 <| xa5 z1 <| m6 ff <| xa6 ff <| trivial) (gs := xg4 gT <| bv gF <| gu gF <| []) (by simp only [bK, z0, z1, vq] <;> rfl)
  · exact rt (xa4 z0 <| m6 ff <| ud ff <| trivial) (gs := bv gF <| bv gF <| xg3 gF <| []) (by simp only [bK, z0, vq] <;> rfl)
theorem wq (h : He) (k : Nat) : ak PP GL XX HH NN (k + 6) 151 [A.agg (He.cs h)] [] = some ([Res.c (st (fh h).1), Res.c (ii (fh h).2)], []) := by
  rcases bft (bK h) with z0 | z0
  · exact rt (aa (cS h k) <| aa (cn z0) <| aa (CK h.inc h.was h.dis h.pri (k + 4)) <| aa (rfl : some ([IntKind.wrap .u8 h.blocks, fl h.inc (1 : Int) + fl h.was (2 : Int) + fl h.dis (4 : Int) + fl h.pri (8 : Int)]) = some ([IntKind.wrap .u8 h.blocks, fl h.inc (1 : Int) + fl h.was (2 : Int) + fl h.dis (4 : Int) + fl h.pri (8 : Int)])) <| aa (kW h.v.cur (k + 3)) <| aa (show ByteArray.size (ck [IntKind.wrap .u8 h.blocks, fl h.inc (1 : Int) + fl h.was (2 : Int) + fl h.dis (4 : Int) + fl h.pri (8 : Int)]) + ByteArray.size (dw h.v.cur) ≤ 9223372036854775807 from by first | omega | (simp only [ByteArray.size_append, ax, aO, aU, List.size_toArray, aq, aA, aw, an, al, List.length_cons, List.length_nil] at *; omega)) <| aa (kW h.v.bit (k + 3)) <| aa (show ByteArray.size (ck [IntKind.wrap .u8 h.blocks, fl h.inc (1 : Int) + fl h.was (2 : Int) + fl h.dis (4 : Int) + fl h.pri (8 : Int)] ++ dw h.v.cur) + ByteArray.size (dw h.v.bit) ≤ 9223372036854775807 from by first | omega | (simp only [ByteArray.size_append, ax, aO, aU, List.size_toArray, aq, aA, aw, an, al, List.length_cons, List.length_nil] at *; omega)) <| aa (kW h.v.o0 (k + 3)) <| aa (show ByteArray.size (ck [IntKind.wrap .u8 h.blocks, fl h.inc (1 : Int) + fl h.was (2 : Int) + fl h.dis (4 : Int) + fl h.pri (8 : Int)] ++ dw h.v.cur ++ dw h.v.bit) + ByteArray.size (dw h.v.o0) ≤ 9223372036854775807 from by first | omega | (simp only [ByteArray.size_append, ax, aO, aU, List.size_toArray, aq, aA, aw, an, al, List.length_cons, List.length_nil] at *; omega)) <| aa (kW h.v.o1 (k + 3)) <| aa (show ByteArray.size (ck [IntKind.wrap .u8 h.blocks, fl h.inc (1 : Int) + fl h.was (2 : Int) + fl h.dis (4 : Int) + fl h.pri (8 : Int)] ++ dw h.v.cur ++ dw h.v.bit ++ dw h.v.o0) + ByteArray.size (dw h.v.o1) ≤ 9223372036854775807 from by first | omega | (simp only [ByteArray.size_append, ax, aO, aU, List.size_toArray, aq, aA, aw, an, al, List.length_cons, List.length_nil] at *; omega)) <| aa (qS (mi h.mask) (k + 3)) <| aa (show ByteArray.size (ck [IntKind.wrap .u8 h.blocks, fl h.inc (1 : Int) + fl h.was (2 : Int) + fl h.dis (4 : Int) + fl h.pri (8 : Int)] ++ dw h.v.cur ++ dw h.v.bit ++ dw h.v.o0 ++ dw h.v.o1) + ByteArray.size (cI (mi h.mask)) ≤ 9223372036854775807 from by first | omega | (simp only [ByteArray.size_append, ax, aO, aU, List.size_toArray, aq, aA, aw, an, al, List.length_cons, List.length_nil] at *; omega)) <| trivial) (gs := [G.call [Res.c (bo (bK h))] [], gF, G.call [Res.c (by8 (fl h.inc 1 + fl h.was 2 + fl h.dis 4 + fl h.pri 8))] [], G.str [IntKind.wrap .u8 h.blocks, fl h.inc 1 + fl h.was 2 + fl h.dis 4 + fl h.pri 8], G.call [Res.c (st (dw h.v.cur))] [], G.ok, G.call [Res.c (st (dw h.v.bit))] [], G.ok, G.call [Res.c (st (dw h.v.o0))] [], G.ok, G.call [Res.c (st (dw h.v.o1))] [], G.ok, G.call [Res.c (st (cI (mi h.mask)))] [], G.ok]) (by simp only [fh, fM, z0, vq] <;> rfl)
  · exact rt (aa (cS h k) <| aa (cn z0) <| trivial) (gs := [G.call [Res.c (bo (bK h))] [], gT]) (by simp only [fh, fM, z0, vq] <;> rfl)
theorem xm (t : ByteArray) (a : Nat) (hw : IntKind.wrap .i64 ((↑a : Int) + 8) = (↑(a + 8) : Int)) (hl : a ≤ a + 8) (hs : a + 8 ≤ t.size) (he : ByteArray.size (ByteArray.extract t a (a + 8)) = 8) (k : Nat) : ak PP GL XX HH NN (k + 3) 147 [A.c (st t), A.c (ii (↑a : Int))] [] = some ([Res.c (u (a9 t a))], []) := by
  exact rt (aa hw <| aa (rfl : (↑a : Int) = (↑a : Int)) <| aa hl <| aa hs <| aa (i8 (ByteArray.extract t a (a + 8)) he k) <| trivial) (gs := [G.cut a (a + 8) [], G.call [Res.c (u (cl (Array.toList (ByteArray.data (ByteArray.extract t a (a + 8)))))), Res.c (bo true)] []]) (by simp only [a9, vq] <;> rfl)
theorem ln (t : ByteArray) (a : Nat) (ha : a ≤ 1000) (h : a + 8 ≤ t.size) (k : Nat) : ak PP GL XX HH NN (k + 3) 147 [.c (st t), .c (ii (a : Int))] [] = some ([.c (u (a9 t a))], []) :=
  xm t a (by rw [ej (by omega) (by omega)]; omega) (by omega) h (by rw [ByteArray.size_extract]; omega) k
theorem Cs (t : ByteArray) (h : t.size = 38) (k : Nat) : ak PP GL XX HH NN (k + 3) 147 [.c (st t), .c (ii 2)] [] = some ([.c (u (a9 t 2))], []) := ln t 2 (by omega) (by omega) k
theorem zI (t : ByteArray) (h : t.size = 38) (k : Nat) : ak PP GL XX HH NN (k + 3) 147 [.c (st t), .c (ii 10)] [] = some ([.c (u (a9 t 10))], []) := ln t 10 (by omega) (by omega) k
theorem zd (t : ByteArray) (h : t.size = 38) (k : Nat) : ak PP GL XX HH NN (k + 3) 147 [.c (st t), .c (ii 18)] [] = some ([.c (u (a9 t 18))], []) := ln t 18 (by omega) (by omega) k
theorem zq (t : ByteArray) (h : t.size = 38) (k : Nat) : ak PP GL XX HH NN (k + 3) 147 [.c (st t), .c (ii 26)] [] = some ([.c (u (a9 t 26))], []) := ln t 26 (by omega) (by omega) k
theorem BH (b : ByteArray) (h1 : ((↑(b.size) : Int) == 38) = false) (k : Nat) : ak PP GL XX HH NN (k + 6) 123 [A.c (st b)] [] = some ([Res.agg (He.cs (cY b).1), Res.c (ii (cY b).2)], []) := by
  exact rt (xa4 (cn h1) <| aa tt <| trivial) (gs := xg5 gT <| []) (by simp only [cY, h1, vq] <;> rfl)
theorem BS (b : ByteArray) (h1 : ((↑(b.size) : Int) == 38) = true) (h2 : b[1]? = some (af b 1)) (h3 : decide ((↑(UInt8.toNat (af b 1)) : Int) > 15) = true) (k : Nat) : ak PP GL XX HH NN (k + 6) 123 [A.c (st b)] [] = some ([Res.agg (He.cs (cY b).1), Res.c (ii (cY b).2)], []) := by
  exact rt (xa2 (cn h1) <| aa (rfl : (1 : Int) = (1 : Int)) <| aa h2 <| xa2 (cn h1) <| aa h3 <| trivial) (gs := xg2 gF <| xc (G.byte 1 (af b 1)) <| xg2 gF <| [gT]) (by simp only [cY, h1, h3, vq] <;> rfl)
theorem Cw (b : ByteArray) (h1 : ((↑(b.size) : Int) == 38) = true) (hs : b.size = 38) (h0 : b[0]? = some (af b 0)) (h2 : b[1]? = some (af b 1)) (h3 : decide ((↑(UInt8.toNat (af b 1)) : Int) > 15) = false) (h4 : UInt8.toNat (af b 1) ≤ 15) (h5 : ByteArray.size (ByteArray.extract b 34 (b.size)) = 4) (k : Nat) : ak PP GL XX HH NN (k + 6) 123 [A.c (st b)] [] = some ([Res.agg (He.cs (cY b).1), Res.c (ii (cY b).2)], []) := by
  rcases bft (bK (He.mk (IntKind.wrap .i64 (↑(UInt8.toNat (af b 0)) : Int)) ((Ve.mk (a9 b 2) (a9 b 10) (a9 b 18) (a9 b 26))) (aK (af b 1) 0) (aK (af b 1) 1) (aK (af b 1) 2) (aK (af b 1) 3) (BitVec.ofInt 32 (cl (Array.toList (ByteArray.data (ByteArray.extract b 34 (b.size)))))))) with z0 | z0
  · exact rt (xa2 (cn h1) <| aa (rfl : (1 : Int) = (1 : Int)) <| aa h2 <| xa2 (cn h1) <| aa h3 <| aa (rfl : (1 : Int) = (1 : Int)) <| aa h2 <| aa (v7 (af b 1) h4 (k + 4)) <| aa (rfl : b.size = b.size) <| aa (rfl : (34 : Int) = (34 : Int)) <| aa (show (34 : Nat) ≤ b.size from by omega) <| aa (show b.size ≤ b.size from by omega) <| aa (r8 (ByteArray.extract b 34 (b.size)) h5 (k + 3)) <| aa (rfl : (0 : Int) = (0 : Int)) <| aa h0 <| aa (rfl : (0 : Int) = (0 : Int)) <| aa (rfl : some ([bo (aK (af b (1 : Nat)) (0 : Nat))]) = some ([bo (aK (af b (1 : Nat)) (0 : Nat))])) <| aa (rfl : (1 : Int) = (1 : Int)) <| aa (rfl : some ([bo (aK (af b (1 : Nat)) (1 : Nat))]) = some ([bo (aK (af b (1 : Nat)) (1 : Nat))])) <| aa (rfl : (2 : Int) = (2 : Int)) <| aa (rfl : some ([bo (aK (af b (1 : Nat)) (2 : Nat))]) = some ([bo (aK (af b (1 : Nat)) (2 : Nat))])) <| aa (rfl : (3 : Int) = (3 : Int)) <| aa (rfl : some ([bo (aK (af b (1 : Nat)) (3 : Nat))]) = some ([bo (aK (af b (1 : Nat)) (3 : Nat))])) <| aa (Cs b hs (k + 2)) <| aa (zI b hs (k + 2)) <| aa (zd b hs (k + 2)) <| aa (zq b hs (k + 2)) <| aa (cS ((He.mk (IntKind.wrap .i64 (↑(UInt8.toNat (af b 0)) : Int)) ((Ve.mk (a9 b 2) (a9 b 10) (a9 b 18) (a9 b 26))) (aK (af b 1) 0) (aK (af b 1) 1) (aK (af b 1) 2) (aK (af b 1) 3) (BitVec.ofInt 32 (cl (Array.toList (ByteArray.data (ByteArray.extract b 34 (b.size)))))))) k) <| aa (cn z0) <| trivial) (gs := xg2 gF <| xc (G.byte 1 (af b 1)) <| xg3 gF <| [G.byte 1 (af b 1), G.call [Res.top 1 [[bo (aK (af b 1) 0)], [bo (aK (af b 1) 1)], [bo (aK (af b 1) 2)], [bo (aK (af b 1) 3)]], Res.c (bo true)] [], G.cut 34 (b.size) [], G.call [Res.c (w4 (mi (BitVec.ofInt 32 (cl (Array.toList (ByteArray.data (ByteArray.extract b 34 (b.size)))))))), Res.c (bo true)] [], G.byte 0 (af b 0), G.idx 0 [bo (aK (af b 1) 0)], G.idx 1 [bo (aK (af b 1) 1)], G.idx 2 [bo (aK (af b 1) 2)], G.idx 3 [bo (aK (af b 1) 3)], G.call [Res.c (u (a9 b 2))] [], G.call [Res.c (u (a9 b 10))] [], G.call [Res.c (u (a9 b 18))] [], G.call [Res.c (u (a9 b 26))] [], G.call [Res.c (bo (bK (He.mk (IntKind.wrap .i64 (↑(UInt8.toNat (af b 0)) : Int)) ((Ve.mk (a9 b 2) (a9 b 10) (a9 b 18) (a9 b 26))) (aK (af b 1) 0) (aK (af b 1) 1) (aK (af b 1) 2) (aK (af b 1) 3) (BitVec.ofInt 32 (cl (Array.toList (ByteArray.data (ByteArray.extract b 34 (b.size)))))))))] [], gF]) (by simp only [cY, Df, h1, h3, z0, vq] <;> rfl)
  · exact rt (xa2 (cn h1) <| aa (rfl : (1 : Int) = (1 : Int)) <| aa h2 <| xa2 (cn h1) <| aa h3 <| aa (rfl : (1 : Int) = (1 : Int)) <| aa h2 <| aa (v7 (af b 1) h4 (k + 4)) <| aa (rfl : b.size = b.size) <| aa (rfl : (34 : Int) = (34 : Int)) <| aa (show (34 : Nat) ≤ b.size from by omega) <| aa (show b.size ≤ b.size from by omega) <| aa (r8 (ByteArray.extract b 34 (b.size)) h5 (k + 3)) <| aa (rfl : (0 : Int) = (0 : Int)) <| aa h0 <| aa (rfl : (0 : Int) = (0 : Int)) <| aa (rfl : some ([bo (aK (af b (1 : Nat)) (0 : Nat))]) = some ([bo (aK (af b (1 : Nat)) (0 : Nat))])) <| aa (rfl : (1 : Int) = (1 : Int)) <| aa (rfl : some ([bo (aK (af b (1 : Nat)) (1 : Nat))]) = some ([bo (aK (af b (1 : Nat)) (1 : Nat))])) <| aa (rfl : (2 : Int) = (2 : Int)) <| aa (rfl : some ([bo (aK (af b (1 : Nat)) (2 : Nat))]) = some ([bo (aK (af b (1 : Nat)) (2 : Nat))])) <| aa (rfl : (3 : Int) = (3 : Int)) <| aa (rfl : some ([bo (aK (af b (1 : Nat)) (3 : Nat))]) = some ([bo (aK (af b (1 : Nat)) (3 : Nat))])) <| aa (Cs b hs (k + 2)) <| aa (zI b hs (k + 2)) <| aa (zd b hs (k + 2)) <| aa (zq b hs (k + 2)) <| aa (cS ((He.mk (IntKind.wrap .i64 (↑(UInt8.toNat (af b 0)) : Int)) ((Ve.mk (a9 b 2) (a9 b 10) (a9 b 18) (a9 b 26))) (aK (af b 1) 0) (aK (af b 1) 1) (aK (af b 1) 2) (aK (af b 1) 3) (BitVec.ofInt 32 (cl (Array.toList (ByteArray.data (ByteArray.extract b 34 (b.size)))))))) k) <| aa (cn z0) <| trivial) (gs := xg2 gF <| xc (G.byte 1 (af b 1)) <| xg3 gF <| [G.byte 1 (af b 1), G.call [Res.top 1 [[bo (aK (af b 1) 0)], [bo (aK (af b 1) 1)], [bo (aK (af b 1) 2)], [bo (aK (af b 1) 3)]], Res.c (bo true)] [], G.cut 34 (b.size) [], G.call [Res.c (w4 (mi (BitVec.ofInt 32 (cl (Array.toList (ByteArray.data (ByteArray.extract b 34 (b.size)))))))), Res.c (bo true)] [], G.byte 0 (af b 0), G.idx 0 [bo (aK (af b 1) 0)], G.idx 1 [bo (aK (af b 1) 1)], G.idx 2 [bo (aK (af b 1) 2)], G.idx 3 [bo (aK (af b 1) 3)], G.call [Res.c (u (a9 b 2))] [], G.call [Res.c (u (a9 b 10))] [], G.call [Res.c (u (a9 b 18))] [], G.call [Res.c (u (a9 b 26))] [], G.call [Res.c (bo (bK (He.mk (IntKind.wrap .i64 (↑(UInt8.toNat (af b 0)) : Int)) ((Ve.mk (a9 b 2) (a9 b 10) (a9 b 18) (a9 b 26))) (aK (af b 1) 0) (aK (af b 1) 1) (aK (af b 1) 2) (aK (af b 1) 3) (BitVec.ofInt 32 (cl (Array.toList (ByteArray.data (ByteArray.extract b 34 (b.size)))))))))] [], gT]) (by simp only [cY, Df, h1, h3, z0, vq] <;> rfl)
theorem oH (b : ByteArray) (k : Nat) : ak PP GL XX HH NN (k + 6) 123 [.c (st b)] [] = some ([.agg (cY b).1.cs, .c (ii (cY b).2)], []) := by
  cases h1 : (b.size : Int) == 38 with
  | false => exact BH b h1 k
  | true =>
    have hs : b.size = 38 := by have := eq_of_beq h1; omega
    have h2 := eZ (s := b) (i := 1) (by omega)
    cases h3 : decide (((af b 1).toNat : Int) > 15) with
    | true => exact BS b h1 h2 h3 k
    | false =>
      have h4 := of_decide_eq_false h3
      exact Cw b h1 hs (eZ (by omega)) h2 h3 (by omega) (by rw [ByteArray.size_extract]; omega) k
theorem cf (k' : Int) (k : Nat) : ak PP GL XX HH NN (k + 1) 124 [A.c (ii k')] [] = some ([Res.c (bo (aP k'))], []) := by
  rcases bft (decide (k' ≥ 2)) with z0 | z0
  · exact rt (xa3 z0 <| trivial) (gs := xg3 gT <| []) (by simp only [aP, z0, vq] <;> rfl)
  · exact rt (xa3 z0 <| trivial) (gs := xg3 gF <| []) (by simp only [aP, z0, vq] <;> rfl)
theorem kp (k' : Int) (k : Nat) : ak PP GL XX HH NN (k + 1) 149 [A.c (ii k')] [] = some ([Res.c (bo (cK k'))], []) := by
  rcases bft (k' == 2) with z0 | z0
  · exact rt (xa3 z0 <| trivial) (gs := xg3 gT <| []) (by simp only [cK, z0, vq] <;> rfl)
  · exact rt (xa3 z0 <| trivial) (gs := xg3 gF <| []) (by simp only [cK, z0, vq] <;> rfl)
theorem cr (p : Pk) (k : Nat) : ak PP GL XX HH NN (k + 6) 125 [A.agg (Pk.cs p)] [] = some ([Res.c (bo (bg p))], []) := by
  rcases bft (decide (Pk.kind p < 1)) with z0 | z0
  · exact rt (xa4 z0 <| aa tt <| trivial) (gs := xg5 gT <| []) (by simp only [bg, dz, z0, vq] <;> rfl)
  · rcases bft (decide (Pk.kind p > 13)) with z1 | z1
    · exact rt (xa4 z0 <| aa z1 <| trivial) (gs := xg4 gF <| [gT]) (by simp only [bg, dz, z0, z1, vq] <;> rfl)
    · rcases bft (Pk.kind p == 1) with z2 | z2
      · rcases bft (bK p.hello) with z3 | z3
        · rcases bft (decide (Pk.block p < 0)) with z4 | z4
          · exact rt (xa4 z0 <| aa z1 <| xa3 z2 <| aa (cS p.hello k) <| xa2 z2 <| xa4 (cn z3) <| xa4 (cn z2) <| aa (cn z3) <| aa (cn z2) <| aa (cn z3) <| aa ff <| xa4 z4 <| xa8 tt <| trivial) (gs := xg5 gF <| xg3 gT <| xc (G.call [Res.c (bo (bK p.hello))] []) <| xg2 gT <| bv gF <| bv gT <| []) (by simp only [bg, dz, z0, z1, z2, z3, z4, vq] <;> rfl)
          · rcases bft (decide (Pk.block p > 31)) with z5 | z5
            · exact rt (xa4 z0 <| aa z1 <| xa3 z2 <| aa (cS p.hello k) <| xa2 z2 <| xa4 (cn z3) <| xa4 (cn z2) <| aa (cn z3) <| aa (cn z2) <| aa (cn z3) <| aa ff <| xa4 z4 <| xa7 z5 <| aa tt <| trivial) (gs := xg5 gF <| xg3 gT <| xc (G.call [Res.c (bo (bK p.hello))] []) <| xg2 gT <| bv gF <| xg4 gF <| xg8 gT <| []) (by simp only [bg, dz, z0, z1, z2, z3, z4, z5, vq] <;> rfl)
            · rcases bft (aP p.kind) with z6 | z6
              · rcases bft (cK p.kind) with z7 | z7
                · exact rt (xa4 z0 <| aa z1 <| xa3 z2 <| aa (cS p.hello k) <| xa2 z2 <| xa4 (cn z3) <| xa4 (cn z2) <| aa (cn z3) <| aa (cn z2) <| aa (cn z3) <| aa ff <| xa4 z4 <| xa3 z5 <| aa (cf p.kind (k + 4)) <| xa2 z5 <| xa3 (cn z6) <| aa z5 <| aa (cn z6) <| aa z5 <| aa ff <| aa (kp p.kind (k + 4)) <| aa z7 <| trivial) (gs := xg5 gF <| xg3 gT <| xc (G.call [Res.c (bo (bK p.hello))] []) <| xg2 gT <| bv gF <| xg7 gF <| xc (G.call [Res.c (bo (aP p.kind))] []) <| xg9 gF <| [G.call [Res.c (bo (cK p.kind))] [], gT]) (by simp only [bg, dz, z0, z1, z2, z3, z4, z5, z6, z7, vq] <;> rfl)
                · exact rt (xa4 z0 <| aa z1 <| xa3 z2 <| aa (cS p.hello k) <| xa2 z2 <| xa4 (cn z3) <| xa4 (cn z2) <| aa (cn z3) <| aa (cn z2) <| aa (cn z3) <| aa ff <| xa4 z4 <| xa3 z5 <| aa (cf p.kind (k + 4)) <| xa2 z5 <| xa3 (cn z6) <| aa z5 <| aa (cn z6) <| aa z5 <| aa ff <| aa (kp p.kind (k + 4)) <| aa z7 <| trivial) (gs := xg5 gF <| xg3 gT <| xc (G.call [Res.c (bo (bK p.hello))] []) <| xg2 gT <| bv gF <| xg7 gF <| xc (G.call [Res.c (bo (aP p.kind))] []) <| xg9 gF <| [G.call [Res.c (bo (cK p.kind))] [], gF]) (by simp only [bg, dz, z0, z1, z2, z3, z4, z5, z6, z7, vq] <;> rfl)
              · rcases bft (Pk.block p == 0) with z7 | z7
                · rcases bft (cK p.kind) with z8 | z8
                  · exact rt (xa4 z0 <| aa z1 <| xa3 z2 <| aa (cS p.hello k) <| xa2 z2 <| xa4 (cn z3) <| xa4 (cn z2) <| aa (cn z3) <| aa (cn z2) <| aa (cn z3) <| aa ff <| xa4 z4 <| xa3 z5 <| aa (cf p.kind (k + 4)) <| xa2 z5 <| xa3 (cn z6) <| aa z5 <| aa (cn z6) <| aa z5 <| aa (cn z7) <| aa (kp p.kind (k + 4)) <| aa z8 <| trivial) (gs := xg5 gF <| xg3 gT <| xc (G.call [Res.c (bo (bK p.hello))] []) <| xg2 gT <| bv gF <| xg7 gF <| xc (G.call [Res.c (bo (aP p.kind))] []) <| xg2 gF <| xg3 gT <| xc gF <| xc gT <| xg2 gF <| [G.call [Res.c (bo (cK p.kind))] [], gT]) (by simp only [bg, dz, z0, z1, z2, z3, z4, z5, z6, z7, z8, vq] <;> rfl)
                  · exact rt (xa4 z0 <| aa z1 <| xa3 z2 <| aa (cS p.hello k) <| xa2 z2 <| xa4 (cn z3) <| xa4 (cn z2) <| aa (cn z3) <| aa (cn z2) <| aa (cn z3) <| aa ff <| xa4 z4 <| xa3 z5 <| aa (cf p.kind (k + 4)) <| xa2 z5 <| xa3 (cn z6) <| aa z5 <| aa (cn z6) <| aa z5 <| aa (cn z7) <| aa (kp p.kind (k + 4)) <| aa z8 <| trivial) (gs := xg5 gF <| xg3 gT <| xc (G.call [Res.c (bo (bK p.hello))] []) <| xg2 gT <| bv gF <| xg7 gF <| xc (G.call [Res.c (bo (aP p.kind))] []) <| xg2 gF <| xg3 gT <| xc gF <| xc gT <| xg2 gF <| [G.call [Res.c (bo (cK p.kind))] [], gF]) (by simp only [bg, dz, z0, z1, z2, z3, z4, z5, z6, z7, z8, vq] <;> rfl)
                · exact rt (xa4 z0 <| aa z1 <| xa3 z2 <| aa (cS p.hello k) <| xa2 z2 <| xa4 (cn z3) <| xa4 (cn z2) <| aa (cn z3) <| aa (cn z2) <| aa (cn z3) <| aa ff <| xa4 z4 <| xa3 z5 <| aa (cf p.kind (k + 4)) <| xa2 z5 <| xa3 (cn z6) <| aa z5 <| aa (cn z6) <| aa z5 <| aa (cn z7) <| trivial) (gs := xg5 gF <| xg3 gT <| xc (G.call [Res.c (bo (bK p.hello))] []) <| xg2 gT <| bv gF <| xg7 gF <| xc (G.call [Res.c (bo (aP p.kind))] []) <| xg2 gF <| xg3 gT <| [gF, gT, gF, gT]) (by simp only [bg, dz, z0, z1, z2, z3, z4, z5, z6, z7, vq] <;> rfl)
        · exact rt (xa4 z0 <| aa z1 <| xa3 z2 <| aa (cS p.hello k) <| xa2 z2 <| xa6 (cn z3) <| aa tt <| trivial) (gs := xg5 gF <| xg3 gT <| xc (G.call [Res.c (bo (bK p.hello))] []) <| xg9 gT <| []) (by simp only [bg, dz, z0, z1, z2, z3, vq] <;> rfl)
      · rcases bft (He.blocks p.hello == 0 && (Ve.cur p.hello.v == 0 && (Ve.bit p.hello.v == 0 && (Ve.o0 p.hello.v == 0 && (Ve.o1 p.hello.v == 0 && true) && true)) && (He.inc p.hello == false && (He.was p.hello == false && (He.dis p.hello == false && (He.pri p.hello == false && (mi p.hello.mask == 0 && true))))))) with z3 | z3
        · rcases bft (decide (Pk.block p < 0)) with z4 | z4
          · exact rt (xa4 z0 <| aa z1 <| xa5 z2 <| xa4 ff <| xa4 (cn z2) <| aa ff <| aa (cn z2) <| aa ff <| aa (cn z3) <| xa4 z4 <| xa8 tt <| trivial) (gs := bv gF <| xg2 gF <| xg4 gT <| xc gF <| xc gT <| xg2 gF <| bv gT <| []) (by simp only [bg, dz, z0, z1, z2, z3, z4, vq] <;> rfl)
          · rcases bft (decide (Pk.block p > 31)) with z5 | z5
            · exact rt (xa4 z0 <| aa z1 <| xa5 z2 <| xa4 ff <| xa4 (cn z2) <| aa ff <| aa (cn z2) <| aa ff <| aa (cn z3) <| xa4 z4 <| xa7 z5 <| aa tt <| trivial) (gs := bv gF <| xg2 gF <| xg4 gT <| xc gF <| xc gT <| xg6 gF <| xg8 gT <| []) (by simp only [bg, dz, z0, z1, z2, z3, z4, z5, vq] <;> rfl)
            · rcases bft (aP p.kind) with z6 | z6
              · rcases bft (cK p.kind) with z7 | z7
                · exact rt (xa4 z0 <| aa z1 <| xa5 z2 <| xa4 ff <| xa4 (cn z2) <| aa ff <| aa (cn z2) <| aa ff <| aa (cn z3) <| xa4 z4 <| xa3 z5 <| aa (cf p.kind (k + 4)) <| xa2 z5 <| xa3 (cn z6) <| aa z5 <| aa (cn z6) <| aa z5 <| aa ff <| aa (kp p.kind (k + 4)) <| aa z7 <| trivial) (gs := bv gF <| xg2 gF <| xg4 gT <| xc gF <| xc gT <| xg9 gF <| xc (G.call [Res.c (bo (aP p.kind))] []) <| xg9 gF <| [G.call [Res.c (bo (cK p.kind))] [], gT]) (by simp only [bg, dz, z0, z1, z2, z3, z4, z5, z6, z7, vq] <;> rfl)
                · exact rt (xa4 z0 <| aa z1 <| xa5 z2 <| xa4 ff <| xa4 (cn z2) <| aa ff <| aa (cn z2) <| aa ff <| aa (cn z3) <| xa4 z4 <| xa3 z5 <| aa (cf p.kind (k + 4)) <| xa2 z5 <| xa3 (cn z6) <| aa z5 <| aa (cn z6) <| aa z5 <| aa ff <| aa (kp p.kind (k + 4)) <| aa z7 <| trivial) (gs := bv gF <| xg2 gF <| xg4 gT <| xc gF <| xc gT <| xg9 gF <| xc (G.call [Res.c (bo (aP p.kind))] []) <| xg9 gF <| [G.call [Res.c (bo (cK p.kind))] [], gF]) (by simp only [bg, dz, z0, z1, z2, z3, z4, z5, z6, z7, vq] <;> rfl)
              · rcases bft (Pk.block p == 0) with z7 | z7
                · rcases bft (cK p.kind) with z8 | z8
                  · exact rt (xa4 z0 <| aa z1 <| xa5 z2 <| xa4 ff <| xa4 (cn z2) <| aa ff <| aa (cn z2) <| aa ff <| aa (cn z3) <| xa4 z4 <| xa3 z5 <| aa (cf p.kind (k + 4)) <| xa2 z5 <| xa3 (cn z6) <| aa z5 <| aa (cn z6) <| aa z5 <| aa (cn z7) <| aa (kp p.kind (k + 4)) <| aa z8 <| trivial) (gs := bv gF <| xg2 gF <| xg4 gT <| xc gF <| xc gT <| xg9 gF <| xc (G.call [Res.c (bo (aP p.kind))] []) <| xg2 gF <| xg3 gT <| xc gF <| xc gT <| xg2 gF <| [G.call [Res.c (bo (cK p.kind))] [], gT]) (by simp only [bg, dz, z0, z1, z2, z3, z4, z5, z6, z7, z8, vq] <;> rfl)
                  · exact rt (xa4 z0 <| aa z1 <| xa5 z2 <| xa4 ff <| xa4 (cn z2) <| aa ff <| aa (cn z2) <| aa ff <| aa (cn z3) <| xa4 z4 <| xa3 z5 <| aa (cf p.kind (k + 4)) <| xa2 z5 <| xa3 (cn z6) <| aa z5 <| aa (cn z6) <| aa z5 <| aa (cn z7) <| aa (kp p.kind (k + 4)) <| aa z8 <| trivial) (gs := bv gF <| xg2 gF <| xg4 gT <| xc gF <| xc gT <| xg9 gF <| xc (G.call [Res.c (bo (aP p.kind))] []) <| xg2 gF <| xg3 gT <| xc gF <| xc gT <| xg2 gF <| [G.call [Res.c (bo (cK p.kind))] [], gF]) (by simp only [bg, dz, z0, z1, z2, z3, z4, z5, z6, z7, z8, vq] <;> rfl)
                · exact rt (xa4 z0 <| aa z1 <| xa5 z2 <| xa4 ff <| xa4 (cn z2) <| aa ff <| aa (cn z2) <| aa ff <| aa (cn z3) <| xa4 z4 <| xa3 z5 <| aa (cf p.kind (k + 4)) <| xa2 z5 <| xa3 (cn z6) <| aa z5 <| aa (cn z6) <| aa z5 <| aa (cn z7) <| trivial) (gs := bv gF <| xg2 gF <| xg4 gT <| xc gF <| xc gT <| xg9 gF <| xc (G.call [Res.c (bo (aP p.kind))] []) <| xg2 gF <| xg3 gT <| [gF, gT, gF, gT]) (by simp only [bg, dz, z0, z1, z2, z3, z4, z5, z6, z7, vq] <;> rfl)
        · exact rt (xa4 z0 <| aa z1 <| xa5 z2 <| xa4 ff <| xa4 (cn z2) <| aa ff <| aa (cn z2) <| aa ff <| aa (cn z3) <| trivial) (gs := bv gF <| xg2 gF <| xg4 gT <| [gF, gT, gF, gT]) (by simp only [bg, dz, z0, z1, z2, z3, vq] <;> rfl)
end Go.Dm
namespace Go.Dm
open Go
theorem ug (p : Pk) (hh : ByteArray.size (fh p.hello).1 ≤ 38) (hd : p.data.size ≤ 1000000) (k : Nat) : ak PP GL XX HH NN (k + 7) 126 [A.agg (Pk.cs p)] [] = some ([Res.c (st (bH p))], []) := by
  rcases bft (Pk.kind p == 1) with z0 | z0
  · rcases bft (aP p.kind) with z1 | z1
    · exact rt (aa (rfl : some ([IntKind.wrap .u8 p.kind]) = some ([IntKind.wrap .u8 p.kind])) <| aa (kW p.ses (k + 4)) <| aa (show ByteArray.size (ck [IntKind.wrap .u8 p.kind]) + ByteArray.size (dw p.ses) ≤ 9223372036854775807 from by first | omega | (simp only [ByteArray.size_append, ax, aO, aU, List.size_toArray, aq, aA, aw, an, al, List.length_cons, List.length_nil] at *; omega)) <| aa z0 <| aa (wq p.hello k) <| aa (show ByteArray.size (ck [IntKind.wrap .u8 p.kind] ++ dw p.ses) + ByteArray.size (fh p.hello).1 ≤ 9223372036854775807 from by first | omega | (simp only [ByteArray.size_append, ax, aO, aU, List.size_toArray, aq, aA, aw, an, al, List.length_cons, List.length_nil] at *; omega)) <| aa (cf p.kind (k + 5)) <| aa z1 <| aa (rfl : some ([IntKind.wrap .u8 p.block]) = some ([IntKind.wrap .u8 p.block])) <| aa (show ByteArray.size (ck [IntKind.wrap .u8 p.kind] ++ dw p.ses ++ Prod.fst (fh p.hello)) + ByteArray.size (ck [IntKind.wrap .u8 p.block]) ≤ 9223372036854775807 from by first | omega | (simp only [ByteArray.size_append, ax, aO, aU, List.size_toArray, aq, aA, aw, an, al, List.length_cons, List.length_nil] at *; omega)) <| aa (show ByteArray.size (ck [IntKind.wrap .u8 p.kind] ++ dw p.ses ++ Prod.fst (fh p.hello) ++ ck [IntKind.wrap .u8 p.block]) + p.data.size ≤ 9223372036854775807 from by first | omega | (simp only [ByteArray.size_append, ax, aO, aU, List.size_toArray, aq, aA, aw, an, al, List.length_cons, List.length_nil] at *; omega)) <| trivial) (gs := xc (G.str [IntKind.wrap .u8 p.kind]) <| xc (G.call [Res.c (st (dw p.ses))] []) <| xc G.ok <| xc gT <| xc (G.call [Res.c (st (fh p.hello).1), Res.c (ii (fh p.hello).2)] []) <| xc G.ok <| xc (G.call [Res.c (bo (aP p.kind))] []) <| xc gT <| xc (G.str [IntKind.wrap .u8 p.block]) <| xg2 G.ok <| []) (by simp only [bH, iE, z0, z1, vq] <;> rfl)
    · exact rt (aa (rfl : some ([IntKind.wrap .u8 p.kind]) = some ([IntKind.wrap .u8 p.kind])) <| aa (kW p.ses (k + 4)) <| aa (show ByteArray.size (ck [IntKind.wrap .u8 p.kind]) + ByteArray.size (dw p.ses) ≤ 9223372036854775807 from by first | omega | (simp only [ByteArray.size_append, ax, aO, aU, List.size_toArray, aq, aA, aw, an, al, List.length_cons, List.length_nil] at *; omega)) <| aa z0 <| aa (wq p.hello k) <| aa (show ByteArray.size (ck [IntKind.wrap .u8 p.kind] ++ dw p.ses) + ByteArray.size (fh p.hello).1 ≤ 9223372036854775807 from by first | omega | (simp only [ByteArray.size_append, ax, aO, aU, List.size_toArray, aq, aA, aw, an, al, List.length_cons, List.length_nil] at *; omega)) <| aa (cf p.kind (k + 5)) <| aa z1 <| aa (show ByteArray.size (ck [IntKind.wrap .u8 p.kind] ++ dw p.ses ++ Prod.fst (fh p.hello)) + p.data.size ≤ 9223372036854775807 from by first | omega | (simp only [ByteArray.size_append, ax, aO, aU, List.size_toArray, aq, aA, aw, an, al, List.length_cons, List.length_nil] at *; omega)) <| trivial) (gs := [G.str [IntKind.wrap .u8 p.kind], G.call [Res.c (st (dw p.ses))] [], G.ok, gT, G.call [Res.c (st (fh p.hello).1), Res.c (ii (fh p.hello).2)] [], G.ok, G.call [Res.c (bo (aP p.kind))] [], gF, G.ok]) (by simp only [bH, iE, z0, z1, vq] <;> rfl)
  · rcases bft (aP p.kind) with z1 | z1
    · exact rt (aa (rfl : some ([IntKind.wrap .u8 p.kind]) = some ([IntKind.wrap .u8 p.kind])) <| aa (kW p.ses (k + 4)) <| aa (show ByteArray.size (ck [IntKind.wrap .u8 p.kind]) + ByteArray.size (dw p.ses) ≤ 9223372036854775807 from by first | omega | (simp only [ByteArray.size_append, ax, aO, aU, List.size_toArray, aq, aA, aw, an, al, List.length_cons, List.length_nil] at *; omega)) <| aa z0 <| aa (cf p.kind (k + 5)) <| aa z1 <| aa (rfl : some ([IntKind.wrap .u8 p.block]) = some ([IntKind.wrap .u8 p.block])) <| aa (show ByteArray.size (ck [IntKind.wrap .u8 p.kind] ++ dw p.ses) + ByteArray.size (ck [IntKind.wrap .u8 p.block]) ≤ 9223372036854775807 from by first | omega | (simp only [ByteArray.size_append, ax, aO, aU, List.size_toArray, aq, aA, aw, an, al, List.length_cons, List.length_nil] at *; omega)) <| aa (show ByteArray.size (ck [IntKind.wrap .u8 p.kind] ++ dw p.ses ++ ck [IntKind.wrap .u8 p.block]) + p.data.size ≤ 9223372036854775807 from by first | omega | (simp only [ByteArray.size_append, ax, aO, aU, List.size_toArray, aq, aA, aw, an, al, List.length_cons, List.length_nil] at *; omega)) <| trivial) (gs := xc (G.str [IntKind.wrap .u8 p.kind]) <| xc (G.call [Res.c (st (dw p.ses))] []) <| xc G.ok <| xc gF <| xc (G.call [Res.c (bo (aP p.kind))] []) <| xc gT <| xc (G.str [IntKind.wrap .u8 p.block]) <| xg2 G.ok <| []) (by simp only [bH, iE, z0, z1, vq] <;> rfl)
    · exact rt (aa (rfl : some ([IntKind.wrap .u8 p.kind]) = some ([IntKind.wrap .u8 p.kind])) <| aa (kW p.ses (k + 4)) <| aa (show ByteArray.size (ck [IntKind.wrap .u8 p.kind]) + ByteArray.size (dw p.ses) ≤ 9223372036854775807 from by first | omega | (simp only [ByteArray.size_append, ax, aO, aU, List.size_toArray, aq, aA, aw, an, al, List.length_cons, List.length_nil] at *; omega)) <| aa z0 <| aa (cf p.kind (k + 5)) <| aa z1 <| aa (show ByteArray.size (ck [IntKind.wrap .u8 p.kind] ++ dw p.ses) + p.data.size ≤ 9223372036854775807 from by first | omega | (simp only [ByteArray.size_append, ax, aO, aU, List.size_toArray, aq, aA, aw, an, al, List.length_cons, List.length_nil] at *; omega)) <| trivial) (gs := [G.str [IntKind.wrap .u8 p.kind], G.call [Res.c (st (dw p.ses))] [], G.ok, gF, G.call [Res.c (bo (aP p.kind))] [], gF, G.ok]) (by simp only [bH, iE, z0, z1, vq] <;> rfl)
theorem dZ (p : Pk) (hd : p.data.size ≤ 1000000) (k : Nat) : ak PP GL XX HH NN (k + 7) 126 [.agg p.cs] [] = some ([.c (st (bH p))], []) := ug p (kk _) hd k
theorem rJ (p : Pk) : (iE p).size ≤ 48 := by
  have h := kk p.hello
  unfold iE
  cases aP p.kind <;> cases p.kind == 1 <;> simp only [cond_true, cond_false, ByteArray.size_append, ax, aq, List.length_cons, List.length_nil] <;> omega
theorem o8 (p : Pk) : (bH p).size ≤ p.data.size + 48 := by
  have := rJ p
  unfold bH
  rw [ByteArray.size_append]
  omega
theorem yk (p : Pk) (hd : p.data.size ≤ 900000) (hz : ByteArray.size (bH p) ≤ 1000000) (k : Nat) : ak PP GL XX HH NN (k + 8) 105 [A.agg (Pk.cs p)] [] = some ([Res.c (st (dQ p).1), Res.c (ii (dQ p).2)], []) := by
  rcases bft (bg p) with z0 | z0
  · exact rt (aa (cr p (k + 1)) <| aa (cn z0) <| aa (dZ p (show p.data.size ≤ 1000000 from by first | omega | (simp only [ByteArray.size_append, ax, aO, aU, List.size_toArray, aq, aA, aw, an, al, List.length_cons, List.length_nil] at *; omega)) k) <| aa (oL (bH p) hz (k + 3)) <| trivial) (gs := [G.call [Res.c (bo (bg p))] [], gF, G.call [Res.c (st (bH p))] [], G.call [Res.c (st (bG (bH p)))] []]) (by simp only [dQ, z0, vq] <;> rfl)
  · exact rt (aa (cr p (k + 1)) <| aa (cn z0) <| trivial) (gs := [G.call [Res.c (bo (bg p))] [], gT]) (by simp only [dQ, z0, vq] <;> rfl)
theorem Bb (p : Pk) (hd : p.data.size ≤ 900000) (k : Nat) : ak PP GL XX HH NN (k + 8) 105 [.agg p.cs] [] = some ([.c (st (dQ p).1), .c (ii (dQ p).2)], []) := yk p hd (by have := o8 p; omega) k
theorem BB (b : ByteArray) (hb : b.size ≤ 800000) (h1 : (Prod.snd (ac b) == 0) = false) (k : Nat) : ak PP GL XX HH NN (k + 8) 98 [A.c (st b)] [] = some ([Res.agg (Pk.cs (bB b).1), Res.c (ii (bB b).2)], []) := by
  exact rt (aa (eE b (show b.size ≤ 1000000 from by omega) (k + 2)) <| aa (cn h1) <| trivial) (gs := [G.call [Res.c (st (ac b).1), Res.c (ii (ac b).2)] [], gT]) (by simp only [bB, h1, vq] <;> rfl)
theorem De (b : ByteArray) (hb : b.size ≤ 800000) (h1 : (Prod.snd (ac b) == 0) = true) (h2 : decide ((↑(ByteArray.size (ac b).1) : Int) < 9) = true) (k : Nat) : ak PP GL XX HH NN (k + 8) 98 [A.c (st b)] [] = some ([Res.agg (Pk.cs (bB b).1), Res.c (ii (bB b).2)], []) := by
  exact rt (aa (eE b (show b.size ≤ 1000000 from by omega) (k + 2)) <| aa (cn h1) <| aa h2 <| trivial) (gs := [G.call [Res.c (st (ac b).1), Res.c (ii (ac b).2)] [], gF, gT]) (by simp only [bB, eG, h1, h2, vq] <;> rfl)
theorem CC (b : ByteArray) (hb : b.size ≤ 800000) (h1 : (Prod.snd (ac b) == 0) = true) (h2 : decide ((↑(ByteArray.size (ac b).1) : Int) < 9) = false) (hs : (9 : Nat) ≤ ByteArray.size (ac b).1) (hs2 : ByteArray.size (ac b).1 ≤ 800000) (h3 : (ac b).1[0]? = some (af (ac b).1 0)) (h4 : ByteArray.size (ByteArray.extract (ac b).1 1 9) = 8) (h5 : (IntKind.wrap .i64 (↑(UInt8.toNat (af (ac b).1 0)) : Int) == 1) = true) (h6 : aP (IntKind.wrap .i64 (↑(UInt8.toNat (af (ac b).1 0)) : Int)) = false) (k : Nat) : ak PP GL XX HH NN (k + 8) 98 [A.c (st b)] [] = some ([Res.agg (Pk.cs (bB b).1), Res.c (ii (bB b).2)], []) := by
  rcases bft (Prod.snd (cY (ByteArray.extract (ac b).1 9 (ByteArray.size (ac b).1))) == 0) with z0 | z0
  · rcases bft (bg (Pk.mk (IntKind.wrap .i64 (↑(UInt8.toNat (af (ac b).1 0)) : Int)) (cl (Array.toList (ByteArray.data (ByteArray.extract (ac b).1 1 9)))) (cY (ByteArray.extract (ac b).1 9 (ByteArray.size (ac b).1))).1 0 ⟨#[]⟩)) with z1 | z1
    · rcases bft (bH (Pk.mk (IntKind.wrap .i64 (↑(UInt8.toNat (af (ac b).1 0)) : Int)) (cl (Array.toList (ByteArray.data (ByteArray.extract (ac b).1 1 9)))) (cY (ByteArray.extract (ac b).1 9 (ByteArray.size (ac b).1))).1 0 ⟨#[]⟩) == Prod.fst (ac b)) with z2 | z2
      · exact rt (aa (eE b (show b.size ≤ 1000000 from by omega) (k + 2)) <| aa (cn h1) <| aa h2 <| aa (rfl : (9 : Int) = (9 : Int)) <| aa (rfl : (1 : Int) = (1 : Int)) <| aa (show (1 : Nat) ≤ 9 from by decide) <| aa hs <| aa (i8 (ByteArray.extract (ac b).1 1 9) h4 (k + 5)) <| aa (rfl : (0 : Int) = (0 : Int)) <| aa h3 <| aa (rfl : ByteArray.size (ac b).1 = ByteArray.size (ac b).1) <| aa (rfl : (9 : Int) = (9 : Int)) <| aa hs <| aa (show ByteArray.size (ac b).1 ≤ ByteArray.size (ac b).1 from by omega) <| aa h5 <| aa (oH (ByteArray.extract (ac b).1 9 (ByteArray.size (ac b).1)) (k + 1)) <| aa (cn z0) <| aa (cf (IntKind.wrap .i64 (↑(UInt8.toNat (af (ac b).1 0)) : Int)) (k + 6)) <| xa4 h6 <| aa ff <| aa (cr ((Pk.mk (IntKind.wrap .i64 (↑(UInt8.toNat (af (ac b).1 0)) : Int)) (cl (Array.toList (ByteArray.data (ByteArray.extract (ac b).1 1 9)))) (cY (ByteArray.extract (ac b).1 9 (ByteArray.size (ac b).1))).1 0 ⟨#[]⟩)) (k + 1)) <| xa2 (cn z1) <| aa (dZ ((Pk.mk (IntKind.wrap .i64 (↑(UInt8.toNat (af (ac b).1 0)) : Int)) (cl (Array.toList (ByteArray.data (ByteArray.extract (ac b).1 1 9)))) (cY (ByteArray.extract (ac b).1 9 (ByteArray.size (ac b).1))).1 0 ⟨#[]⟩)) (show ByteArray.size ⟨#[]⟩ ≤ 1000000 from by decide) k) <| xa3 (cn z1) <| aa (cn z2) <| trivial) (gs := xc (G.call [Res.c (st (ac b).1), Res.c (ii (ac b).2)] []) <| xg2 gF <| xc (G.cut 1 9 []) <| xc (G.call [Res.c (u (cl (Array.toList (ByteArray.data (ByteArray.extract (ac b).1 1 9))))), Res.c (bo true)] []) <| xc (G.byte 0 (af (ac b).1 0)) <| xc (G.cut 9 (ByteArray.size (ac b).1) []) <| xc gT <| xc (G.call [Res.agg (He.cs (cY (ByteArray.extract (ac b).1 9 (ByteArray.size (ac b).1))).1), Res.c (ii (cY (ByteArray.extract (ac b).1 9 (ByteArray.size (ac b).1))).2)] []) <| xc gF <| xc (G.call [Res.c (bo (aP (IntKind.wrap .i64 (↑(UInt8.toNat (af (ac b).1 0)) : Int))))] []) <| xg5 gF <| xc (G.call [Res.c (bo (bg (Pk.mk (IntKind.wrap .i64 (↑(UInt8.toNat (af (ac b).1 0)) : Int)) (cl (Array.toList (ByteArray.data (ByteArray.extract (ac b).1 1 9)))) (cY (ByteArray.extract (ac b).1 9 (ByteArray.size (ac b).1))).1 0 ⟨#[]⟩)))] []) <| xg2 gF <| xc (G.call [Res.c (st (bH (Pk.mk (IntKind.wrap .i64 (↑(UInt8.toNat (af (ac b).1 0)) : Int)) (cl (Array.toList (ByteArray.data (ByteArray.extract (ac b).1 1 9)))) (cY (ByteArray.extract (ac b).1 9 (ByteArray.size (ac b).1))).1 0 ⟨#[]⟩)))] []) <| xg4 gF <| []) (by simp only [bB, eG, mI, h1, h2, h5, z0, z1, z2, vq] <;> rfl)
      · exact rt (aa (eE b (show b.size ≤ 1000000 from by omega) (k + 2)) <| aa (cn h1) <| aa h2 <| aa (rfl : (9 : Int) = (9 : Int)) <| aa (rfl : (1 : Int) = (1 : Int)) <| aa (show (1 : Nat) ≤ 9 from by decide) <| aa hs <| aa (i8 (ByteArray.extract (ac b).1 1 9) h4 (k + 5)) <| aa (rfl : (0 : Int) = (0 : Int)) <| aa h3 <| aa (rfl : ByteArray.size (ac b).1 = ByteArray.size (ac b).1) <| aa (rfl : (9 : Int) = (9 : Int)) <| aa hs <| aa (show ByteArray.size (ac b).1 ≤ ByteArray.size (ac b).1 from by omega) <| aa h5 <| aa (oH (ByteArray.extract (ac b).1 9 (ByteArray.size (ac b).1)) (k + 1)) <| aa (cn z0) <| aa (cf (IntKind.wrap .i64 (↑(UInt8.toNat (af (ac b).1 0)) : Int)) (k + 6)) <| xa4 h6 <| aa ff <| aa (cr ((Pk.mk (IntKind.wrap .i64 (↑(UInt8.toNat (af (ac b).1 0)) : Int)) (cl (Array.toList (ByteArray.data (ByteArray.extract (ac b).1 1 9)))) (cY (ByteArray.extract (ac b).1 9 (ByteArray.size (ac b).1))).1 0 ⟨#[]⟩)) (k + 1)) <| xa2 (cn z1) <| aa (dZ ((Pk.mk (IntKind.wrap .i64 (↑(UInt8.toNat (af (ac b).1 0)) : Int)) (cl (Array.toList (ByteArray.data (ByteArray.extract (ac b).1 1 9)))) (cY (ByteArray.extract (ac b).1 9 (ByteArray.size (ac b).1))).1 0 ⟨#[]⟩)) (show ByteArray.size ⟨#[]⟩ ≤ 1000000 from by decide) k) <| xa3 (cn z1) <| aa (cn z2) <| trivial) (gs := xc (G.call [Res.c (st (ac b).1), Res.c (ii (ac b).2)] []) <| xg2 gF <| xc (G.cut 1 9 []) <| xc (G.call [Res.c (u (cl (Array.toList (ByteArray.data (ByteArray.extract (ac b).1 1 9))))), Res.c (bo true)] []) <| xc (G.byte 0 (af (ac b).1 0)) <| xc (G.cut 9 (ByteArray.size (ac b).1) []) <| xc gT <| xc (G.call [Res.agg (He.cs (cY (ByteArray.extract (ac b).1 9 (ByteArray.size (ac b).1))).1), Res.c (ii (cY (ByteArray.extract (ac b).1 9 (ByteArray.size (ac b).1))).2)] []) <| xc gF <| xc (G.call [Res.c (bo (aP (IntKind.wrap .i64 (↑(UInt8.toNat (af (ac b).1 0)) : Int))))] []) <| xg5 gF <| xc (G.call [Res.c (bo (bg (Pk.mk (IntKind.wrap .i64 (↑(UInt8.toNat (af (ac b).1 0)) : Int)) (cl (Array.toList (ByteArray.data (ByteArray.extract (ac b).1 1 9)))) (cY (ByteArray.extract (ac b).1 9 (ByteArray.size (ac b).1))).1 0 ⟨#[]⟩)))] []) <| xg2 gF <| xc (G.call [Res.c (st (bH (Pk.mk (IntKind.wrap .i64 (↑(UInt8.toNat (af (ac b).1 0)) : Int)) (cl (Array.toList (ByteArray.data (ByteArray.extract (ac b).1 1 9)))) (cY (ByteArray.extract (ac b).1 9 (ByteArray.size (ac b).1))).1 0 ⟨#[]⟩)))] []) <| xg3 gF <| [gT]) (by simp only [bB, eG, mI, h1, h2, h5, z0, z1, z2, vq] <;> rfl)
    · exact rt (aa (eE b (show b.size ≤ 1000000 from by omega) (k + 2)) <| aa (cn h1) <| aa h2 <| aa (rfl : (9 : Int) = (9 : Int)) <| aa (rfl : (1 : Int) = (1 : Int)) <| aa (show (1 : Nat) ≤ 9 from by decide) <| aa hs <| aa (i8 (ByteArray.extract (ac b).1 1 9) h4 (k + 5)) <| aa (rfl : (0 : Int) = (0 : Int)) <| aa h3 <| aa (rfl : ByteArray.size (ac b).1 = ByteArray.size (ac b).1) <| aa (rfl : (9 : Int) = (9 : Int)) <| aa hs <| aa (show ByteArray.size (ac b).1 ≤ ByteArray.size (ac b).1 from by omega) <| aa h5 <| aa (oH (ByteArray.extract (ac b).1 9 (ByteArray.size (ac b).1)) (k + 1)) <| aa (cn z0) <| aa (cf (IntKind.wrap .i64 (↑(UInt8.toNat (af (ac b).1 0)) : Int)) (k + 6)) <| xa4 h6 <| aa ff <| aa (cr ((Pk.mk (IntKind.wrap .i64 (↑(UInt8.toNat (af (ac b).1 0)) : Int)) (cl (Array.toList (ByteArray.data (ByteArray.extract (ac b).1 1 9)))) (cY (ByteArray.extract (ac b).1 9 (ByteArray.size (ac b).1))).1 0 ⟨#[]⟩)) (k + 1)) <| xa5 (cn z1) <| aa tt <| trivial) (gs := xc (G.call [Res.c (st (ac b).1), Res.c (ii (ac b).2)] []) <| xg2 gF <| xc (G.cut 1 9 []) <| xc (G.call [Res.c (u (cl (Array.toList (ByteArray.data (ByteArray.extract (ac b).1 1 9))))), Res.c (bo true)] []) <| xc (G.byte 0 (af (ac b).1 0)) <| xc (G.cut 9 (ByteArray.size (ac b).1) []) <| xc gT <| xc (G.call [Res.agg (He.cs (cY (ByteArray.extract (ac b).1 9 (ByteArray.size (ac b).1))).1), Res.c (ii (cY (ByteArray.extract (ac b).1 9 (ByteArray.size (ac b).1))).2)] []) <| xc gF <| xc (G.call [Res.c (bo (aP (IntKind.wrap .i64 (↑(UInt8.toNat (af (ac b).1 0)) : Int))))] []) <| xg5 gF <| xc (G.call [Res.c (bo (bg (Pk.mk (IntKind.wrap .i64 (↑(UInt8.toNat (af (ac b).1 0)) : Int)) (cl (Array.toList (ByteArray.data (ByteArray.extract (ac b).1 1 9)))) (cY (ByteArray.extract (ac b).1 9 (ByteArray.size (ac b).1))).1 0 ⟨#[]⟩)))] []) <| xg6 gT <| []) (by simp only [bB, eG, mI, h1, h2, h5, z0, z1, vq] <;> rfl)
  · exact rt (aa (eE b (show b.size ≤ 1000000 from by omega) (k + 2)) <| aa (cn h1) <| aa h2 <| aa (rfl : (9 : Int) = (9 : Int)) <| aa (rfl : (1 : Int) = (1 : Int)) <| aa (show (1 : Nat) ≤ 9 from by decide) <| aa hs <| aa (i8 (ByteArray.extract (ac b).1 1 9) h4 (k + 5)) <| aa (rfl : (0 : Int) = (0 : Int)) <| aa h3 <| aa (rfl : ByteArray.size (ac b).1 = ByteArray.size (ac b).1) <| aa (rfl : (9 : Int) = (9 : Int)) <| aa hs <| aa (show ByteArray.size (ac b).1 ≤ ByteArray.size (ac b).1 from by omega) <| aa h5 <| aa (oH (ByteArray.extract (ac b).1 9 (ByteArray.size (ac b).1)) (k + 1)) <| aa (cn z0) <| trivial) (gs := xc (G.call [Res.c (st (ac b).1), Res.c (ii (ac b).2)] []) <| xg2 gF <| [G.cut 1 9 [], G.call [Res.c (u (cl (Array.toList (ByteArray.data (ByteArray.extract (ac b).1 1 9))))), Res.c (bo true)] [], G.byte 0 (af (ac b).1 0), G.cut 9 (ByteArray.size (ac b).1) [], gT, G.call [Res.agg (He.cs (cY (ByteArray.extract (ac b).1 9 (ByteArray.size (ac b).1))).1), Res.c (ii (cY (ByteArray.extract (ac b).1 9 (ByteArray.size (ac b).1))).2)] [], gT]) (by simp only [bB, eG, mI, h1, h2, h5, z0, vq] <;> rfl)
theorem BN (b : ByteArray) (hb : b.size ≤ 800000) (h1 : (Prod.snd (ac b) == 0) = true) (h2 : decide ((↑(ByteArray.size (ac b).1) : Int) < 9) = false) (hs : (9 : Nat) ≤ ByteArray.size (ac b).1) (hs2 : ByteArray.size (ac b).1 ≤ 800000) (h3 : (ac b).1[0]? = some (af (ac b).1 0)) (h4 : ByteArray.size (ByteArray.extract (ac b).1 1 9) = 8) (h5 : (IntKind.wrap .i64 (↑(UInt8.toNat (af (ac b).1 0)) : Int) == 1) = false) (h6 : aP (IntKind.wrap .i64 (↑(UInt8.toNat (af (ac b).1 0)) : Int)) = false) (h7 : ByteArray.size (ByteArray.extract (ac b).1 9 (ByteArray.size (ac b).1)) ≤ 800000) (k : Nat) : ak PP GL XX HH NN (k + 8) 98 [A.c (st b)] [] = some ([Res.agg (Pk.cs (bB b).1), Res.c (ii (bB b).2)], []) := by
  rcases bft (bg (Pk.mk (IntKind.wrap .i64 (↑(UInt8.toNat (af (ac b).1 0)) : Int)) (cl (Array.toList (ByteArray.data (ByteArray.extract (ac b).1 1 9)))) ((He.mk 0 ((Ve.mk 0 0 0 0)) false false false false (BitVec.ofNat 32 0))) 0 (ByteArray.extract (ac b).1 9 (ByteArray.size (ac b).1)))) with z0 | z0
  · rcases bft (bH (Pk.mk (IntKind.wrap .i64 (↑(UInt8.toNat (af (ac b).1 0)) : Int)) (cl (Array.toList (ByteArray.data (ByteArray.extract (ac b).1 1 9)))) ((He.mk 0 ((Ve.mk 0 0 0 0)) false false false false (BitVec.ofNat 32 0))) 0 (ByteArray.extract (ac b).1 9 (ByteArray.size (ac b).1))) == Prod.fst (ac b)) with z1 | z1
    · exact rt (aa (eE b (show b.size ≤ 1000000 from by omega) (k + 2)) <| aa (cn h1) <| aa h2 <| aa (rfl : (9 : Int) = (9 : Int)) <| aa (rfl : (1 : Int) = (1 : Int)) <| aa (show (1 : Nat) ≤ 9 from by decide) <| aa hs <| aa (i8 (ByteArray.extract (ac b).1 1 9) h4 (k + 5)) <| aa (rfl : (0 : Int) = (0 : Int)) <| aa h3 <| aa (rfl : ByteArray.size (ac b).1 = ByteArray.size (ac b).1) <| aa (rfl : (9 : Int) = (9 : Int)) <| aa hs <| aa (show ByteArray.size (ac b).1 ≤ ByteArray.size (ac b).1 from by omega) <| aa h5 <| aa (cf (IntKind.wrap .i64 (↑(UInt8.toNat (af (ac b).1 0)) : Int)) (k + 6)) <| xa4 h6 <| aa ff <| aa (cr ((Pk.mk (IntKind.wrap .i64 (↑(UInt8.toNat (af (ac b).1 0)) : Int)) (cl (Array.toList (ByteArray.data (ByteArray.extract (ac b).1 1 9)))) ((He.mk 0 ((Ve.mk 0 0 0 0)) false false false false (BitVec.ofNat 32 0))) 0 (ByteArray.extract (ac b).1 9 (ByteArray.size (ac b).1)))) (k + 1)) <| xa2 (cn z0) <| aa (dZ ((Pk.mk (IntKind.wrap .i64 (↑(UInt8.toNat (af (ac b).1 0)) : Int)) (cl (Array.toList (ByteArray.data (ByteArray.extract (ac b).1 1 9)))) ((He.mk 0 ((Ve.mk 0 0 0 0)) false false false false (BitVec.ofNat 32 0))) 0 (ByteArray.extract (ac b).1 9 (ByteArray.size (ac b).1)))) (show ByteArray.size (ByteArray.extract (ac b).1 (9 : Nat) (ByteArray.size (ac b).1)) ≤ 1000000 from by first | omega | (simp only [ByteArray.size_append, ax, aO, aU, List.size_toArray, aq, aA, aw, an, al, List.length_cons, List.length_nil] at *; omega)) k) <| xa3 (cn z0) <| aa (cn z1) <| trivial) (gs := xc (G.call [Res.c (st (ac b).1), Res.c (ii (ac b).2)] []) <| xg2 gF <| xc (G.cut 1 9 []) <| xc (G.call [Res.c (u (cl (Array.toList (ByteArray.data (ByteArray.extract (ac b).1 1 9))))), Res.c (bo true)] []) <| xc (G.byte 0 (af (ac b).1 0)) <| xc (G.cut 9 (ByteArray.size (ac b).1) []) <| xc gF <| xc (G.call [Res.c (bo (aP (IntKind.wrap .i64 (↑(UInt8.toNat (af (ac b).1 0)) : Int))))] []) <| xg5 gF <| xc (G.call [Res.c (bo (bg (Pk.mk (IntKind.wrap .i64 (↑(UInt8.toNat (af (ac b).1 0)) : Int)) (cl (Array.toList (ByteArray.data (ByteArray.extract (ac b).1 1 9)))) ((He.mk 0 ((Ve.mk 0 0 0 0)) false false false false (BitVec.ofNat 32 0))) 0 (ByteArray.extract (ac b).1 9 (ByteArray.size (ac b).1)))))] []) <| xg2 gF <| xc (G.call [Res.c (st (bH (Pk.mk (IntKind.wrap .i64 (↑(UInt8.toNat (af (ac b).1 0)) : Int)) (cl (Array.toList (ByteArray.data (ByteArray.extract (ac b).1 1 9)))) ((He.mk 0 ((Ve.mk 0 0 0 0)) false false false false (BitVec.ofNat 32 0))) 0 (ByteArray.extract (ac b).1 9 (ByteArray.size (ac b).1)))))] []) <| xg4 gF <| []) (by simp only [bB, eG, mI, he0, h1, h2, h5, h6, z0, z1, vq] <;> rfl)
    · exact rt (aa (eE b (show b.size ≤ 1000000 from by omega) (k + 2)) <| aa (cn h1) <| aa h2 <| aa (rfl : (9 : Int) = (9 : Int)) <| aa (rfl : (1 : Int) = (1 : Int)) <| aa (show (1 : Nat) ≤ 9 from by decide) <| aa hs <| aa (i8 (ByteArray.extract (ac b).1 1 9) h4 (k + 5)) <| aa (rfl : (0 : Int) = (0 : Int)) <| aa h3 <| aa (rfl : ByteArray.size (ac b).1 = ByteArray.size (ac b).1) <| aa (rfl : (9 : Int) = (9 : Int)) <| aa hs <| aa (show ByteArray.size (ac b).1 ≤ ByteArray.size (ac b).1 from by omega) <| aa h5 <| aa (cf (IntKind.wrap .i64 (↑(UInt8.toNat (af (ac b).1 0)) : Int)) (k + 6)) <| xa4 h6 <| aa ff <| aa (cr ((Pk.mk (IntKind.wrap .i64 (↑(UInt8.toNat (af (ac b).1 0)) : Int)) (cl (Array.toList (ByteArray.data (ByteArray.extract (ac b).1 1 9)))) ((He.mk 0 ((Ve.mk 0 0 0 0)) false false false false (BitVec.ofNat 32 0))) 0 (ByteArray.extract (ac b).1 9 (ByteArray.size (ac b).1)))) (k + 1)) <| xa2 (cn z0) <| aa (dZ ((Pk.mk (IntKind.wrap .i64 (↑(UInt8.toNat (af (ac b).1 0)) : Int)) (cl (Array.toList (ByteArray.data (ByteArray.extract (ac b).1 1 9)))) ((He.mk 0 ((Ve.mk 0 0 0 0)) false false false false (BitVec.ofNat 32 0))) 0 (ByteArray.extract (ac b).1 9 (ByteArray.size (ac b).1)))) (show ByteArray.size (ByteArray.extract (ac b).1 (9 : Nat) (ByteArray.size (ac b).1)) ≤ 1000000 from by first | omega | (simp only [ByteArray.size_append, ax, aO, aU, List.size_toArray, aq, aA, aw, an, al, List.length_cons, List.length_nil] at *; omega)) k) <| xa3 (cn z0) <| aa (cn z1) <| trivial) (gs := xc (G.call [Res.c (st (ac b).1), Res.c (ii (ac b).2)] []) <| xg2 gF <| xc (G.cut 1 9 []) <| xc (G.call [Res.c (u (cl (Array.toList (ByteArray.data (ByteArray.extract (ac b).1 1 9))))), Res.c (bo true)] []) <| xc (G.byte 0 (af (ac b).1 0)) <| xc (G.cut 9 (ByteArray.size (ac b).1) []) <| xc gF <| xc (G.call [Res.c (bo (aP (IntKind.wrap .i64 (↑(UInt8.toNat (af (ac b).1 0)) : Int))))] []) <| xg5 gF <| xc (G.call [Res.c (bo (bg (Pk.mk (IntKind.wrap .i64 (↑(UInt8.toNat (af (ac b).1 0)) : Int)) (cl (Array.toList (ByteArray.data (ByteArray.extract (ac b).1 1 9)))) ((He.mk 0 ((Ve.mk 0 0 0 0)) false false false false (BitVec.ofNat 32 0))) 0 (ByteArray.extract (ac b).1 9 (ByteArray.size (ac b).1)))))] []) <| xg2 gF <| xc (G.call [Res.c (st (bH (Pk.mk (IntKind.wrap .i64 (↑(UInt8.toNat (af (ac b).1 0)) : Int)) (cl (Array.toList (ByteArray.data (ByteArray.extract (ac b).1 1 9)))) ((He.mk 0 ((Ve.mk 0 0 0 0)) false false false false (BitVec.ofNat 32 0))) 0 (ByteArray.extract (ac b).1 9 (ByteArray.size (ac b).1)))))] []) <| xg3 gF <| [gT]) (by simp only [bB, eG, mI, he0, h1, h2, h5, h6, z0, z1, vq] <;> rfl)
  · exact rt (aa (eE b (show b.size ≤ 1000000 from by omega) (k + 2)) <| aa (cn h1) <| aa h2 <| aa (rfl : (9 : Int) = (9 : Int)) <| aa (rfl : (1 : Int) = (1 : Int)) <| aa (show (1 : Nat) ≤ 9 from by decide) <| aa hs <| aa (i8 (ByteArray.extract (ac b).1 1 9) h4 (k + 5)) <| aa (rfl : (0 : Int) = (0 : Int)) <| aa h3 <| aa (rfl : ByteArray.size (ac b).1 = ByteArray.size (ac b).1) <| aa (rfl : (9 : Int) = (9 : Int)) <| aa hs <| aa (show ByteArray.size (ac b).1 ≤ ByteArray.size (ac b).1 from by omega) <| aa h5 <| aa (cf (IntKind.wrap .i64 (↑(UInt8.toNat (af (ac b).1 0)) : Int)) (k + 6)) <| xa4 h6 <| aa ff <| aa (cr ((Pk.mk (IntKind.wrap .i64 (↑(UInt8.toNat (af (ac b).1 0)) : Int)) (cl (Array.toList (ByteArray.data (ByteArray.extract (ac b).1 1 9)))) ((He.mk 0 ((Ve.mk 0 0 0 0)) false false false false (BitVec.ofNat 32 0))) 0 (ByteArray.extract (ac b).1 9 (ByteArray.size (ac b).1)))) (k + 1)) <| xa5 (cn z0) <| aa tt <| trivial) (gs := xc (G.call [Res.c (st (ac b).1), Res.c (ii (ac b).2)] []) <| xg2 gF <| xc (G.cut 1 9 []) <| xc (G.call [Res.c (u (cl (Array.toList (ByteArray.data (ByteArray.extract (ac b).1 1 9))))), Res.c (bo true)] []) <| xc (G.byte 0 (af (ac b).1 0)) <| xc (G.cut 9 (ByteArray.size (ac b).1) []) <| xc gF <| xc (G.call [Res.c (bo (aP (IntKind.wrap .i64 (↑(UInt8.toNat (af (ac b).1 0)) : Int))))] []) <| xg5 gF <| xc (G.call [Res.c (bo (bg (Pk.mk (IntKind.wrap .i64 (↑(UInt8.toNat (af (ac b).1 0)) : Int)) (cl (Array.toList (ByteArray.data (ByteArray.extract (ac b).1 1 9)))) ((He.mk 0 ((Ve.mk 0 0 0 0)) false false false false (BitVec.ofNat 32 0))) 0 (ByteArray.extract (ac b).1 9 (ByteArray.size (ac b).1)))))] []) <| xg6 gT <| []) (by simp only [bB, eG, mI, he0, h1, h2, h5, h6, z0, vq] <;> rfl)
theorem BI (b : ByteArray) (hb : b.size ≤ 800000) (h1 : (Prod.snd (ac b) == 0) = true) (h2 : decide ((↑(ByteArray.size (ac b).1) : Int) < 9) = false) (hs : (9 : Nat) ≤ ByteArray.size (ac b).1) (hs2 : ByteArray.size (ac b).1 ≤ 800000) (h3 : (ac b).1[0]? = some (af (ac b).1 0)) (h4 : ByteArray.size (ByteArray.extract (ac b).1 1 9) = 8) (h5 : (IntKind.wrap .i64 (↑(UInt8.toNat (af (ac b).1 0)) : Int) == 1) = false) (h6 : aP (IntKind.wrap .i64 (↑(UInt8.toNat (af (ac b).1 0)) : Int)) = true) (h7 : ByteArray.size (ByteArray.extract (ac b).1 9 (ByteArray.size (ac b).1)) ≤ 800000) (h8 : decide ((↑(ByteArray.size (ByteArray.extract (ac b).1 9 (ByteArray.size (ac b).1))) : Int) > 0) = false) (h8r : od (ac b).1 = false) (k : Nat) : ak PP GL XX HH NN (k + 8) 98 [A.c (st b)] [] = some ([Res.agg (Pk.cs (bB b).1), Res.c (ii (bB b).2)], []) := by
  rcases bft (bg (Pk.mk (IntKind.wrap .i64 (↑(UInt8.toNat (af (ac b).1 0)) : Int)) (cl (Array.toList (ByteArray.data (ByteArray.extract (ac b).1 1 9)))) ((He.mk 0 ((Ve.mk 0 0 0 0)) false false false false (BitVec.ofNat 32 0))) 0 (ByteArray.extract (ac b).1 9 (ByteArray.size (ac b).1)))) with z0 | z0
  · rcases bft (bH (Pk.mk (IntKind.wrap .i64 (↑(UInt8.toNat (af (ac b).1 0)) : Int)) (cl (Array.toList (ByteArray.data (ByteArray.extract (ac b).1 1 9)))) ((He.mk 0 ((Ve.mk 0 0 0 0)) false false false false (BitVec.ofNat 32 0))) 0 (ByteArray.extract (ac b).1 9 (ByteArray.size (ac b).1))) == Prod.fst (ac b)) with z1 | z1
    · exact rt (aa (eE b (show b.size ≤ 1000000 from by omega) (k + 2)) <| aa (cn h1) <| aa h2 <| aa (rfl : (9 : Int) = (9 : Int)) <| aa (rfl : (1 : Int) = (1 : Int)) <| aa (show (1 : Nat) ≤ 9 from by decide) <| aa hs <| aa (i8 (ByteArray.extract (ac b).1 1 9) h4 (k + 5)) <| aa (rfl : (0 : Int) = (0 : Int)) <| aa h3 <| aa (rfl : ByteArray.size (ac b).1 = ByteArray.size (ac b).1) <| aa (rfl : (9 : Int) = (9 : Int)) <| aa hs <| aa (show ByteArray.size (ac b).1 ≤ ByteArray.size (ac b).1 from by omega) <| aa h5 <| aa (cf (IntKind.wrap .i64 (↑(UInt8.toNat (af (ac b).1 0)) : Int)) (k + 6)) <| xa4 h6 <| aa h8 <| aa (cr ((Pk.mk (IntKind.wrap .i64 (↑(UInt8.toNat (af (ac b).1 0)) : Int)) (cl (Array.toList (ByteArray.data (ByteArray.extract (ac b).1 1 9)))) ((He.mk 0 ((Ve.mk 0 0 0 0)) false false false false (BitVec.ofNat 32 0))) 0 (ByteArray.extract (ac b).1 9 (ByteArray.size (ac b).1)))) (k + 1)) <| xa2 (cn z0) <| aa (dZ ((Pk.mk (IntKind.wrap .i64 (↑(UInt8.toNat (af (ac b).1 0)) : Int)) (cl (Array.toList (ByteArray.data (ByteArray.extract (ac b).1 1 9)))) ((He.mk 0 ((Ve.mk 0 0 0 0)) false false false false (BitVec.ofNat 32 0))) 0 (ByteArray.extract (ac b).1 9 (ByteArray.size (ac b).1)))) (show ByteArray.size (ByteArray.extract (ac b).1 (9 : Nat) (ByteArray.size (ac b).1)) ≤ 1000000 from by first | omega | (simp only [ByteArray.size_append, ax, aO, aU, List.size_toArray, aq, aA, aw, an, al, List.length_cons, List.length_nil] at *; omega)) k) <| xa3 (cn z0) <| aa (cn z1) <| trivial) (gs := xc (G.call [Res.c (st (ac b).1), Res.c (ii (ac b).2)] []) <| xg2 gF <| xc (G.cut 1 9 []) <| xc (G.call [Res.c (u (cl (Array.toList (ByteArray.data (ByteArray.extract (ac b).1 1 9))))), Res.c (bo true)] []) <| xc (G.byte 0 (af (ac b).1 0)) <| xc (G.cut 9 (ByteArray.size (ac b).1) []) <| xc gF <| xc (G.call [Res.c (bo (aP (IntKind.wrap .i64 (↑(UInt8.toNat (af (ac b).1 0)) : Int))))] []) <| xg4 gT <| xc gF <| xc (G.call [Res.c (bo (bg (Pk.mk (IntKind.wrap .i64 (↑(UInt8.toNat (af (ac b).1 0)) : Int)) (cl (Array.toList (ByteArray.data (ByteArray.extract (ac b).1 1 9)))) ((He.mk 0 ((Ve.mk 0 0 0 0)) false false false false (BitVec.ofNat 32 0))) 0 (ByteArray.extract (ac b).1 9 (ByteArray.size (ac b).1)))))] []) <| xg2 gF <| xc (G.call [Res.c (st (bH (Pk.mk (IntKind.wrap .i64 (↑(UInt8.toNat (af (ac b).1 0)) : Int)) (cl (Array.toList (ByteArray.data (ByteArray.extract (ac b).1 1 9)))) ((He.mk 0 ((Ve.mk 0 0 0 0)) false false false false (BitVec.ofNat 32 0))) 0 (ByteArray.extract (ac b).1 9 (ByteArray.size (ac b).1)))))] []) <| xg4 gF <| []) (by simp only [bB, eG, mI, he0, h1, h2, h5, h6, h8r, z0, z1, vq] <;> rfl)
    · exact rt (aa (eE b (show b.size ≤ 1000000 from by omega) (k + 2)) <| aa (cn h1) <| aa h2 <| aa (rfl : (9 : Int) = (9 : Int)) <| aa (rfl : (1 : Int) = (1 : Int)) <| aa (show (1 : Nat) ≤ 9 from by decide) <| aa hs <| aa (i8 (ByteArray.extract (ac b).1 1 9) h4 (k + 5)) <| aa (rfl : (0 : Int) = (0 : Int)) <| aa h3 <| aa (rfl : ByteArray.size (ac b).1 = ByteArray.size (ac b).1) <| aa (rfl : (9 : Int) = (9 : Int)) <| aa hs <| aa (show ByteArray.size (ac b).1 ≤ ByteArray.size (ac b).1 from by omega) <| aa h5 <| aa (cf (IntKind.wrap .i64 (↑(UInt8.toNat (af (ac b).1 0)) : Int)) (k + 6)) <| xa4 h6 <| aa h8 <| aa (cr ((Pk.mk (IntKind.wrap .i64 (↑(UInt8.toNat (af (ac b).1 0)) : Int)) (cl (Array.toList (ByteArray.data (ByteArray.extract (ac b).1 1 9)))) ((He.mk 0 ((Ve.mk 0 0 0 0)) false false false false (BitVec.ofNat 32 0))) 0 (ByteArray.extract (ac b).1 9 (ByteArray.size (ac b).1)))) (k + 1)) <| xa2 (cn z0) <| aa (dZ ((Pk.mk (IntKind.wrap .i64 (↑(UInt8.toNat (af (ac b).1 0)) : Int)) (cl (Array.toList (ByteArray.data (ByteArray.extract (ac b).1 1 9)))) ((He.mk 0 ((Ve.mk 0 0 0 0)) false false false false (BitVec.ofNat 32 0))) 0 (ByteArray.extract (ac b).1 9 (ByteArray.size (ac b).1)))) (show ByteArray.size (ByteArray.extract (ac b).1 (9 : Nat) (ByteArray.size (ac b).1)) ≤ 1000000 from by first | omega | (simp only [ByteArray.size_append, ax, aO, aU, List.size_toArray, aq, aA, aw, an, al, List.length_cons, List.length_nil] at *; omega)) k) <| xa3 (cn z0) <| aa (cn z1) <| trivial) (gs := xc (G.call [Res.c (st (ac b).1), Res.c (ii (ac b).2)] []) <| xg2 gF <| xc (G.cut 1 9 []) <| xc (G.call [Res.c (u (cl (Array.toList (ByteArray.data (ByteArray.extract (ac b).1 1 9))))), Res.c (bo true)] []) <| xc (G.byte 0 (af (ac b).1 0)) <| xc (G.cut 9 (ByteArray.size (ac b).1) []) <| xc gF <| xc (G.call [Res.c (bo (aP (IntKind.wrap .i64 (↑(UInt8.toNat (af (ac b).1 0)) : Int))))] []) <| xg4 gT <| xc gF <| xc (G.call [Res.c (bo (bg (Pk.mk (IntKind.wrap .i64 (↑(UInt8.toNat (af (ac b).1 0)) : Int)) (cl (Array.toList (ByteArray.data (ByteArray.extract (ac b).1 1 9)))) ((He.mk 0 ((Ve.mk 0 0 0 0)) false false false false (BitVec.ofNat 32 0))) 0 (ByteArray.extract (ac b).1 9 (ByteArray.size (ac b).1)))))] []) <| xg2 gF <| xc (G.call [Res.c (st (bH (Pk.mk (IntKind.wrap .i64 (↑(UInt8.toNat (af (ac b).1 0)) : Int)) (cl (Array.toList (ByteArray.data (ByteArray.extract (ac b).1 1 9)))) ((He.mk 0 ((Ve.mk 0 0 0 0)) false false false false (BitVec.ofNat 32 0))) 0 (ByteArray.extract (ac b).1 9 (ByteArray.size (ac b).1)))))] []) <| xg3 gF <| [gT]) (by simp only [bB, eG, mI, he0, h1, h2, h5, h6, h8r, z0, z1, vq] <;> rfl)
  · exact rt (aa (eE b (show b.size ≤ 1000000 from by omega) (k + 2)) <| aa (cn h1) <| aa h2 <| aa (rfl : (9 : Int) = (9 : Int)) <| aa (rfl : (1 : Int) = (1 : Int)) <| aa (show (1 : Nat) ≤ 9 from by decide) <| aa hs <| aa (i8 (ByteArray.extract (ac b).1 1 9) h4 (k + 5)) <| aa (rfl : (0 : Int) = (0 : Int)) <| aa h3 <| aa (rfl : ByteArray.size (ac b).1 = ByteArray.size (ac b).1) <| aa (rfl : (9 : Int) = (9 : Int)) <| aa hs <| aa (show ByteArray.size (ac b).1 ≤ ByteArray.size (ac b).1 from by omega) <| aa h5 <| aa (cf (IntKind.wrap .i64 (↑(UInt8.toNat (af (ac b).1 0)) : Int)) (k + 6)) <| xa4 h6 <| aa h8 <| aa (cr ((Pk.mk (IntKind.wrap .i64 (↑(UInt8.toNat (af (ac b).1 0)) : Int)) (cl (Array.toList (ByteArray.data (ByteArray.extract (ac b).1 1 9)))) ((He.mk 0 ((Ve.mk 0 0 0 0)) false false false false (BitVec.ofNat 32 0))) 0 (ByteArray.extract (ac b).1 9 (ByteArray.size (ac b).1)))) (k + 1)) <| xa5 (cn z0) <| aa tt <| trivial) (gs := xc (G.call [Res.c (st (ac b).1), Res.c (ii (ac b).2)] []) <| xg2 gF <| xc (G.cut 1 9 []) <| xc (G.call [Res.c (u (cl (Array.toList (ByteArray.data (ByteArray.extract (ac b).1 1 9))))), Res.c (bo true)] []) <| xc (G.byte 0 (af (ac b).1 0)) <| xc (G.cut 9 (ByteArray.size (ac b).1) []) <| xc gF <| xc (G.call [Res.c (bo (aP (IntKind.wrap .i64 (↑(UInt8.toNat (af (ac b).1 0)) : Int))))] []) <| xg4 gT <| xc gF <| xc (G.call [Res.c (bo (bg (Pk.mk (IntKind.wrap .i64 (↑(UInt8.toNat (af (ac b).1 0)) : Int)) (cl (Array.toList (ByteArray.data (ByteArray.extract (ac b).1 1 9)))) ((He.mk 0 ((Ve.mk 0 0 0 0)) false false false false (BitVec.ofNat 32 0))) 0 (ByteArray.extract (ac b).1 9 (ByteArray.size (ac b).1)))))] []) <| xg6 gT <| []) (by simp only [bB, eG, mI, he0, h1, h2, h5, h6, h8r, z0, vq] <;> rfl)
theorem CU (b : ByteArray) (hb : b.size ≤ 800000) (h1 : (Prod.snd (ac b) == 0) = true) (h2 : decide ((↑(ByteArray.size (ac b).1) : Int) < 9) = false) (hs : (9 : Nat) ≤ ByteArray.size (ac b).1) (hs2 : ByteArray.size (ac b).1 ≤ 800000) (h3 : (ac b).1[0]? = some (af (ac b).1 0)) (h4 : ByteArray.size (ByteArray.extract (ac b).1 1 9) = 8) (h5 : (IntKind.wrap .i64 (↑(UInt8.toNat (af (ac b).1 0)) : Int) == 1) = false) (h6 : aP (IntKind.wrap .i64 (↑(UInt8.toNat (af (ac b).1 0)) : Int)) = true) (h7 : ByteArray.size (ByteArray.extract (ac b).1 9 (ByteArray.size (ac b).1)) ≤ 800000) (h8 : decide ((↑(ByteArray.size (ByteArray.extract (ac b).1 9 (ByteArray.size (ac b).1))) : Int) > 0) = true) (h8r : od (ac b).1 = true) (h9 : (ByteArray.extract (ac b).1 9 (ByteArray.size (ac b).1))[0]? = some (af (ByteArray.extract (ac b).1 9 (ByteArray.size (ac b).1)) 0)) (h10 : (1 : Nat) ≤ ByteArray.size (ByteArray.extract (ac b).1 9 (ByteArray.size (ac b).1))) (h11 : ByteArray.size (ByteArray.extract (ByteArray.extract (ac b).1 9 (ByteArray.size (ac b).1)) 1 (ByteArray.size (ByteArray.extract (ac b).1 9 (ByteArray.size (ac b).1)))) ≤ 800000) (k : Nat) : ak PP GL XX HH NN (k + 8) 98 [A.c (st b)] [] = some ([Res.agg (Pk.cs (bB b).1), Res.c (ii (bB b).2)], []) := by
  rcases bft (bg (Pk.mk (IntKind.wrap .i64 (↑(UInt8.toNat (af (ac b).1 0)) : Int)) (cl (Array.toList (ByteArray.data (ByteArray.extract (ac b).1 1 9)))) ((He.mk 0 ((Ve.mk 0 0 0 0)) false false false false (BitVec.ofNat 32 0))) (IntKind.wrap .i64 (↑(UInt8.toNat (af (ByteArray.extract (ac b).1 9 (ByteArray.size (ac b).1)) 0)) : Int)) (ByteArray.extract (ByteArray.extract (ac b).1 9 (ByteArray.size (ac b).1)) 1 (ByteArray.size (ByteArray.extract (ac b).1 9 (ByteArray.size (ac b).1)))))) with z0 | z0
  · rcases bft (bH (Pk.mk (IntKind.wrap .i64 (↑(UInt8.toNat (af (ac b).1 0)) : Int)) (cl (Array.toList (ByteArray.data (ByteArray.extract (ac b).1 1 9)))) ((He.mk 0 ((Ve.mk 0 0 0 0)) false false false false (BitVec.ofNat 32 0))) (IntKind.wrap .i64 (↑(UInt8.toNat (af (ByteArray.extract (ac b).1 9 (ByteArray.size (ac b).1)) 0)) : Int)) (ByteArray.extract (ByteArray.extract (ac b).1 9 (ByteArray.size (ac b).1)) 1 (ByteArray.size (ByteArray.extract (ac b).1 9 (ByteArray.size (ac b).1))))) == Prod.fst (ac b)) with z1 | z1
    · exact rt (aa (eE b (show b.size ≤ 1000000 from by omega) (k + 2)) <| aa (cn h1) <| aa h2 <| aa (rfl : (9 : Int) = (9 : Int)) <| aa (rfl : (1 : Int) = (1 : Int)) <| aa (show (1 : Nat) ≤ 9 from by decide) <| aa hs <| aa (i8 (ByteArray.extract (ac b).1 1 9) h4 (k + 5)) <| aa (rfl : (0 : Int) = (0 : Int)) <| aa h3 <| aa (rfl : ByteArray.size (ac b).1 = ByteArray.size (ac b).1) <| aa (rfl : (9 : Int) = (9 : Int)) <| aa hs <| aa (show ByteArray.size (ac b).1 ≤ ByteArray.size (ac b).1 from by omega) <| aa h5 <| aa (cf (IntKind.wrap .i64 (↑(UInt8.toNat (af (ac b).1 0)) : Int)) (k + 6)) <| xa4 h6 <| aa h8 <| aa (rfl : (0 : Int) = (0 : Int)) <| aa h9 <| aa (rfl : ByteArray.size (ByteArray.extract (ac b).1 (9 : Nat) (ByteArray.size (ac b).1)) = ByteArray.size (ByteArray.extract (ac b).1 (9 : Nat) (ByteArray.size (ac b).1))) <| aa (rfl : (1 : Int) = (1 : Int)) <| aa h10 <| aa (show ByteArray.size (ByteArray.extract (ac b).1 (9 : Nat) (ByteArray.size (ac b).1)) ≤ ByteArray.size (ByteArray.extract (ac b).1 (9 : Nat) (ByteArray.size (ac b).1)) from by first | omega | (simp only [ByteArray.size_append, ax, aO, aU, List.size_toArray, aq, aA, aw, an, al, List.length_cons, List.length_nil] at *; omega)) <| aa (cr ((Pk.mk (IntKind.wrap .i64 (↑(UInt8.toNat (af (ac b).1 0)) : Int)) (cl (Array.toList (ByteArray.data (ByteArray.extract (ac b).1 1 9)))) ((He.mk 0 ((Ve.mk 0 0 0 0)) false false false false (BitVec.ofNat 32 0))) (IntKind.wrap .i64 (↑(UInt8.toNat (af (ByteArray.extract (ac b).1 9 (ByteArray.size (ac b).1)) 0)) : Int)) (ByteArray.extract (ByteArray.extract (ac b).1 9 (ByteArray.size (ac b).1)) 1 (ByteArray.size (ByteArray.extract (ac b).1 9 (ByteArray.size (ac b).1)))))) (k + 1)) <| xa2 (cn z0) <| aa (dZ ((Pk.mk (IntKind.wrap .i64 (↑(UInt8.toNat (af (ac b).1 0)) : Int)) (cl (Array.toList (ByteArray.data (ByteArray.extract (ac b).1 1 9)))) ((He.mk 0 ((Ve.mk 0 0 0 0)) false false false false (BitVec.ofNat 32 0))) (IntKind.wrap .i64 (↑(UInt8.toNat (af (ByteArray.extract (ac b).1 9 (ByteArray.size (ac b).1)) 0)) : Int)) (ByteArray.extract (ByteArray.extract (ac b).1 9 (ByteArray.size (ac b).1)) 1 (ByteArray.size (ByteArray.extract (ac b).1 9 (ByteArray.size (ac b).1)))))) (show ByteArray.size (ByteArray.extract (ByteArray.extract (ac b).1 (9 : Nat) (ByteArray.size (ac b).1)) (1 : Nat) (ByteArray.size (ByteArray.extract (ac b).1 (9 : Nat) (ByteArray.size (ac b).1)))) ≤ 1000000 from by first | omega | (simp only [ByteArray.size_append, ax, aO, aU, List.size_toArray, aq, aA, aw, an, al, List.length_cons, List.length_nil] at *; omega)) k) <| xa3 (cn z0) <| aa (cn z1) <| trivial) (gs := xc (G.call [Res.c (st (ac b).1), Res.c (ii (ac b).2)] []) <| xg2 gF <| xc (G.cut 1 9 []) <| xc (G.call [Res.c (u (cl (Array.toList (ByteArray.data (ByteArray.extract (ac b).1 1 9))))), Res.c (bo true)] []) <| xc (G.byte 0 (af (ac b).1 0)) <| xc (G.cut 9 (ByteArray.size (ac b).1) []) <| xc gF <| xc (G.call [Res.c (bo (aP (IntKind.wrap .i64 (↑(UInt8.toNat (af (ac b).1 0)) : Int))))] []) <| xg5 gT <| xc (G.byte 0 (af (ByteArray.extract (ac b).1 9 (ByteArray.size (ac b).1)) 0)) <| xc (G.cut 1 (ByteArray.size (ByteArray.extract (ac b).1 9 (ByteArray.size (ac b).1))) []) <| xc (G.call [Res.c (bo (bg (Pk.mk (IntKind.wrap .i64 (↑(UInt8.toNat (af (ac b).1 0)) : Int)) (cl (Array.toList (ByteArray.data (ByteArray.extract (ac b).1 1 9)))) ((He.mk 0 ((Ve.mk 0 0 0 0)) false false false false (BitVec.ofNat 32 0))) (IntKind.wrap .i64 (↑(UInt8.toNat (af (ByteArray.extract (ac b).1 9 (ByteArray.size (ac b).1)) 0)) : Int)) (ByteArray.extract (ByteArray.extract (ac b).1 9 (ByteArray.size (ac b).1)) 1 (ByteArray.size (ByteArray.extract (ac b).1 9 (ByteArray.size (ac b).1)))))))] []) <| xg2 gF <| xc (G.call [Res.c (st (bH (Pk.mk (IntKind.wrap .i64 (↑(UInt8.toNat (af (ac b).1 0)) : Int)) (cl (Array.toList (ByteArray.data (ByteArray.extract (ac b).1 1 9)))) ((He.mk 0 ((Ve.mk 0 0 0 0)) false false false false (BitVec.ofNat 32 0))) (IntKind.wrap .i64 (↑(UInt8.toNat (af (ByteArray.extract (ac b).1 9 (ByteArray.size (ac b).1)) 0)) : Int)) (ByteArray.extract (ByteArray.extract (ac b).1 9 (ByteArray.size (ac b).1)) 1 (ByteArray.size (ByteArray.extract (ac b).1 9 (ByteArray.size (ac b).1)))))))] []) <| xg4 gF <| []) (by simp only [bB, eG, mI, he0, h1, h2, h5, h6, h8r, z0, z1, vq] <;> rfl)
    · exact rt (aa (eE b (show b.size ≤ 1000000 from by omega) (k + 2)) <| aa (cn h1) <| aa h2 <| aa (rfl : (9 : Int) = (9 : Int)) <| aa (rfl : (1 : Int) = (1 : Int)) <| aa (show (1 : Nat) ≤ 9 from by decide) <| aa hs <| aa (i8 (ByteArray.extract (ac b).1 1 9) h4 (k + 5)) <| aa (rfl : (0 : Int) = (0 : Int)) <| aa h3 <| aa (rfl : ByteArray.size (ac b).1 = ByteArray.size (ac b).1) <| aa (rfl : (9 : Int) = (9 : Int)) <| aa hs <| aa (show ByteArray.size (ac b).1 ≤ ByteArray.size (ac b).1 from by omega) <| aa h5 <| aa (cf (IntKind.wrap .i64 (↑(UInt8.toNat (af (ac b).1 0)) : Int)) (k + 6)) <| xa4 h6 <| aa h8 <| aa (rfl : (0 : Int) = (0 : Int)) <| aa h9 <| aa (rfl : ByteArray.size (ByteArray.extract (ac b).1 (9 : Nat) (ByteArray.size (ac b).1)) = ByteArray.size (ByteArray.extract (ac b).1 (9 : Nat) (ByteArray.size (ac b).1))) <| aa (rfl : (1 : Int) = (1 : Int)) <| aa h10 <| aa (show ByteArray.size (ByteArray.extract (ac b).1 (9 : Nat) (ByteArray.size (ac b).1)) ≤ ByteArray.size (ByteArray.extract (ac b).1 (9 : Nat) (ByteArray.size (ac b).1)) from by first | omega | (simp only [ByteArray.size_append, ax, aO, aU, List.size_toArray, aq, aA, aw, an, al, List.length_cons, List.length_nil] at *; omega)) <| aa (cr ((Pk.mk (IntKind.wrap .i64 (↑(UInt8.toNat (af (ac b).1 0)) : Int)) (cl (Array.toList (ByteArray.data (ByteArray.extract (ac b).1 1 9)))) ((He.mk 0 ((Ve.mk 0 0 0 0)) false false false false (BitVec.ofNat 32 0))) (IntKind.wrap .i64 (↑(UInt8.toNat (af (ByteArray.extract (ac b).1 9 (ByteArray.size (ac b).1)) 0)) : Int)) (ByteArray.extract (ByteArray.extract (ac b).1 9 (ByteArray.size (ac b).1)) 1 (ByteArray.size (ByteArray.extract (ac b).1 9 (ByteArray.size (ac b).1)))))) (k + 1)) <| xa2 (cn z0) <| aa (dZ ((Pk.mk (IntKind.wrap .i64 (↑(UInt8.toNat (af (ac b).1 0)) : Int)) (cl (Array.toList (ByteArray.data (ByteArray.extract (ac b).1 1 9)))) ((He.mk 0 ((Ve.mk 0 0 0 0)) false false false false (BitVec.ofNat 32 0))) (IntKind.wrap .i64 (↑(UInt8.toNat (af (ByteArray.extract (ac b).1 9 (ByteArray.size (ac b).1)) 0)) : Int)) (ByteArray.extract (ByteArray.extract (ac b).1 9 (ByteArray.size (ac b).1)) 1 (ByteArray.size (ByteArray.extract (ac b).1 9 (ByteArray.size (ac b).1)))))) (show ByteArray.size (ByteArray.extract (ByteArray.extract (ac b).1 (9 : Nat) (ByteArray.size (ac b).1)) (1 : Nat) (ByteArray.size (ByteArray.extract (ac b).1 (9 : Nat) (ByteArray.size (ac b).1)))) ≤ 1000000 from by first | omega | (simp only [ByteArray.size_append, ax, aO, aU, List.size_toArray, aq, aA, aw, an, al, List.length_cons, List.length_nil] at *; omega)) k) <| xa3 (cn z0) <| aa (cn z1) <| trivial) (gs := xc (G.call [Res.c (st (ac b).1), Res.c (ii (ac b).2)] []) <| xg2 gF <| xc (G.cut 1 9 []) <| xc (G.call [Res.c (u (cl (Array.toList (ByteArray.data (ByteArray.extract (ac b).1 1 9))))), Res.c (bo true)] []) <| xc (G.byte 0 (af (ac b).1 0)) <| xc (G.cut 9 (ByteArray.size (ac b).1) []) <| xc gF <| xc (G.call [Res.c (bo (aP (IntKind.wrap .i64 (↑(UInt8.toNat (af (ac b).1 0)) : Int))))] []) <| xg5 gT <| xc (G.byte 0 (af (ByteArray.extract (ac b).1 9 (ByteArray.size (ac b).1)) 0)) <| xc (G.cut 1 (ByteArray.size (ByteArray.extract (ac b).1 9 (ByteArray.size (ac b).1))) []) <| xc (G.call [Res.c (bo (bg (Pk.mk (IntKind.wrap .i64 (↑(UInt8.toNat (af (ac b).1 0)) : Int)) (cl (Array.toList (ByteArray.data (ByteArray.extract (ac b).1 1 9)))) ((He.mk 0 ((Ve.mk 0 0 0 0)) false false false false (BitVec.ofNat 32 0))) (IntKind.wrap .i64 (↑(UInt8.toNat (af (ByteArray.extract (ac b).1 9 (ByteArray.size (ac b).1)) 0)) : Int)) (ByteArray.extract (ByteArray.extract (ac b).1 9 (ByteArray.size (ac b).1)) 1 (ByteArray.size (ByteArray.extract (ac b).1 9 (ByteArray.size (ac b).1)))))))] []) <| xg2 gF <| xc (G.call [Res.c (st (bH (Pk.mk (IntKind.wrap .i64 (↑(UInt8.toNat (af (ac b).1 0)) : Int)) (cl (Array.toList (ByteArray.data (ByteArray.extract (ac b).1 1 9)))) ((He.mk 0 ((Ve.mk 0 0 0 0)) false false false false (BitVec.ofNat 32 0))) (IntKind.wrap .i64 (↑(UInt8.toNat (af (ByteArray.extract (ac b).1 9 (ByteArray.size (ac b).1)) 0)) : Int)) (ByteArray.extract (ByteArray.extract (ac b).1 9 (ByteArray.size (ac b).1)) 1 (ByteArray.size (ByteArray.extract (ac b).1 9 (ByteArray.size (ac b).1)))))))] []) <| xg3 gF <| [gT]) (by simp only [bB, eG, mI, he0, h1, h2, h5, h6, h8r, z0, z1, vq] <;> rfl)
  · exact rt (aa (eE b (show b.size ≤ 1000000 from by omega) (k + 2)) <| aa (cn h1) <| aa h2 <| aa (rfl : (9 : Int) = (9 : Int)) <| aa (rfl : (1 : Int) = (1 : Int)) <| aa (show (1 : Nat) ≤ 9 from by decide) <| aa hs <| aa (i8 (ByteArray.extract (ac b).1 1 9) h4 (k + 5)) <| aa (rfl : (0 : Int) = (0 : Int)) <| aa h3 <| aa (rfl : ByteArray.size (ac b).1 = ByteArray.size (ac b).1) <| aa (rfl : (9 : Int) = (9 : Int)) <| aa hs <| aa (show ByteArray.size (ac b).1 ≤ ByteArray.size (ac b).1 from by omega) <| aa h5 <| aa (cf (IntKind.wrap .i64 (↑(UInt8.toNat (af (ac b).1 0)) : Int)) (k + 6)) <| xa4 h6 <| aa h8 <| aa (rfl : (0 : Int) = (0 : Int)) <| aa h9 <| aa (rfl : ByteArray.size (ByteArray.extract (ac b).1 (9 : Nat) (ByteArray.size (ac b).1)) = ByteArray.size (ByteArray.extract (ac b).1 (9 : Nat) (ByteArray.size (ac b).1))) <| aa (rfl : (1 : Int) = (1 : Int)) <| aa h10 <| aa (show ByteArray.size (ByteArray.extract (ac b).1 (9 : Nat) (ByteArray.size (ac b).1)) ≤ ByteArray.size (ByteArray.extract (ac b).1 (9 : Nat) (ByteArray.size (ac b).1)) from by first | omega | (simp only [ByteArray.size_append, ax, aO, aU, List.size_toArray, aq, aA, aw, an, al, List.length_cons, List.length_nil] at *; omega)) <| aa (cr ((Pk.mk (IntKind.wrap .i64 (↑(UInt8.toNat (af (ac b).1 0)) : Int)) (cl (Array.toList (ByteArray.data (ByteArray.extract (ac b).1 1 9)))) ((He.mk 0 ((Ve.mk 0 0 0 0)) false false false false (BitVec.ofNat 32 0))) (IntKind.wrap .i64 (↑(UInt8.toNat (af (ByteArray.extract (ac b).1 9 (ByteArray.size (ac b).1)) 0)) : Int)) (ByteArray.extract (ByteArray.extract (ac b).1 9 (ByteArray.size (ac b).1)) 1 (ByteArray.size (ByteArray.extract (ac b).1 9 (ByteArray.size (ac b).1)))))) (k + 1)) <| xa5 (cn z0) <| aa tt <| trivial) (gs := xc (G.call [Res.c (st (ac b).1), Res.c (ii (ac b).2)] []) <| xg2 gF <| xc (G.cut 1 9 []) <| xc (G.call [Res.c (u (cl (Array.toList (ByteArray.data (ByteArray.extract (ac b).1 1 9))))), Res.c (bo true)] []) <| xc (G.byte 0 (af (ac b).1 0)) <| xc (G.cut 9 (ByteArray.size (ac b).1) []) <| xc gF <| xc (G.call [Res.c (bo (aP (IntKind.wrap .i64 (↑(UInt8.toNat (af (ac b).1 0)) : Int))))] []) <| xg5 gT <| xc (G.byte 0 (af (ByteArray.extract (ac b).1 9 (ByteArray.size (ac b).1)) 0)) <| xc (G.cut 1 (ByteArray.size (ByteArray.extract (ac b).1 9 (ByteArray.size (ac b).1))) []) <| xc (G.call [Res.c (bo (bg (Pk.mk (IntKind.wrap .i64 (↑(UInt8.toNat (af (ac b).1 0)) : Int)) (cl (Array.toList (ByteArray.data (ByteArray.extract (ac b).1 1 9)))) ((He.mk 0 ((Ve.mk 0 0 0 0)) false false false false (BitVec.ofNat 32 0))) (IntKind.wrap .i64 (↑(UInt8.toNat (af (ByteArray.extract (ac b).1 9 (ByteArray.size (ac b).1)) 0)) : Int)) (ByteArray.extract (ByteArray.extract (ac b).1 9 (ByteArray.size (ac b).1)) 1 (ByteArray.size (ByteArray.extract (ac b).1 9 (ByteArray.size (ac b).1)))))))] []) <| xg6 gT <| []) (by simp only [bB, eG, mI, he0, h1, h2, h5, h6, h8r, z0, vq] <;> rfl)
theorem uo (b : ByteArray) : (ac b).1.size ≤ b.size := by
  unfold ac
  cases decide ((b.size : Int) < 4)
  · cases bG (b.extract 0 (b.size - 4)) == b
    · exact Nat.zero_le _
    · show (b.extract 0 (b.size - 4)).size ≤ _
      rw [ByteArray.size_extract]; omega
  · exact Nat.zero_le _
theorem qX (b : ByteArray) (hb : b.size ≤ 800000) (k : Nat) : ak PP GL XX HH NN (k + 8) 98 [.c (st b)] [] = some ([.agg (bB b).1.cs, .c (ii (bB b).2)], []) := by
  cases h1 : (ac b).2 == 0 with
  | false => exact BB b hb h1 k
  | true =>
    cases h2 : decide (((ac b).1.size : Int) < 9) with
    | true => exact De b hb h1 h2 k
    | false =>
      have h2' := of_decide_eq_false h2
      have hs := uo b
      have h3 := eZ (s := (ac b).1) (i := 0) (by omega)
      have h4 : ((ac b).1.extract 1 9).size = 8 := by rw [ByteArray.size_extract]; omega
      have h7 : ((ac b).1.extract 9 (ac b).1.size).size ≤ 800000 := by rw [ByteArray.size_extract]; omega
      cases h5 : IntKind.wrap .i64 ((af (ac b).1 0).toNat : Int) == 1 with
      | true => exact CC b hb h1 h2 (by omega) (by omega) h3 h4 h5 (by rw [eq_of_beq h5]; rfl) k
      | false =>
        cases h6 : aP (IntKind.wrap .i64 ((af (ac b).1 0).toNat : Int)) with
        | false => exact BN b hb h1 h2 (by omega) (by omega) h3 h4 h5 h6 h7 k
        | true =>
          cases h8 : decide ((((ac b).1.extract 9 (ac b).1.size).size : Int) > 0) with
          | false => exact BI b hb h1 h2 (by omega) (by omega) h3 h4 h5 h6 h7 h8 h8 k
          | true =>
            have h8' := of_decide_eq_true h8
            exact CU b hb h1 h2 (by omega) (by omega) h3 h4 h5 h6 h7 h8 h8 (eZ (by omega)) (by omega) (by rw [ByteArray.size_extract]; omega) k
theorem cP (b : ByteArray) (ses : Int) (hb : b.size ≤ 800000) (k : Nat) : ak PP GL XX HH NN (k + 9) 68 [A.c (st b), A.c (u ses)] [] = some ([Res.agg (Pk.cs (ap b ses).1), Res.c (ii (ap b ses).2)], []) := by
  rcases bft (Prod.snd (bB b) == 0) with z0 | z0
  · rcases bft (Pk.ses (bB b).1 == ses) with z1 | z1
    · exact rt (aa (qX b hb k) <| aa (cn z0) <| aa (cn z1) <| trivial) (gs := xc (G.call [Res.agg (Pk.cs (bB b).1), Res.c (ii (bB b).2)] []) <| xg2 gF <| []) (by simp only [ap, pk0, he0, z0, z1, vq] <;> rfl)
    · exact rt (aa (qX b hb k) <| aa (cn z0) <| aa (cn z1) <| trivial) (gs := [G.call [Res.agg (Pk.cs (bB b).1), Res.c (ii (bB b).2)] [], gF, gT]) (by simp only [ap, pk0, he0, z0, z1, vq] <;> rfl)
  · exact rt (aa (qX b hb k) <| aa (cn z0) <| trivial) (gs := [G.call [Res.agg (Pk.cs (bB b).1), Res.c (ii (bB b).2)] [], gT]) (by simp only [ap, pk0, he0, z0, vq] <;> rfl)
end Go.Dm
namespace Go.Dm
open Go
theorem we (l : Lk) (k : Nat) : ak PP GL XX HH NN (k + 1) 80 [A.agg (Lk.cs l)] [] = some ([Res.agg (Lk.cs (ch l))], []) := by
  exact rt (trivial) (gs := []) (by simp only [ch, vq] <;> rfl)
theorem rO (l : Lk) (k : Nat) : ak PP GL XX HH NN (k + 1) 82 [A.agg (Lk.cs l)] [] = some ([Res.agg (Lk.cs (aT l))], []) := by
  exact rt (trivial) (gs := []) (by simp only [aT, vq] <;> rfl)
theorem Ac (l : Lk) (to : Int) (ps : List ByteArray) (h0 : l.to0.length + ps.length ≤ 1000000) (h1 : l.to1.length + ps.length ≤ 1000000) (k : Nat) : ak PP GL XX HH NN (k + 1) 99 [A.agg (Lk.cs l), A.c (ii to), A.c (C.slice 1 (List.map eS ps))] [] = some ([Res.agg (Lk.cs (bU l to ps).1), Res.c (ii (bU l to ps).2)], []) := by
  rcases bft (to == 0) with z0 | z0
  · rcases bft l.up with z1 | z1
    · exact rt (xa3 (cn z0) <| aa ff <| aa (cn z1) <| aa (eq_of_beq z0) <| aa (bP (List.map eS l.to0)) <| aa (aV (eS) (l := Lk.to0 l) (n := 1073741824) (by omega)) <| aa (bL (eS) l.to0 (ps)) <| aa (aV (eS) (l := Lk.to0 l ++ ps) (n := 1073741824) (by simp only [vr]; omega)) <| aa (Eq.refl (List.length (List.map eS l.to0))) <| aa (eq_of_beq z0) <| trivial) (gs := xg5 gF <| [G.at 0, G.app (List.map eS l.to0), G.app (List.map eS (Lk.to0 l ++ ps)), G.at 0]) (rs := [Res.agg (Lk.cs ({ l with to0 := Lk.to0 l ++ ps } : Lk)), Res.c (ii 0)]) (by simp only [bU, z0, z1, vq] <;> rfl)
    · exact rt (xa3 (cn z0) <| aa ff <| aa (cn z1) <| trivial) (gs := xg4 gF <| [gT]) (rs := [Res.agg (Lk.cs l), Res.c (ii 7)]) (by simp only [bU, z0, z1, vq] <;> rfl)
  · rcases bft (to == 1) with z1 | z1
    · rcases bft l.up with z2 | z2
      · exact rt (xa3 (cn z0) <| aa (cn z1) <| aa (cn z2) <| aa (eq_of_beq z1) <| aa (bP (List.map eS l.to1)) <| aa (aV (eS) (l := Lk.to1 l) (n := 1073741824) (by omega)) <| aa (bL (eS) l.to1 (ps)) <| aa (aV (eS) (l := Lk.to1 l ++ ps) (n := 1073741824) (by simp only [vr]; omega)) <| aa (Eq.refl (List.length (List.map eS l.to1))) <| aa (eq_of_beq z1) <| trivial) (gs := xg3 gT <| xg2 gF <| [G.at 1, G.app (List.map eS l.to1), G.app (List.map eS (Lk.to1 l ++ ps)), G.at 1]) (rs := [Res.agg (Lk.cs ({ l with to1 := Lk.to1 l ++ ps } : Lk)), Res.c (ii 0)]) (by simp only [bU, z0, z1, z2, vq] <;> rfl)
      · exact rt (xa3 (cn z0) <| aa (cn z1) <| aa (cn z2) <| trivial) (gs := xg3 gT <| [gF, gT]) (rs := [Res.agg (Lk.cs l), Res.c (ii 7)]) (by simp only [bU, z0, z1, z2, vq] <;> rfl)
    · exact rt (xa3 (cn z0) <| aa (cn z1) <| trivial) (gs := xg4 gT <| []) (rs := [Res.agg (Lk.cs l), Res.c (ii 1)]) (by simp only [bU, z0, z1, vq] <;> rfl)
theorem Ew (l : Lk) (he : Lk.to0 l = []) (k : Nat) : ak PP GL XX HH NN (k + 2) 62 [A.agg [bo l.up, u l.ses, C.slice 1 [], C.slice 1 (uJ l.to1)], A.c (ii 0)] [] = some ([Res.c (st ByteArray.empty), Res.agg [bo l.up, u l.ses, C.slice 1 [], C.slice 1 (uJ l.to1)], Res.c (bo false)], []) := by
  exact rt (xa8 ff <| aa (rfl : (0 : Int) = 0) <| xa2 ff <| aa (rfl : (0 : Nat) = (0 : Nat)) <| xa2 ff <| aa tt <| trivial) (gs := xg8 gF <| xc (G.at 0) <| xg2 gF <| xc (G.len 0) <| xg2 gF <| [gT]) rfl
theorem DW (l : Lk) (he : Lk.to1 l = []) (k : Nat) : ak PP GL XX HH NN (k + 2) 62 [A.agg [bo l.up, u l.ses, C.slice 1 (uJ l.to0), C.slice 1 []], A.c (ii 1)] [] = some ([Res.c (st ByteArray.empty), Res.agg [bo l.up, u l.ses, C.slice 1 (uJ l.to0), C.slice 1 []], Res.c (bo false)], []) := by
  exact rt (xa3 tt <| xa5 ff <| aa (rfl : (1 : Int) = 1) <| xa2 ff <| aa (rfl : (0 : Nat) = (0 : Nat)) <| xa2 ff <| aa tt <| trivial) (gs := xg3 gT <| xg5 gF <| xc (G.at 1) <| xg2 gF <| xc (G.len 0) <| xg2 gF <| [gT]) rfl
theorem EU (l : Lk) (x : ByteArray) (r : List ByteArray) (hr : r.length ≤ 1000000) (k : Nat) : ak PP GL XX HH NN (k + 2) 62 [A.agg [bo l.up, u l.ses, C.slice 1 (uJ (x :: r)), C.slice 1 (uJ l.to1)], A.c (ii 0)] [] = some ([Res.c (st x), Res.agg [bo l.up, u l.ses, C.slice 1 (uJ r), C.slice 1 (uJ l.to1)], Res.c (bo true)], []) := by
  exact rt (xa8 ff <| aa (rfl : (0 : Int) = 0) <| xa2 ff <| aa (au (eS) (x :: r)) <| xa3 ff <| aa (rfl : (0 : Int) = 0) <| aa (rfl : (0 : Int) = (0 : Int)) <| aa (aI (f := eS) (l := x :: r) (i := 0) (x := x) rfl) <| aa (rfl : (0 : Int) = 0) <| aa (au (eS) (x :: r)).symm <| aa (rfl : (1 : Int) = (1 : Int)) <| aa (show (1 : Nat) ≤ List.length (x :: r) from by simp only [vr]; omega) <| aa (Nat.le_of_eq (au (eS) (x :: r)).symm) <| aa (lP (eS) (x :: r) 1) <| aa (bP (List.map eS r)) <| aa (aV (eS) (l := r) (n := 1073741824) (by omega)) <| aa (rfl : (0 : Int) = 0) <| trivial) (gs := xg8 gF <| xc (G.at 0) <| xg2 gF <| xc (G.len (List.length (x :: r))) <| xg3 gF <| [G.at 0, G.idx 0 [st x], G.at 0, G.cut 1 (List.length (x :: r)) (List.map eS r), G.app (List.map eS r), G.at 0]) rfl
theorem DQ (l : Lk) (x : ByteArray) (r : List ByteArray) (hr : r.length ≤ 1000000) (k : Nat) : ak PP GL XX HH NN (k + 2) 62 [A.agg [bo l.up, u l.ses, C.slice 1 (uJ l.to0), C.slice 1 (uJ (x :: r))], A.c (ii 1)] [] = some ([Res.c (st x), Res.agg [bo l.up, u l.ses, C.slice 1 (uJ l.to0), C.slice 1 (uJ r)], Res.c (bo true)], []) := by
  exact rt (xa3 tt <| xa5 ff <| aa (rfl : (1 : Int) = 1) <| xa2 ff <| aa (au (eS) (x :: r)) <| xa3 ff <| aa (rfl : (1 : Int) = 1) <| aa (rfl : (0 : Int) = (0 : Int)) <| aa (aI (f := eS) (l := x :: r) (i := 0) (x := x) rfl) <| aa (rfl : (1 : Int) = 1) <| aa (au (eS) (x :: r)).symm <| aa (rfl : (1 : Int) = (1 : Int)) <| aa (show (1 : Nat) ≤ List.length (x :: r) from by simp only [vr]; omega) <| aa (Nat.le_of_eq (au (eS) (x :: r)).symm) <| aa (lP (eS) (x :: r) 1) <| aa (bP (List.map eS r)) <| aa (aV (eS) (l := r) (n := 1073741824) (by omega)) <| aa (rfl : (1 : Int) = 1) <| trivial) (gs := xg3 gT <| xg5 gF <| xc (G.at 1) <| xg2 gF <| xc (G.len (List.length (x :: r))) <| xg3 gF <| [G.at 1, G.idx 0 [st x], G.at 1, G.cut 1 (List.length (x :: r)) (List.map eS r), G.app (List.map eS r), G.at 1]) rfl
theorem Fz (l : Lk) (to : Int) (t0 : (to == 0) = false) (t1 : (to == 1) = false) (k : Nat) : ak PP GL XX HH NN (k + 2) 62 [A.agg (Lk.cs l), A.c (ii to)] [] = some ([Res.c (st ByteArray.empty), Res.agg (Lk.cs l), Res.c (bo false)], []) := by
  exact rt (xa3 (cn t0) <| xa9 (cn t1) <| aa tt <| trivial) (gs := bv gT <| [gT]) rfl
theorem ql (to : Int) : to = 0 ∨ to = 1 ∨ ((to == 0) = false ∧ (to == 1) = false) := by
  by_cases h0 : to = 0
  · exact .inl h0
  · by_cases h1 : to = 1
    · exact .inr (.inl h1)
    · exact .inr (.inr ⟨beq_false_of_ne h0, beq_false_of_ne h1⟩)
theorem xe (l : Lk) (to : Int) (h0 : l.to0.length ≤ 1000000) (h1 : l.to1.length ≤ 1000000) (k : Nat) : ak PP GL XX HH NN (k + 2) 62 [.agg l.cs, .c (ii to)] [] = some ([.c (st (df l to).1), .agg (df l to).2.1.cs, .c (bo (df l to).2.2)], []) := by
  obtain ⟨up, ses, to0, to1⟩ := l
  rcases ql to with rfl | rfl | ⟨t0, t1⟩
  · cases to0 with
    | nil => exact Ew ⟨up, ses, [], to1⟩ rfl k
    | cons x r => exact EU ⟨up, ses, [], to1⟩ x r (by simp at h0; omega) k
  · cases to1 with
    | nil => exact DW ⟨up, ses, to0, []⟩ rfl k
    | cons x r => exact DQ ⟨up, ses, to0, []⟩ x r (by simp at h1; omega) k
  · have := Fz ⟨up, ses, to0, to1⟩ to t0 t1 k
    simp only [df, t0, t1, cond]
    exact this
theorem bJ (k : Nat) : ak PP GL XX HH NN (k + 1) 43 [] [] = some ([Res.agg (Vd.cs ar)], []) := by
  exact rt (trivial) (gs := []) (by simp only [ar, vq] <;> rfl)
theorem bT (kd : Int) (src : Int) (t : He) (k : Nat) : ak PP GL XX HH NN (k + 2) 44 [A.c (ii kd), A.c (ii src), A.agg (He.cs t)] [] = some ([Res.agg (Vd.cs (aB kd src t))], []) := by
  rcases bft t.pri with z0 | z0
  · exact rt (xa3 z0 <| aa tt <| aa (bJ k) <| trivial) (gs := xg4 gT <| [G.call [Res.agg (Vd.cs ar)] []]) (by simp only [aB, ar, z0, vq] <;> rfl)
  · rcases bft (kd == 4) with z1 | z1
    · exact rt (xa3 z0 <| aa z1 <| aa (bJ k) <| trivial) (gs := xg3 gF <| [gT, G.call [Res.agg (Vd.cs ar)] []]) (by simp only [aB, ar, z0, z1, vq] <;> rfl)
    · exact rt (xa3 z0 <| aa z1 <| trivial) (gs := xg4 gF <| []) (by simp only [aB, ar, z0, z1, vq] <;> rfl)
theorem kS (s : He) (t : He) (k : Nat) : ak PP GL XX HH NN (k + 2) 45 [A.agg (He.cs s), A.agg (He.cs t)] [] = some ([Res.c (ii (cD s t))], []) := by
  rcases bft s.dis with z0 | z0
  · exact rt (aa z0 <| trivial) (gs := [gT]) (by simp only [cD, z0, vq] <;> rfl)
  · rcases bft (decide (az s.v t.v.bit ≥ 0)) with z1 | z1
    · exact rt (aa z0 <| aa (br s.v t.v.bit k) <| aa z1 <| trivial) (gs := [gF, G.call [Res.c (ii (az s.v t.v.bit))] [], gT]) (by simp only [cD, z0, z1, vq] <;> rfl)
    · rcases bft t.dis with z2 | z2
      · exact rt (aa z0 <| aa (br s.v t.v.bit k) <| aa z1 <| aa z2 <| trivial) (gs := [gF, G.call [Res.c (ii (az s.v t.v.bit))] [], gF, gT]) (by simp only [cD, z0, z1, z2, vq] <;> rfl)
      · rcases bft (decide (az s.v t.v.cur < 0)) with z3 | z3
        · exact rt (aa z0 <| aa (br s.v t.v.bit k) <| aa z1 <| aa z2 <| aa (br s.v t.v.cur k) <| aa z3 <| trivial) (gs := xc gF <| xc (G.call [Res.c (ii (az s.v t.v.bit))] []) <| xg2 gF <| [G.call [Res.c (ii (az s.v t.v.cur))] [], gT]) (by simp only [cD, z0, z1, z2, z3, vq] <;> rfl)
        · rcases bft (decide (az s.v t.v.cur ≤ 1)) with z4 | z4
          · exact rt (aa z0 <| aa (br s.v t.v.bit k) <| aa z1 <| aa z2 <| aa (br s.v t.v.cur k) <| aa z3 <| aa z4 <| trivial) (gs := xc gF <| xc (G.call [Res.c (ii (az s.v t.v.bit))] []) <| xg2 gF <| [G.call [Res.c (ii (az s.v t.v.cur))] [], gF, gT]) (by simp only [cD, z0, z1, z2, z3, z4, vq] <;> rfl)
          · exact rt (aa z0 <| aa (br s.v t.v.bit k) <| aa z1 <| aa z2 <| aa (br s.v t.v.cur k) <| aa z3 <| aa z4 <| trivial) (gs := xc gF <| xc (G.call [Res.c (ii (az s.v t.v.bit))] []) <| xg2 gF <| xc (G.call [Res.c (ii (az s.v t.v.cur))] []) <| xg2 gF <| []) (by simp only [cD, z0, z1, z2, z3, z4, vq] <;> rfl)
end Go.Dm
