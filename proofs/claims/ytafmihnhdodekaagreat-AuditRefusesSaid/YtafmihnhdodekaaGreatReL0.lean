/-
  A part of the proofs over this seat: its functions, one by one (the file in which the theorems stand says what is proved).
-/
import Derived.KernelRfl
import Derived.Test.YtafmihnhdodekaaGreatProg
import Derived.Test.YtafmihnhdodekaaGreatReM1
set_option linter.unusedSimpArgs false
set_option linter.unusedVariables false
set_option maxRecDepth 100000
set_option maxHeartbeats 4000000
namespace Go.Dm
open Go
noncomputable abbrev PP := Proofs.Tryz.prog
def GL : Nat → Option (List C) := fun _ => none
def XX : Tab := fun f => match f with | 53 => some uf | 50 => some (pb 3) | _ => none
def HH : FuncId → Nat → LoopHint
  | 4, 7 => { forget := [0, 2, 3, 4, 7, 8, 9, 10, 11, 12, 13, 14, 15, 16, 17, 18, 19, 20, 21, 22, 23, 24, 25, 26, 27, 28, 29, 30, 31, 32, 33, 34, 35, 36, 37, 38, 39] }
  | 6, 8 => { forget := [0, 1, 2, 3, 4, 8, 9, 10, 11, 12, 13, 14, 15, 16, 17, 18, 19, 20, 21, 22, 23, 24, 25, 26, 27, 28, 29, 30, 31, 32, 33, 34, 35, 36, 37, 38, 39, 40, 41, 42, 43, 44, 45, 46, 47, 48, 49, 50, 51, 52, 53, 54, 55, 56, 57, 58, 59, 60, 61, 62, 63, 64, 65, 66, 67, 68, 69, 70, 71, 72, 73, 74, 75, 76, 77, 78, 79, 80, 81, 82, 83, 84, 85, 86, 87, 88, 89] }
  | 6, 13 => { forget := [0, 1, 2, 3, 4, 6, 7, 9, 10, 11, 12, 13, 14, 15, 16, 17, 18, 19, 20, 21, 22, 23, 24, 25, 26, 27, 28, 29, 30, 31, 32, 33, 34, 35, 36, 37, 38, 39, 40, 41, 42, 43, 44, 45, 46, 47, 48, 49, 50, 51, 52, 53, 54, 55, 56, 57, 58, 59, 60, 61, 62, 63, 64, 65, 66, 67, 68, 69, 70, 71, 72, 73, 74, 75, 76, 77, 78, 79, 80, 81, 82, 83, 84, 85, 86, 87, 88, 89] }
  | 12, 4 => { forget := [2, 3, 4, 6, 7, 8, 9, 10, 11, 12, 13, 14, 15, 16, 17, 18, 19, 20, 21, 22, 23, 24, 25] }
  | 18, 3 => { forget := [0, 2, 3, 4, 5, 6, 9, 10, 11, 12, 13, 14, 15, 16, 17, 18, 19, 20, 21, 22, 23, 24, 25] }
  | 20, 2 => { forget := [0, 1, 4, 6, 7, 8, 9, 10, 11, 12, 13, 14, 15, 16, 17, 18, 19, 20, 21, 22, 23, 24] }
  | 28, 4 => { forget := [1, 2, 3, 4, 6, 7, 8, 9, 10, 11, 12, 13, 14, 15, 16, 17, 18, 19, 20, 21, 22, 23, 24, 25, 26, 27, 28, 29, 30, 31] }
  | 30, 3 => { tags := [(6, 5)], forget := [0, 3, 5, 8, 9, 10, 11, 12, 13, 14, 15, 16, 17, 18, 19, 20, 21, 22, 23, 24, 25, 26, 27, 28, 29, 30] }
  | 31, 3 => { forget := [1, 2, 4, 5, 6, 7, 8, 12, 13, 14, 15, 16, 17, 18, 19, 20, 21, 22, 23, 24, 25, 26, 27, 28, 29, 30, 31, 32, 33, 34, 35] }
  | 31, 11 => { tags := [(6, 3)], forget := [0, 1, 2, 3, 4, 5, 7, 8, 9, 10, 11, 12, 13, 14, 15, 16, 17, 18, 19, 20, 21, 22, 23, 24, 28, 29, 30, 31, 32, 33, 34, 35] }
  | 36, 2 => { forget := [2, 3, 4, 5, 6, 9, 10, 11, 12, 13, 14, 15, 16, 17, 18] }
  | 37, 2 => { tags := [(4, 1)], forget := [0, 2, 3, 6, 7, 8, 9, 10, 11, 12, 13, 14, 15, 16, 17, 18, 19, 20, 21, 22, 23] }
  | 38, 2 => { tags := [(5, 1)], forget := [2, 3, 4, 6, 7, 8, 9, 10, 11, 12, 13, 14, 15, 16, 17, 18, 19, 20, 21] }
  | 39, 2 => { forget := [2, 3, 4, 5, 6, 9, 10, 11, 12, 13, 14, 15, 16, 17, 18] }
  | 41, 2 => { forget := [1, 2, 4, 5, 6, 7, 8, 9, 10, 11, 12, 13, 14, 15, 16, 17, 18, 19, 20, 21, 22, 23, 24, 25, 26, 27, 28, 29, 30, 31, 32, 33, 34, 35, 36, 37, 38, 39, 40, 41, 42, 43, 44, 45, 46, 47, 48, 49, 50, 51, 52, 53, 54, 55] }
  | 41, 8 => { forget := [1, 2, 5, 6, 7, 8, 9, 10, 11, 12, 13, 14, 15, 16, 17, 18, 19, 20, 21, 22, 23, 24, 25, 26, 27, 28, 29, 30, 31, 32, 33, 34, 35, 36, 37, 38, 39, 40, 41, 42, 43, 44, 45, 46, 47, 48, 49, 50, 51, 52, 53, 54, 55] }
  | 46, 3 => { forget := [0, 2, 3, 4, 7, 8, 9, 10, 11, 12, 13, 14, 15, 16, 17, 18, 19, 20, 21, 22, 23, 24, 25, 26, 27, 28, 29, 30, 31] }
  | 49, 3 => { forget := [2, 3, 5, 8, 9, 10, 11, 12, 13, 14, 15, 16, 17, 18, 19, 20, 21, 22, 23, 24, 25, 26, 27, 28, 29, 30, 31, 32, 33, 34, 35] }
  | 52, 2 => { forget := [2, 3, 4, 6, 7, 8, 9, 10, 11, 12, 13, 14, 15, 16, 17] }
  | 54, 2 => { forget := [2, 3, 4, 6, 7, 8, 9, 10, 11, 12, 13, 14, 15, 16, 17, 18, 19, 20, 21, 22, 23] }
  | 61, 3 => { tags := [(1, 5)], forget := [0, 3, 5, 7, 8, 9, 10, 11, 12, 13, 14, 15, 16, 17, 18, 19, 20, 21, 22, 23, 24, 25, 26, 27, 28, 29, 30, 31, 32, 33, 34, 35, 36, 37, 38, 39, 40, 41, 42, 43, 44, 45] }
  | 69, 5 => { tags := [(10, 5)], forget := [0, 2, 5, 7, 9, 13, 14, 15, 16, 17, 18, 19, 20, 21, 22, 23, 24, 25, 26, 27, 28, 29, 30, 31, 32, 33, 34, 35, 36, 37, 38, 39, 40, 41, 42, 43, 44, 45, 46, 47, 48, 49, 50, 51, 52, 53, 54, 55, 56, 57, 58, 59, 60, 61, 62, 63, 64, 65, 66, 67, 68, 69, 70, 71, 72, 73, 74, 75, 76, 77, 78, 79, 80, 81, 82, 83, 84, 85, 86, 87, 88, 89, 90] }
  | 71, 6 => { vtags := [(1, 0, 1)], forget := [1, 2, 3, 5, 6, 7, 10, 11, 12, 13, 14, 15, 16, 17, 18, 19, 20, 21, 22, 23, 24, 25, 26, 27, 28, 29, 30, 31, 32, 33, 34, 35, 36, 37, 38] }
  | 96, 3 => { forget := [0, 3, 7, 8, 9, 10, 11, 12, 13, 14, 15, 16, 17, 18, 19, 20, 21, 22, 23, 24, 25, 26, 27, 28, 29, 30, 31, 32, 33, 34, 35, 36, 37, 38, 39, 40, 41, 42, 43] }
  | 104, 1 => { forget := [2, 4, 5, 6, 7, 8, 9, 10, 11, 12, 13, 14, 15, 16, 17, 18] }
  | 120, 3 => { tags := [(4, 1)], forget := [0, 2, 3, 6, 7, 8, 9, 10, 11, 12, 13, 14, 15, 16, 17, 18, 19, 20, 21, 22, 23, 24, 25, 26, 27, 28, 29] }
  | 129, 3 => { forget := [1, 2, 5, 6, 7, 8, 9, 10, 11, 12, 13, 14, 15, 16, 17, 18, 19, 20] }
  | 130, 3 => { forget := [2, 3, 4, 7, 8, 9, 10, 11, 12, 13, 14, 15, 16, 17, 18, 19, 20, 21] }
  | 135, 2 => { forget := [2, 3, 4, 6, 7, 8, 9, 10, 11, 12, 13, 14, 15, 16, 17, 18, 19, 20, 21, 22, 23, 24, 25, 26, 27, 28, 29, 30, 31, 32, 33, 34, 35, 36, 37, 38, 39, 40] }
  | 138, 3 => { forget := [1, 2, 5, 6, 7, 8, 9, 10, 11, 12, 13, 14, 15, 16, 17, 18] }
  | 139, 2 => { forget := [2, 3, 4, 5, 7, 8, 9, 10, 11, 12, 13, 14, 15, 16, 17, 18, 19] }
  | 144, 4 => { forget := [1, 2, 3, 4, 6, 7, 8, 9, 10, 11, 12, 13, 14, 15, 16, 17, 18, 19] }
  | 145, 5 => { forget := [2, 3, 4, 5, 8, 9, 10, 11, 12, 13, 14, 15, 16, 17, 18, 19, 20, 21, 22, 23, 24] }
  | 146, 5 => { tags := [(6, 1)], forget := [2, 3, 4, 5, 8, 9, 10, 11, 12, 13, 14, 15, 16, 17, 18, 19, 20, 21, 22, 23, 24, 25, 26, 27, 28, 29] }
  | 152, 3 => { forget := [1, 2, 6, 7, 8, 9, 10, 11, 12, 13, 14, 15, 16, 17, 18, 19, 20, 21, 22, 23, 24, 25] }
  | 154, 8 => { tags := [(4, 1)], forget := [0, 3, 6, 7, 8, 9, 10, 11, 12, 13, 14, 15, 16, 17, 18, 19, 20, 21, 22, 23, 24, 25, 26, 27, 28, 29, 30] }
  | 155, 3 => { forget := [0, 3, 4, 7, 8, 9, 10, 11, 12, 13, 14, 15, 16, 17, 18, 19, 20, 21, 22, 23, 24, 25, 26, 27, 28, 29, 30, 31, 32, 33] }
  | 158, 3 => { forget := [1, 2, 5, 6, 7, 8, 9, 10, 11, 12] }
  | 159, 5 => { forget := [1, 2, 5, 6, 7, 8, 9, 10, 11, 12, 13, 14, 15, 16, 17, 18, 19, 20] }
  | 160, 3 => { tags := [(3, 1)], forget := [1, 2, 5, 6, 7, 8, 9, 10, 11, 12, 13, 14, 15, 16] }
  | 161, 2 => { forget := [2, 3, 4, 6, 7, 8, 9, 10, 11, 12, 13, 14, 15, 16, 17, 18, 19, 20, 21, 22, 23, 24, 25] }
  | 1000001, 29 => { forget := [41] }
  | 1000001, 75 => { forget := [10] }
  | 1000001, 76 => { forget := [41] }
  | 61, 1000000 => { forget := [0] }
  | _, _ => {}
def NN : Nat := 18446744073709551616
noncomputable abbrev EE (k : Nat) : Env := ⟨PP, aj PP GL XX HH NN k, GL, Aw HH, As HH⟩
end Go.Dm
namespace Go.Dm
open Go
theorem Fi (n : Int) (k : Nat) : aj PP GL XX HH NN (k + 1) 130 [A.c (u n), A.c (ii 8)] [] = some ([Res.c (st (ea n))], []) := by
  exact rt (eg (G.un) <| et <| ep (show (256 : Int) ≠ (0 : Int) from by decide) <| eg (G.ok) <| ep (rfl : some ([IntKind.wrap .u8 (Int.tmod n (256 : Int))]) = some ([IntKind.wrap .u8 (Int.tmod n (256 : Int))])) <| eg (G.str [IntKind.wrap .u8 (Int.tmod n 256)]) <| ep (show ByteArray.size (cw [IntKind.wrap .u8 (Int.tmod n (256 : Int))]) + ByteArray.size ⟨#[]⟩ ≤ 9223372036854775807 from by first | omega | (simp only [ByteArray.size_append, aq, aJ, aQ, List.size_toArray, ap, az, ar, al, ak, List.length_cons, List.length_nil] at *; omega)) <| eg (G.ok) <| ep (show (256 : Int) ≠ (0 : Int) from by decide) <| eg (G.ok) <| et <| ep (show (256 : Int) ≠ (0 : Int) from by decide) <| eg (G.ok) <| ep (rfl : some ([IntKind.wrap .u8 (Int.tmod (IntKind.wrap .u64 (Int.tdiv n (256 : Int))) (256 : Int))]) = some ([IntKind.wrap .u8 (Int.tmod (IntKind.wrap .u64 (Int.tdiv n (256 : Int))) (256 : Int))])) <| eg (G.str [IntKind.wrap .u8 (Int.tmod (IntKind.wrap .u64 (Int.tdiv n 256)) 256)]) <| ep (show ByteArray.size (cw [IntKind.wrap .u8 (Int.tmod (IntKind.wrap .u64 (Int.tdiv n (256 : Int))) (256 : Int))]) + ByteArray.size (cw [IntKind.wrap .u8 (Int.tmod n (256 : Int))] ++ ByteArray.mk #[]) ≤ 9223372036854775807 from by first | omega | (simp only [ByteArray.size_append, aq, aJ, aQ, List.size_toArray, ap, az, ar, al, ak, List.length_cons, List.length_nil] at *; omega)) <| eg (G.ok) <| ep (show (256 : Int) ≠ (0 : Int) from by decide) <| eg (G.ok) <| et <| ep (show (256 : Int) ≠ (0 : Int) from by decide) <| eg (G.ok) <| ep (rfl : some ([IntKind.wrap .u8 (Int.tmod (IntKind.wrap .u64 (Int.tdiv (IntKind.wrap .u64 (Int.tdiv n (256 : Int))) (256 : Int))) (256 : Int))]) = some ([IntKind.wrap .u8 (Int.tmod (IntKind.wrap .u64 (Int.tdiv (IntKind.wrap .u64 (Int.tdiv n (256 : Int))) (256 : Int))) (256 : Int))])) <| eg (G.str [IntKind.wrap .u8 (Int.tmod (IntKind.wrap .u64 (Int.tdiv (IntKind.wrap .u64 (Int.tdiv n 256)) 256)) 256)]) <| ep (show ByteArray.size (cw [IntKind.wrap .u8 (Int.tmod (IntKind.wrap .u64 (Int.tdiv (IntKind.wrap .u64 (Int.tdiv n (256 : Int))) (256 : Int))) (256 : Int))]) + ByteArray.size (cw [IntKind.wrap .u8 (Int.tmod (IntKind.wrap .u64 (Int.tdiv n (256 : Int))) (256 : Int))] ++ (cw [IntKind.wrap .u8 (Int.tmod n (256 : Int))] ++ ByteArray.mk #[])) ≤ 9223372036854775807 from by first | omega | (simp only [ByteArray.size_append, aq, aJ, aQ, List.size_toArray, ap, az, ar, al, ak, List.length_cons, List.length_nil] at *; omega)) <| eg (G.ok) <| ep (show (256 : Int) ≠ (0 : Int) from by decide) <| eg (G.ok) <| et <| ep (show (256 : Int) ≠ (0 : Int) from by decide) <| eg (G.ok) <| ep (rfl : some ([IntKind.wrap .u8 (Int.tmod (IntKind.wrap .u64 (Int.tdiv (IntKind.wrap .u64 (Int.tdiv (IntKind.wrap .u64 (Int.tdiv n (256 : Int))) (256 : Int))) (256 : Int))) (256 : Int))]) = some ([IntKind.wrap .u8 (Int.tmod (IntKind.wrap .u64 (Int.tdiv (IntKind.wrap .u64 (Int.tdiv (IntKind.wrap .u64 (Int.tdiv n (256 : Int))) (256 : Int))) (256 : Int))) (256 : Int))])) <| eg (G.str [IntKind.wrap .u8 (Int.tmod (IntKind.wrap .u64 (Int.tdiv (IntKind.wrap .u64 (Int.tdiv (IntKind.wrap .u64 (Int.tdiv n 256)) 256)) 256)) 256)]) <| ep (show ByteArray.size (cw [IntKind.wrap .u8 (Int.tmod (IntKind.wrap .u64 (Int.tdiv (IntKind.wrap .u64 (Int.tdiv (IntKind.wrap .u64 (Int.tdiv n (256 : Int))) (256 : Int))) (256 : Int))) (256 : Int))]) + ByteArray.size (cw [IntKind.wrap .u8 (Int.tmod (IntKind.wrap .u64 (Int.tdiv (IntKind.wrap .u64 (Int.tdiv n (256 : Int))) (256 : Int))) (256 : Int))] ++ (cw [IntKind.wrap .u8 (Int.tmod (IntKind.wrap .u64 (Int.tdiv n (256 : Int))) (256 : Int))] ++ (cw [IntKind.wrap .u8 (Int.tmod n (256 : Int))] ++ ByteArray.mk #[]))) ≤ 9223372036854775807 from by first | omega | (simp only [ByteArray.size_append, aq, aJ, aQ, List.size_toArray, ap, az, ar, al, ak, List.length_cons, List.length_nil] at *; omega)) <| eg (G.ok) <| ep (show (256 : Int) ≠ (0 : Int) from by decide) <| eg (G.ok) <| et <| ep (show (256 : Int) ≠ (0 : Int) from by decide) <| eg (G.ok) <| ep (rfl : some ([IntKind.wrap .u8 (Int.tmod (IntKind.wrap .u64 (Int.tdiv (IntKind.wrap .u64 (Int.tdiv (IntKind.wrap .u64 (Int.tdiv (IntKind.wrap .u64 (Int.tdiv n (256 : Int))) (256 : Int))) (256 : Int))) (256 : Int))) (256 : Int))]) = some ([IntKind.wrap .u8 (Int.tmod (IntKind.wrap .u64 (Int.tdiv (IntKind.wrap .u64 (Int.tdiv (IntKind.wrap .u64 (Int.tdiv (IntKind.wrap .u64 (Int.tdiv n (256 : Int))) (256 : Int))) (256 : Int))) (256 : Int))) (256 : Int))])) <| eg (G.str [IntKind.wrap .u8 (Int.tmod (IntKind.wrap .u64 (Int.tdiv (IntKind.wrap .u64 (Int.tdiv (IntKind.wrap .u64 (Int.tdiv (IntKind.wrap .u64 (Int.tdiv n 256)) 256)) 256)) 256)) 256)]) <| ep (show ByteArray.size (cw [IntKind.wrap .u8 (Int.tmod (IntKind.wrap .u64 (Int.tdiv (IntKind.wrap .u64 (Int.tdiv (IntKind.wrap .u64 (Int.tdiv (IntKind.wrap .u64 (Int.tdiv n (256 : Int))) (256 : Int))) (256 : Int))) (256 : Int))) (256 : Int))]) + ByteArray.size (cw [IntKind.wrap .u8 (Int.tmod (IntKind.wrap .u64 (Int.tdiv (IntKind.wrap .u64 (Int.tdiv (IntKind.wrap .u64 (Int.tdiv n (256 : Int))) (256 : Int))) (256 : Int))) (256 : Int))] ++ (cw [IntKind.wrap .u8 (Int.tmod (IntKind.wrap .u64 (Int.tdiv (IntKind.wrap .u64 (Int.tdiv n (256 : Int))) (256 : Int))) (256 : Int))] ++ (cw [IntKind.wrap .u8 (Int.tmod (IntKind.wrap .u64 (Int.tdiv n (256 : Int))) (256 : Int))] ++ (cw [IntKind.wrap .u8 (Int.tmod n (256 : Int))] ++ ByteArray.mk #[])))) ≤ 9223372036854775807 from by first | omega | (simp only [ByteArray.size_append, aq, aJ, aQ, List.size_toArray, ap, az, ar, al, ak, List.length_cons, List.length_nil] at *; omega)) <| eg (G.ok) <| ep (show (256 : Int) ≠ (0 : Int) from by decide) <| eg (G.ok) <| et <| ep (show (256 : Int) ≠ (0 : Int) from by decide) <| eg (G.ok) <| ep (rfl : some ([IntKind.wrap .u8 (Int.tmod (IntKind.wrap .u64 (Int.tdiv (IntKind.wrap .u64 (Int.tdiv (IntKind.wrap .u64 (Int.tdiv (IntKind.wrap .u64 (Int.tdiv (IntKind.wrap .u64 (Int.tdiv n (256 : Int))) (256 : Int))) (256 : Int))) (256 : Int))) (256 : Int))) (256 : Int))]) = some ([IntKind.wrap .u8 (Int.tmod (IntKind.wrap .u64 (Int.tdiv (IntKind.wrap .u64 (Int.tdiv (IntKind.wrap .u64 (Int.tdiv (IntKind.wrap .u64 (Int.tdiv (IntKind.wrap .u64 (Int.tdiv n (256 : Int))) (256 : Int))) (256 : Int))) (256 : Int))) (256 : Int))) (256 : Int))])) <| eg (G.str [IntKind.wrap .u8 (Int.tmod (IntKind.wrap .u64 (Int.tdiv (IntKind.wrap .u64 (Int.tdiv (IntKind.wrap .u64 (Int.tdiv (IntKind.wrap .u64 (Int.tdiv (IntKind.wrap .u64 (Int.tdiv n 256)) 256)) 256)) 256)) 256)) 256)]) <| ep (show ByteArray.size (cw [IntKind.wrap .u8 (Int.tmod (IntKind.wrap .u64 (Int.tdiv (IntKind.wrap .u64 (Int.tdiv (IntKind.wrap .u64 (Int.tdiv (IntKind.wrap .u64 (Int.tdiv (IntKind.wrap .u64 (Int.tdiv n (256 : Int))) (256 : Int))) (256 : Int))) (256 : Int))) (256 : Int))) (256 : Int))]) + ByteArray.size (cw [IntKind.wrap .u8 (Int.tmod (IntKind.wrap .u64 (Int.tdiv (IntKind.wrap .u64 (Int.tdiv (IntKind.wrap .u64 (Int.tdiv (IntKind.wrap .u64 (Int.tdiv n (256 : Int))) (256 : Int))) (256 : Int))) (256 : Int))) (256 : Int))] ++ (cw [IntKind.wrap .u8 (Int.tmod (IntKind.wrap .u64 (Int.tdiv (IntKind.wrap .u64 (Int.tdiv (IntKind.wrap .u64 (Int.tdiv n (256 : Int))) (256 : Int))) (256 : Int))) (256 : Int))] ++ (cw [IntKind.wrap .u8 (Int.tmod (IntKind.wrap .u64 (Int.tdiv (IntKind.wrap .u64 (Int.tdiv n (256 : Int))) (256 : Int))) (256 : Int))] ++ (cw [IntKind.wrap .u8 (Int.tmod (IntKind.wrap .u64 (Int.tdiv n (256 : Int))) (256 : Int))] ++ (cw [IntKind.wrap .u8 (Int.tmod n (256 : Int))] ++ ByteArray.mk #[]))))) ≤ 9223372036854775807 from by first | omega | (simp only [ByteArray.size_append, aq, aJ, aQ, List.size_toArray, ap, az, ar, al, ak, List.length_cons, List.length_nil] at *; omega)) <| eg (G.ok) <| ep (show (256 : Int) ≠ (0 : Int) from by decide) <| eg (G.ok) <| et <| ep (show (256 : Int) ≠ (0 : Int) from by decide) <| eg (G.ok) <| ep (rfl : some ([IntKind.wrap .u8 (Int.tmod (IntKind.wrap .u64 (Int.tdiv (IntKind.wrap .u64 (Int.tdiv (IntKind.wrap .u64 (Int.tdiv (IntKind.wrap .u64 (Int.tdiv (IntKind.wrap .u64 (Int.tdiv (IntKind.wrap .u64 (Int.tdiv n (256 : Int))) (256 : Int))) (256 : Int))) (256 : Int))) (256 : Int))) (256 : Int))) (256 : Int))]) = some ([IntKind.wrap .u8 (Int.tmod (IntKind.wrap .u64 (Int.tdiv (IntKind.wrap .u64 (Int.tdiv (IntKind.wrap .u64 (Int.tdiv (IntKind.wrap .u64 (Int.tdiv (IntKind.wrap .u64 (Int.tdiv (IntKind.wrap .u64 (Int.tdiv n (256 : Int))) (256 : Int))) (256 : Int))) (256 : Int))) (256 : Int))) (256 : Int))) (256 : Int))])) <| eg (G.str [IntKind.wrap .u8 (Int.tmod (IntKind.wrap .u64 (Int.tdiv (IntKind.wrap .u64 (Int.tdiv (IntKind.wrap .u64 (Int.tdiv (IntKind.wrap .u64 (Int.tdiv (IntKind.wrap .u64 (Int.tdiv (IntKind.wrap .u64 (Int.tdiv n 256)) 256)) 256)) 256)) 256)) 256)) 256)]) <| ep (show ByteArray.size (cw [IntKind.wrap .u8 (Int.tmod (IntKind.wrap .u64 (Int.tdiv (IntKind.wrap .u64 (Int.tdiv (IntKind.wrap .u64 (Int.tdiv (IntKind.wrap .u64 (Int.tdiv (IntKind.wrap .u64 (Int.tdiv (IntKind.wrap .u64 (Int.tdiv n (256 : Int))) (256 : Int))) (256 : Int))) (256 : Int))) (256 : Int))) (256 : Int))) (256 : Int))]) + ByteArray.size (cw [IntKind.wrap .u8 (Int.tmod (IntKind.wrap .u64 (Int.tdiv (IntKind.wrap .u64 (Int.tdiv (IntKind.wrap .u64 (Int.tdiv (IntKind.wrap .u64 (Int.tdiv (IntKind.wrap .u64 (Int.tdiv n (256 : Int))) (256 : Int))) (256 : Int))) (256 : Int))) (256 : Int))) (256 : Int))] ++ (cw [IntKind.wrap .u8 (Int.tmod (IntKind.wrap .u64 (Int.tdiv (IntKind.wrap .u64 (Int.tdiv (IntKind.wrap .u64 (Int.tdiv (IntKind.wrap .u64 (Int.tdiv n (256 : Int))) (256 : Int))) (256 : Int))) (256 : Int))) (256 : Int))] ++ (cw [IntKind.wrap .u8 (Int.tmod (IntKind.wrap .u64 (Int.tdiv (IntKind.wrap .u64 (Int.tdiv (IntKind.wrap .u64 (Int.tdiv n (256 : Int))) (256 : Int))) (256 : Int))) (256 : Int))] ++ (cw [IntKind.wrap .u8 (Int.tmod (IntKind.wrap .u64 (Int.tdiv (IntKind.wrap .u64 (Int.tdiv n (256 : Int))) (256 : Int))) (256 : Int))] ++ (cw [IntKind.wrap .u8 (Int.tmod (IntKind.wrap .u64 (Int.tdiv n (256 : Int))) (256 : Int))] ++ (cw [IntKind.wrap .u8 (Int.tmod n (256 : Int))] ++ ByteArray.mk #[])))))) ≤ 9223372036854775807 from by first | omega | (simp only [ByteArray.size_append, aq, aJ, aQ, List.size_toArray, ap, az, ar, al, ak, List.length_cons, List.length_nil] at *; omega)) <| eg (G.ok) <| ep (show (256 : Int) ≠ (0 : Int) from by decide) <| eg (G.ok) <| et <| ep (show (256 : Int) ≠ (0 : Int) from by decide) <| eg (G.ok) <| ep (rfl : some ([IntKind.wrap .u8 (Int.tmod (IntKind.wrap .u64 (Int.tdiv (IntKind.wrap .u64 (Int.tdiv (IntKind.wrap .u64 (Int.tdiv (IntKind.wrap .u64 (Int.tdiv (IntKind.wrap .u64 (Int.tdiv (IntKind.wrap .u64 (Int.tdiv (IntKind.wrap .u64 (Int.tdiv n (256 : Int))) (256 : Int))) (256 : Int))) (256 : Int))) (256 : Int))) (256 : Int))) (256 : Int))) (256 : Int))]) = some ([IntKind.wrap .u8 (Int.tmod (IntKind.wrap .u64 (Int.tdiv (IntKind.wrap .u64 (Int.tdiv (IntKind.wrap .u64 (Int.tdiv (IntKind.wrap .u64 (Int.tdiv (IntKind.wrap .u64 (Int.tdiv (IntKind.wrap .u64 (Int.tdiv (IntKind.wrap .u64 (Int.tdiv n (256 : Int))) (256 : Int))) (256 : Int))) (256 : Int))) (256 : Int))) (256 : Int))) (256 : Int))) (256 : Int))])) <| eg (G.str [IntKind.wrap .u8 (Int.tmod (IntKind.wrap .u64 (Int.tdiv (IntKind.wrap .u64 (Int.tdiv (IntKind.wrap .u64 (Int.tdiv (IntKind.wrap .u64 (Int.tdiv (IntKind.wrap .u64 (Int.tdiv (IntKind.wrap .u64 (Int.tdiv (IntKind.wrap .u64 (Int.tdiv n 256)) 256)) 256)) 256)) 256)) 256)) 256)) 256)]) <| ep (show ByteArray.size (cw [IntKind.wrap .u8 (Int.tmod (IntKind.wrap .u64 (Int.tdiv (IntKind.wrap .u64 (Int.tdiv (IntKind.wrap .u64 (Int.tdiv (IntKind.wrap .u64 (Int.tdiv (IntKind.wrap .u64 (Int.tdiv (IntKind.wrap .u64 (Int.tdiv (IntKind.wrap .u64 (Int.tdiv n (256 : Int))) (256 : Int))) (256 : Int))) (256 : Int))) (256 : Int))) (256 : Int))) (256 : Int))) (256 : Int))]) + ByteArray.size (cw [IntKind.wrap .u8 (Int.tmod (IntKind.wrap .u64 (Int.tdiv (IntKind.wrap .u64 (Int.tdiv (IntKind.wrap .u64 (Int.tdiv (IntKind.wrap .u64 (Int.tdiv (IntKind.wrap .u64 (Int.tdiv (IntKind.wrap .u64 (Int.tdiv n (256 : Int))) (256 : Int))) (256 : Int))) (256 : Int))) (256 : Int))) (256 : Int))) (256 : Int))] ++ (cw [IntKind.wrap .u8 (Int.tmod (IntKind.wrap .u64 (Int.tdiv (IntKind.wrap .u64 (Int.tdiv (IntKind.wrap .u64 (Int.tdiv (IntKind.wrap .u64 (Int.tdiv (IntKind.wrap .u64 (Int.tdiv n (256 : Int))) (256 : Int))) (256 : Int))) (256 : Int))) (256 : Int))) (256 : Int))] ++ (cw [IntKind.wrap .u8 (Int.tmod (IntKind.wrap .u64 (Int.tdiv (IntKind.wrap .u64 (Int.tdiv (IntKind.wrap .u64 (Int.tdiv (IntKind.wrap .u64 (Int.tdiv n (256 : Int))) (256 : Int))) (256 : Int))) (256 : Int))) (256 : Int))] ++ (cw [IntKind.wrap .u8 (Int.tmod (IntKind.wrap .u64 (Int.tdiv (IntKind.wrap .u64 (Int.tdiv (IntKind.wrap .u64 (Int.tdiv n (256 : Int))) (256 : Int))) (256 : Int))) (256 : Int))] ++ (cw [IntKind.wrap .u8 (Int.tmod (IntKind.wrap .u64 (Int.tdiv (IntKind.wrap .u64 (Int.tdiv n (256 : Int))) (256 : Int))) (256 : Int))] ++ (cw [IntKind.wrap .u8 (Int.tmod (IntKind.wrap .u64 (Int.tdiv n (256 : Int))) (256 : Int))] ++ (cw [IntKind.wrap .u8 (Int.tmod n (256 : Int))] ++ ByteArray.mk #[]))))))) ≤ 9223372036854775807 from by first | omega | (simp only [ByteArray.size_append, aq, aJ, aQ, List.size_toArray, ap, az, ar, al, ak, List.length_cons, List.length_nil] at *; omega)) <| eg (G.ok) <| ep (show (256 : Int) ≠ (0 : Int) from by decide) <| eg (G.ok) <| ef <| e0) (by simp only [ea, vy, vq] <;> rfl)
theorem FY (n : Int) (k : Nat) : aj PP GL XX HH NN (k + 1) 130 [A.c (u (IntKind.wrap .u64 n)), A.c (ii 4)] [] = some ([Res.c (st (dH n))], []) := by
  exact rt (eg (G.un) <| et <| ep (show (256 : Int) ≠ (0 : Int) from by decide) <| eg (G.ok) <| ep (rfl : some ([IntKind.wrap .u8 (Int.tmod (IntKind.wrap .u64 n) (256 : Int))]) = some ([IntKind.wrap .u8 (Int.tmod (IntKind.wrap .u64 n) (256 : Int))])) <| eg (G.str [IntKind.wrap .u8 (Int.tmod (IntKind.wrap .u64 n) 256)]) <| ep (show ByteArray.size (cw [IntKind.wrap .u8 (Int.tmod (IntKind.wrap .u64 n) (256 : Int))]) + ByteArray.size ⟨#[]⟩ ≤ 9223372036854775807 from by first | omega | (simp only [ByteArray.size_append, aq, aJ, aQ, List.size_toArray, ap, az, ar, al, ak, List.length_cons, List.length_nil] at *; omega)) <| eg (G.ok) <| ep (show (256 : Int) ≠ (0 : Int) from by decide) <| eg (G.ok) <| et <| ep (show (256 : Int) ≠ (0 : Int) from by decide) <| eg (G.ok) <| ep (rfl : some ([IntKind.wrap .u8 (Int.tmod (IntKind.wrap .u64 (Int.tdiv (IntKind.wrap .u64 n) (256 : Int))) (256 : Int))]) = some ([IntKind.wrap .u8 (Int.tmod (IntKind.wrap .u64 (Int.tdiv (IntKind.wrap .u64 n) (256 : Int))) (256 : Int))])) <| eg (G.str [IntKind.wrap .u8 (Int.tmod (IntKind.wrap .u64 (Int.tdiv (IntKind.wrap .u64 n) 256)) 256)]) <| ep (show ByteArray.size (cw [IntKind.wrap .u8 (Int.tmod (IntKind.wrap .u64 (Int.tdiv (IntKind.wrap .u64 n) (256 : Int))) (256 : Int))]) + ByteArray.size (cw [IntKind.wrap .u8 (Int.tmod (IntKind.wrap .u64 n) (256 : Int))] ++ ByteArray.mk #[]) ≤ 9223372036854775807 from by first | omega | (simp only [ByteArray.size_append, aq, aJ, aQ, List.size_toArray, ap, az, ar, al, ak, List.length_cons, List.length_nil] at *; omega)) <| eg (G.ok) <| ep (show (256 : Int) ≠ (0 : Int) from by decide) <| eg (G.ok) <| et <| ep (show (256 : Int) ≠ (0 : Int) from by decide) <| eg (G.ok) <| ep (rfl : some ([IntKind.wrap .u8 (Int.tmod (IntKind.wrap .u64 (Int.tdiv (IntKind.wrap .u64 (Int.tdiv (IntKind.wrap .u64 n) (256 : Int))) (256 : Int))) (256 : Int))]) = some ([IntKind.wrap .u8 (Int.tmod (IntKind.wrap .u64 (Int.tdiv (IntKind.wrap .u64 (Int.tdiv (IntKind.wrap .u64 n) (256 : Int))) (256 : Int))) (256 : Int))])) <| eg (G.str [IntKind.wrap .u8 (Int.tmod (IntKind.wrap .u64 (Int.tdiv (IntKind.wrap .u64 (Int.tdiv (IntKind.wrap .u64 n) 256)) 256)) 256)]) <| ep (show ByteArray.size (cw [IntKind.wrap .u8 (Int.tmod (IntKind.wrap .u64 (Int.tdiv (IntKind.wrap .u64 (Int.tdiv (IntKind.wrap .u64 n) (256 : Int))) (256 : Int))) (256 : Int))]) + ByteArray.size (cw [IntKind.wrap .u8 (Int.tmod (IntKind.wrap .u64 (Int.tdiv (IntKind.wrap .u64 n) (256 : Int))) (256 : Int))] ++ (cw [IntKind.wrap .u8 (Int.tmod (IntKind.wrap .u64 n) (256 : Int))] ++ ByteArray.mk #[])) ≤ 9223372036854775807 from by first | omega | (simp only [ByteArray.size_append, aq, aJ, aQ, List.size_toArray, ap, az, ar, al, ak, List.length_cons, List.length_nil] at *; omega)) <| eg (G.ok) <| ep (show (256 : Int) ≠ (0 : Int) from by decide) <| eg (G.ok) <| et <| ep (show (256 : Int) ≠ (0 : Int) from by decide) <| eg (G.ok) <| ep (rfl : some ([IntKind.wrap .u8 (Int.tmod (IntKind.wrap .u64 (Int.tdiv (IntKind.wrap .u64 (Int.tdiv (IntKind.wrap .u64 (Int.tdiv (IntKind.wrap .u64 n) (256 : Int))) (256 : Int))) (256 : Int))) (256 : Int))]) = some ([IntKind.wrap .u8 (Int.tmod (IntKind.wrap .u64 (Int.tdiv (IntKind.wrap .u64 (Int.tdiv (IntKind.wrap .u64 (Int.tdiv (IntKind.wrap .u64 n) (256 : Int))) (256 : Int))) (256 : Int))) (256 : Int))])) <| eg (G.str [IntKind.wrap .u8 (Int.tmod (IntKind.wrap .u64 (Int.tdiv (IntKind.wrap .u64 (Int.tdiv (IntKind.wrap .u64 (Int.tdiv (IntKind.wrap .u64 n) 256)) 256)) 256)) 256)]) <| ep (show ByteArray.size (cw [IntKind.wrap .u8 (Int.tmod (IntKind.wrap .u64 (Int.tdiv (IntKind.wrap .u64 (Int.tdiv (IntKind.wrap .u64 (Int.tdiv (IntKind.wrap .u64 n) (256 : Int))) (256 : Int))) (256 : Int))) (256 : Int))]) + ByteArray.size (cw [IntKind.wrap .u8 (Int.tmod (IntKind.wrap .u64 (Int.tdiv (IntKind.wrap .u64 (Int.tdiv (IntKind.wrap .u64 n) (256 : Int))) (256 : Int))) (256 : Int))] ++ (cw [IntKind.wrap .u8 (Int.tmod (IntKind.wrap .u64 (Int.tdiv (IntKind.wrap .u64 n) (256 : Int))) (256 : Int))] ++ (cw [IntKind.wrap .u8 (Int.tmod (IntKind.wrap .u64 n) (256 : Int))] ++ ByteArray.mk #[]))) ≤ 9223372036854775807 from by first | omega | (simp only [ByteArray.size_append, aq, aJ, aQ, List.size_toArray, ap, az, ar, al, ak, List.length_cons, List.length_nil] at *; omega)) <| eg (G.ok) <| ep (show (256 : Int) ≠ (0 : Int) from by decide) <| eg (G.ok) <| ef <| e0) (by simp only [dH, vy, vq] <;> rfl)
theorem lF (n : Int) (k : Nat) : aj PP GL XX HH NN (k + 2) 150 [A.c (u n)] [] = some ([Res.c (st (ea n))], []) := by
  exact rt (ec (Fi n k) <| e0) rfl
theorem r5 (n : Int) (k : Nat) : aj PP GL XX HH NN (k + 2) 102 [A.c (w4 n)] [] = some ([Res.c (st (dH n))], []) := by
  exact rt (ec (FY n k) <| e0) rfl
theorem E2 (s : ByteArray) (hs : ((↑(s.size) : Int) == 8) = true) (x0 : UInt8) (x1 : UInt8) (x2 : UInt8) (x3 : UInt8) (x4 : UInt8) (x5 : UInt8) (x6 : UInt8) (x7 : UInt8) (h0 : s[0]? = some x0) (h1 : s[1]? = some x1) (h2 : s[2]? = some x2) (h3 : s[3]? = some x3) (h4 : s[4]? = some x4) (h5 : s[5]? = some x5) (h6 : s[6]? = some x6) (h7 : s[7]? = some x7) (k : Nat) : aj PP GL XX HH NN (k + 1) 145 [A.c (st s), A.c (ii 8)] [] = some ([Res.c (u (eX [x0, x1, x2, x3, x4, x5, x6, x7])), Res.c (bo true)], []) := by
  exact rt (en hs <| eg (G.un) <| et <| ep (rfl : (0 : Int) = (0 : Int)) <| ep h0 <| eg (G.byte 0 x0) <| et <| ep (rfl : (1 : Int) = (1 : Int)) <| ep h1 <| eg (G.byte 1 x1) <| et <| ep (rfl : (2 : Int) = (2 : Int)) <| ep h2 <| eg (G.byte 2 x2) <| et <| ep (rfl : (3 : Int) = (3 : Int)) <| ep h3 <| eg (G.byte 3 x3) <| et <| ep (rfl : (4 : Int) = (4 : Int)) <| ep h4 <| eg (G.byte 4 x4) <| et <| ep (rfl : (5 : Int) = (5 : Int)) <| ep h5 <| eg (G.byte 5 x5) <| et <| ep (rfl : (6 : Int) = (6 : Int)) <| ep h6 <| eg (G.byte 6 x6) <| et <| ep (rfl : (7 : Int) = (7 : Int)) <| ep h7 <| eg (G.byte 7 x7) <| ef <| e0) rfl
theorem EK (s : ByteArray) (hs : ((↑(s.size) : Int) == 4) = true) (x0 : UInt8) (x1 : UInt8) (x2 : UInt8) (x3 : UInt8) (h0 : s[0]? = some x0) (h1 : s[1]? = some x1) (h2 : s[2]? = some x2) (h3 : s[3]? = some x3) (k : Nat) : aj PP GL XX HH NN (k + 1) 145 [A.c (st s), A.c (ii 4)] [] = some ([Res.c (u (eX [x0, x1, x2, x3])), Res.c (bo true)], []) := by
  exact rt (en hs <| eg (G.un) <| et <| ep (rfl : (0 : Int) = (0 : Int)) <| ep h0 <| eg (G.byte 0 x0) <| et <| ep (rfl : (1 : Int) = (1 : Int)) <| ep h1 <| eg (G.byte 1 x1) <| et <| ep (rfl : (2 : Int) = (2 : Int)) <| ep h2 <| eg (G.byte 2 x2) <| et <| ep (rfl : (3 : Int) = (3 : Int)) <| ep h3 <| eg (G.byte 3 x3) <| ef <| e0) rfl
theorem GZ (s : ByteArray) (n : Int) (hs : ((↑(s.size) : Int) == n) = false) (k : Nat) : aj PP GL XX HH NN (k + 1) 145 [A.c (st s), A.c (ii n)] [] = some ([Res.c (u 0), Res.c (bo false)], []) := by
  exact rt (en hs <| e0) rfl
theorem Hs (s : ByteArray) (hs : s.size = 8) (k : Nat) : aj PP GL XX HH NN (k + 1) 145 [.c (st s), .c (ii 8)] [] = some ([.c (u (eX s.data.toList)), .c (bo true)], []) := by
  obtain ⟨a, b, c, d, e, f, g, i, hl⟩ := F8 ((tq s).trans hs)
  have := E2 s (by rw [hs]; rfl) a b c d e f g i (by rw [gv, hl]; rfl) (by rw [gv, hl]; rfl) (by rw [gv, hl]; rfl) (by rw [gv, hl]; rfl) (by rw [gv, hl]; rfl) (by rw [gv, hl]; rfl) (by rw [gv, hl]; rfl) (by rw [gv, hl]; rfl) k
  rw [hl]
  exact this
theorem HF (s : ByteArray) (hs : s.size = 4) (k : Nat) : aj PP GL XX HH NN (k + 1) 145 [.c (st s), .c (ii 4)] [] = some ([.c (u (eX s.data.toList)), .c (bo true)], []) := by
  obtain ⟨a, b, c, d, hl⟩ := Fg ((tq s).trans hs)
  have := EK s (by rw [hs]; rfl) a b c d (by rw [gv, hl]; rfl) (by rw [gv, hl]; rfl) (by rw [gv, hl]; rfl) (by rw [gv, hl]; rfl) k
  rw [hl]
  exact this
theorem jj (s : ByteArray) (hs : s.size = 8) (k : Nat) : aj PP GL XX HH NN (k + 2) 122 [A.c (st s)] [] = some ([Res.c (u (eX (Array.toList (ByteArray.data s)))), Res.c (bo true)], []) := by
  exact rt (ec (Hs s hs k) <| e0) rfl
theorem E6 (s : ByteArray) (hs : s.size = 4) (k : Nat) : aj PP GL XX HH NN (k + 2) 143 [A.c (st s)] [] = some ([Res.c (w4 (IntKind.wrap .u32 (eX (Array.toList (ByteArray.data s))))), Res.c (bo true)], []) := by
  exact rt (ec (HF s hs k) <| e0) rfl
theorem DZ (s : ByteArray) (hs : ((↑(s.size) : Int) == 4) = false) (k : Nat) : aj PP GL XX HH NN (k + 2) 143 [A.c (st s)] [] = some ([Res.c (w4 0), Res.c (bo false)], []) := by
  exact rt (ec (GZ s 4 hs k) <| e0) rfl
theorem Es (a b c : Bool) (k : Nat) : aj PP GL XX HH NN (k + 1) 152 [.c (.slice 1 [[bo a], [bo b], [bo c]])] [] = some ([.c (by8 (fl a 1 + fl b 2 + fl c 4))], []) := by
  cases a <;> cases b <;> cases c <;> kernel_rfl
theorem DY (a b c d : Bool) (k : Nat) : aj PP GL XX HH NN (k + 1) 152 [.c (.slice 1 [[bo a], [bo b], [bo c], [bo d]])] [] = some ([.c (by8 (fl a 1 + fl b 2 + fl c 4 + fl d 8))], []) := by
  cases a <;> cases b <;> cases c <;> cases d <;> kernel_rfl
theorem fO (n : Int) (hz : decide (IntKind.wrap .u8 (Int.tdiv (IntKind.wrap .u8 (Int.tdiv (IntKind.wrap .u8 (Int.tdiv n 2)) 2)) 2) > 0) = false) (k : Nat) : aj PP GL XX HH NN (k + 1) 146 [A.c (by8 n), A.c (ii 3)] [] = some ([Res.top 1 [[bo (Int.tmod n (2 : Int) == 1)], [bo (Int.tmod (IntKind.wrap .u8 (Int.tdiv n 2)) (2 : Int) == 1)], [bo (Int.tmod (IntKind.wrap .u8 (Int.tdiv (IntKind.wrap .u8 (Int.tdiv n 2)) 2)) (2 : Int) == 1)]], Res.c (bo true)], []) := by
  exact rt (ef4 <| eg (G.un) <| et <| ep (show (2 : Int) ≠ (0 : Int) from by decide) <| eg (G.ok) <| ep (bQ ([[bo (Int.tmod n (2 : Int) == 1)]])) <| ep (show List.length [[bo (Int.tmod n (2 : Int) == 1)]] ≤ 1073741824 from by simp only [vr]; omega) <| ep ((rfl : (0 : Nat) = (0 : Nat))).symm <| eg (G.app [[bo (Int.tmod n (2 : Int) == 1)]]) <| ep (show (2 : Int) ≠ (0 : Int) from by decide) <| eg (G.ok) <| et <| ep (show (2 : Int) ≠ (0 : Int) from by decide) <| eg (G.ok) <| ep (rfl : [[bo (Int.tmod n (2 : Int) == 1)], [bo (Int.tmod (IntKind.wrap .u8 (Int.tdiv n (2 : Int))) (2 : Int) == 1)]] = [[bo (Int.tmod n (2 : Int) == 1)], [bo (Int.tmod (IntKind.wrap .u8 (Int.tdiv n (2 : Int))) (2 : Int) == 1)]]) <| ep (show List.length [[bo (Int.tmod n (2 : Int) == 1)], [bo (Int.tmod (IntKind.wrap .u8 (Int.tdiv n (2 : Int))) (2 : Int) == 1)]] ≤ 1073741824 from by simp only [vr]; omega) <| ep ((rfl : (1 : Nat) = (1 : Nat))).symm <| eg (G.app [[bo (Int.tmod n (2 : Int) == 1)], [bo (Int.tmod (IntKind.wrap .u8 (Int.tdiv n 2)) (2 : Int) == 1)]]) <| ep (show (2 : Int) ≠ (0 : Int) from by decide) <| eg (G.ok) <| et <| ep (show (2 : Int) ≠ (0 : Int) from by decide) <| eg (G.ok) <| ep (rfl : [[bo (Int.tmod n (2 : Int) == 1)], [bo (Int.tmod (IntKind.wrap .u8 (Int.tdiv n (2 : Int))) (2 : Int) == 1)], [bo (Int.tmod (IntKind.wrap .u8 (Int.tdiv (IntKind.wrap .u8 (Int.tdiv n (2 : Int))) (2 : Int))) (2 : Int) == 1)]] = [[bo (Int.tmod n (2 : Int) == 1)], [bo (Int.tmod (IntKind.wrap .u8 (Int.tdiv n (2 : Int))) (2 : Int) == 1)], [bo (Int.tmod (IntKind.wrap .u8 (Int.tdiv (IntKind.wrap .u8 (Int.tdiv n (2 : Int))) (2 : Int))) (2 : Int) == 1)]]) <| ep (show List.length [[bo (Int.tmod n (2 : Int) == 1)], [bo (Int.tmod (IntKind.wrap .u8 (Int.tdiv n (2 : Int))) (2 : Int) == 1)], [bo (Int.tmod (IntKind.wrap .u8 (Int.tdiv (IntKind.wrap .u8 (Int.tdiv n (2 : Int))) (2 : Int))) (2 : Int) == 1)]] ≤ 1073741824 from by simp only [vr]; omega) <| ep ((rfl : (2 : Nat) = (2 : Nat))).symm <| eg (G.app [[bo (Int.tmod n (2 : Int) == 1)], [bo (Int.tmod (IntKind.wrap .u8 (Int.tdiv n 2)) (2 : Int) == 1)], [bo (Int.tmod (IntKind.wrap .u8 (Int.tdiv (IntKind.wrap .u8 (Int.tdiv n 2)) 2)) (2 : Int) == 1)]]) <| ep (show (2 : Int) ≠ (0 : Int) from by decide) <| eg (G.ok) <| ef <| eb hz <| ep ((rfl : (3 : Nat) = (3 : Nat))).symm <| e0) rfl
theorem cN (n : Int) (hz : decide (IntKind.wrap .u8 (Int.tdiv (IntKind.wrap .u8 (Int.tdiv (IntKind.wrap .u8 (Int.tdiv (IntKind.wrap .u8 (Int.tdiv n 2)) 2)) 2)) 2) > 0) = false) (k : Nat) : aj PP GL XX HH NN (k + 1) 146 [A.c (by8 n), A.c (ii 4)] [] = some ([Res.top 1 [[bo (Int.tmod n (2 : Int) == 1)], [bo (Int.tmod (IntKind.wrap .u8 (Int.tdiv n 2)) (2 : Int) == 1)], [bo (Int.tmod (IntKind.wrap .u8 (Int.tdiv (IntKind.wrap .u8 (Int.tdiv n 2)) 2)) (2 : Int) == 1)], [bo (Int.tmod (IntKind.wrap .u8 (Int.tdiv (IntKind.wrap .u8 (Int.tdiv (IntKind.wrap .u8 (Int.tdiv n 2)) 2)) 2)) (2 : Int) == 1)]], Res.c (bo true)], []) := by
  exact rt (ef4 <| eg (G.un) <| et <| ep (show (2 : Int) ≠ (0 : Int) from by decide) <| eg (G.ok) <| ep (bQ ([[bo (Int.tmod n (2 : Int) == 1)]])) <| ep (show List.length [[bo (Int.tmod n (2 : Int) == 1)]] ≤ 1073741824 from by simp only [vr]; omega) <| ep ((rfl : (0 : Nat) = (0 : Nat))).symm <| eg (G.app [[bo (Int.tmod n (2 : Int) == 1)]]) <| ep (show (2 : Int) ≠ (0 : Int) from by decide) <| eg (G.ok) <| et <| ep (show (2 : Int) ≠ (0 : Int) from by decide) <| eg (G.ok) <| ep (rfl : [[bo (Int.tmod n (2 : Int) == 1)], [bo (Int.tmod (IntKind.wrap .u8 (Int.tdiv n (2 : Int))) (2 : Int) == 1)]] = [[bo (Int.tmod n (2 : Int) == 1)], [bo (Int.tmod (IntKind.wrap .u8 (Int.tdiv n (2 : Int))) (2 : Int) == 1)]]) <| ep (show List.length [[bo (Int.tmod n (2 : Int) == 1)], [bo (Int.tmod (IntKind.wrap .u8 (Int.tdiv n (2 : Int))) (2 : Int) == 1)]] ≤ 1073741824 from by simp only [vr]; omega) <| ep ((rfl : (1 : Nat) = (1 : Nat))).symm <| eg (G.app [[bo (Int.tmod n (2 : Int) == 1)], [bo (Int.tmod (IntKind.wrap .u8 (Int.tdiv n 2)) (2 : Int) == 1)]]) <| ep (show (2 : Int) ≠ (0 : Int) from by decide) <| eg (G.ok) <| et <| ep (show (2 : Int) ≠ (0 : Int) from by decide) <| eg (G.ok) <| ep (rfl : [[bo (Int.tmod n (2 : Int) == 1)], [bo (Int.tmod (IntKind.wrap .u8 (Int.tdiv n (2 : Int))) (2 : Int) == 1)], [bo (Int.tmod (IntKind.wrap .u8 (Int.tdiv (IntKind.wrap .u8 (Int.tdiv n (2 : Int))) (2 : Int))) (2 : Int) == 1)]] = [[bo (Int.tmod n (2 : Int) == 1)], [bo (Int.tmod (IntKind.wrap .u8 (Int.tdiv n (2 : Int))) (2 : Int) == 1)], [bo (Int.tmod (IntKind.wrap .u8 (Int.tdiv (IntKind.wrap .u8 (Int.tdiv n (2 : Int))) (2 : Int))) (2 : Int) == 1)]]) <| ep (show List.length [[bo (Int.tmod n (2 : Int) == 1)], [bo (Int.tmod (IntKind.wrap .u8 (Int.tdiv n (2 : Int))) (2 : Int) == 1)], [bo (Int.tmod (IntKind.wrap .u8 (Int.tdiv (IntKind.wrap .u8 (Int.tdiv n (2 : Int))) (2 : Int))) (2 : Int) == 1)]] ≤ 1073741824 from by simp only [vr]; omega) <| ep ((rfl : (2 : Nat) = (2 : Nat))).symm <| eg (G.app [[bo (Int.tmod n (2 : Int) == 1)], [bo (Int.tmod (IntKind.wrap .u8 (Int.tdiv n 2)) (2 : Int) == 1)], [bo (Int.tmod (IntKind.wrap .u8 (Int.tdiv (IntKind.wrap .u8 (Int.tdiv n 2)) 2)) (2 : Int) == 1)]]) <| ep (show (2 : Int) ≠ (0 : Int) from by decide) <| eg (G.ok) <| et <| ep (show (2 : Int) ≠ (0 : Int) from by decide) <| eg (G.ok) <| ep (rfl : [[bo (Int.tmod n (2 : Int) == 1)], [bo (Int.tmod (IntKind.wrap .u8 (Int.tdiv n (2 : Int))) (2 : Int) == 1)], [bo (Int.tmod (IntKind.wrap .u8 (Int.tdiv (IntKind.wrap .u8 (Int.tdiv n (2 : Int))) (2 : Int))) (2 : Int) == 1)], [bo (Int.tmod (IntKind.wrap .u8 (Int.tdiv (IntKind.wrap .u8 (Int.tdiv (IntKind.wrap .u8 (Int.tdiv n (2 : Int))) (2 : Int))) (2 : Int))) (2 : Int) == 1)]] = [[bo (Int.tmod n (2 : Int) == 1)], [bo (Int.tmod (IntKind.wrap .u8 (Int.tdiv n (2 : Int))) (2 : Int) == 1)], [bo (Int.tmod (IntKind.wrap .u8 (Int.tdiv (IntKind.wrap .u8 (Int.tdiv n (2 : Int))) (2 : Int))) (2 : Int) == 1)], [bo (Int.tmod (IntKind.wrap .u8 (Int.tdiv (IntKind.wrap .u8 (Int.tdiv (IntKind.wrap .u8 (Int.tdiv n (2 : Int))) (2 : Int))) (2 : Int))) (2 : Int) == 1)]]) <| ep (show List.length [[bo (Int.tmod n (2 : Int) == 1)], [bo (Int.tmod (IntKind.wrap .u8 (Int.tdiv n (2 : Int))) (2 : Int) == 1)], [bo (Int.tmod (IntKind.wrap .u8 (Int.tdiv (IntKind.wrap .u8 (Int.tdiv n (2 : Int))) (2 : Int))) (2 : Int) == 1)], [bo (Int.tmod (IntKind.wrap .u8 (Int.tdiv (IntKind.wrap .u8 (Int.tdiv (IntKind.wrap .u8 (Int.tdiv n (2 : Int))) (2 : Int))) (2 : Int))) (2 : Int) == 1)]] ≤ 1073741824 from by simp only [vr]; omega) <| ep ((rfl : (3 : Nat) = (3 : Nat))).symm <| eg (G.app [[bo (Int.tmod n (2 : Int) == 1)], [bo (Int.tmod (IntKind.wrap .u8 (Int.tdiv n 2)) (2 : Int) == 1)], [bo (Int.tmod (IntKind.wrap .u8 (Int.tdiv (IntKind.wrap .u8 (Int.tdiv n 2)) 2)) (2 : Int) == 1)], [bo (Int.tmod (IntKind.wrap .u8 (Int.tdiv (IntKind.wrap .u8 (Int.tdiv (IntKind.wrap .u8 (Int.tdiv n 2)) 2)) 2)) (2 : Int) == 1)]]) <| ep (show (2 : Int) ≠ (0 : Int) from by decide) <| eg (G.ok) <| ef <| eb hz <| ep ((rfl : (4 : Nat) = (4 : Nat))).symm <| e0) rfl
theorem yT (m : Nat) (h : m ≤ 7) (k : Nat) : aj PP GL XX HH NN (k + 1) 146 [.c (by8 (m : Int)), .c (ii 3)] [] = some ([.top 1 [[bo (m / 2 ^ 0 % 2 == 1)], [bo (m / 2 ^ 1 % 2 == 1)], [bo (m / 2 ^ 2 % 2 == 1)]], .c (bo true)], []) := by
  match m, h with
  | 0, _ => exact (fO 0 (by decide) k).trans (by kernel_rfl)
  | 1, _ => exact (fO 1 (by decide) k).trans (by kernel_rfl)
  | 2, _ => exact (fO 2 (by decide) k).trans (by kernel_rfl)
  | 3, _ => exact (fO 3 (by decide) k).trans (by kernel_rfl)
  | 4, _ => exact (fO 4 (by decide) k).trans (by kernel_rfl)
  | 5, _ => exact (fO 5 (by decide) k).trans (by kernel_rfl)
  | 6, _ => exact (fO 6 (by decide) k).trans (by kernel_rfl)
  | 7, _ => exact (fO 7 (by decide) k).trans (by kernel_rfl)
theorem yN (m : Nat) (h : m ≤ 15) (k : Nat) : aj PP GL XX HH NN (k + 1) 146 [.c (by8 (m : Int)), .c (ii 4)] [] = some ([.top 1 [[bo (m / 2 ^ 0 % 2 == 1)], [bo (m / 2 ^ 1 % 2 == 1)], [bo (m / 2 ^ 2 % 2 == 1)], [bo (m / 2 ^ 3 % 2 == 1)]], .c (bo true)], []) := by
  match m, h with
  | 0, _ => exact (cN 0 (by decide) k).trans (by kernel_rfl)
  | 1, _ => exact (cN 1 (by decide) k).trans (by kernel_rfl)
  | 2, _ => exact (cN 2 (by decide) k).trans (by kernel_rfl)
  | 3, _ => exact (cN 3 (by decide) k).trans (by kernel_rfl)
  | 4, _ => exact (cN 4 (by decide) k).trans (by kernel_rfl)
  | 5, _ => exact (cN 5 (by decide) k).trans (by kernel_rfl)
  | 6, _ => exact (cN 6 (by decide) k).trans (by kernel_rfl)
  | 7, _ => exact (cN 7 (by decide) k).trans (by kernel_rfl)
  | 8, _ => exact (cN 8 (by decide) k).trans (by kernel_rfl)
  | 9, _ => exact (cN 9 (by decide) k).trans (by kernel_rfl)
  | 10, _ => exact (cN 10 (by decide) k).trans (by kernel_rfl)
  | 11, _ => exact (cN 11 (by decide) k).trans (by kernel_rfl)
  | 12, _ => exact (cN 12 (by decide) k).trans (by kernel_rfl)
  | 13, _ => exact (cN 13 (by decide) k).trans (by kernel_rfl)
  | 14, _ => exact (cN 14 (by decide) k).trans (by kernel_rfl)
  | 15, _ => exact (cN 15 (by decide) k).trans (by kernel_rfl)
theorem rR (x : UInt8) (h : x.toNat ≤ 7) (k : Nat) : aj PP GL XX HH NN (k + 1) 146 [.c (by8 (x.toNat : Int)), .c (ii 3)] [] = some ([.top 1 [[bo (aV x 0)], [bo (aV x 1)], [bo (aV x 2)]], .c (bo true)], []) := yT x.toNat h k
theorem wm (x : UInt8) (h : x.toNat ≤ 15) (k : Nat) : aj PP GL XX HH NN (k + 1) 146 [.c (by8 (x.toNat : Int)), .c (ii 4)] [] = some ([.top 1 [[bo (aV x 0)], [bo (aV x 1)], [bo (aV x 2)], [bo (aV x 3)]], .c (bo true)], []) := yN x.toNat h k
end Go.Dm
namespace Go.Dm
open Go
def C1 (s : ByteArray) (c0 : Int) (c1 : Int) : St := St.mk (tc (st s) :: T.hole :: T.hole :: tc (u c0) :: tc (ii c1) :: hs 16 []) [] []
theorem CO (s : ByteArray) (n : Int) (i : Nat) (b : UInt8) (hb : s[i]? = some b) (k : Nat) (z0 : (decide ((↑i : Int) < (↑(s.size) : Int))) = true) : bp (EE (k + 1)) (HH 129) NN (LB PP 129 3) 0 0 (C1 s n (↑i : Int)) (C1 s (Int.tmod (IntKind.wrap .u64 (GE IntKind.u64 n (IntKind.wrap .u64 (↑(UInt8.toNat b) : Int)) * 16777619)) 4294967296) (IntKind.wrap .i64 ((↑i : Int) + 1))) :=
  nx (eb z0 <| ep (rfl : (↑i : Int) = (↑i : Int)) <| ep hb <| eg (G.byte i b) <| ep (show (4294967296 : Int) ≠ (0 : Int) from by decide) <| eg (G.ok) <| e0)
def pu (s : ByteArray) (n : Int) (i : Nat) : St := St.mk (tc (st s) :: T.hole :: T.hole :: tc (u n) :: tc (ii (↑i : Int)) :: tc (ii (↑i : Int)) :: tc (st s) :: tc (ii (↑(s.size) : Int)) :: tc (bo (decide ((↑i : Int) < (↑(s.size) : Int)))) :: hs 12 []) [] []
theorem D3 (s : ByteArray) (n : Int) (i : Nat) (k : Nat) (z0 : (decide ((↑i : Int) < (↑(s.size) : Int))) = false) : cx (EE (k + 1)) (HH 129) NN (LB PP 129 3) (C1 s n (↑i : Int)) (Ext.exit 0) (pu s n i) :=
  ou (eb z0 <| e0)
theorem blt {s : ByteArray} {i : Nat} {b : UInt8} (h : s.data.toList[i]? = some b) : decide ((i : Int) < (s.size : Int)) = true := by
  have := dJ h
  rw [tq] at this
  exact decide_eq_true (by omega)
theorem GI (s : ByteArray) (hs : s.size ≤ 1000000) (k : Nat) : br (EE (k + 1)) (HH 129) NN (LB PP 129 3) (C1 s 2166136261 0) (.exit 0) (pu s (s.data.toList.foldl oJ 2166136261) s.data.toList.length) := by
  have hl := tq s
  refine (CM (E := fun k => EE (k + 1)) (fun n i => C1 s n (i : Nat)) (fun _ _ => True) s.data.toList oJ 2166136261 (fun n => pu s n s.data.toList.length) (nv := 0) (nt := 0) (by kernel_rfl) (by kernel_rfl) trivial (fun _ _ _ _ _ => trivial) (fun k n i b hb _ => ?_) (fun k _ => ?_) (by unfold NN; omega)).2 k
  · have := CO s n i b (by rw [gv]; exact hb) k (blt hb)
    rwa [sj hb (by omega)] at this
  · exact D3 s _ _ k (by rw [hl]; exact dge)
theorem GY (s : ByteArray) (hs : s.size ≤ 1000000) (k : Nat) : aj PP GL XX HH NN (k + 2) 129 [A.c (st s)] [] = some ([Res.c (w4 (DQ s))], []) := by
  exact rt (eg (G.loop (Ext.exit 0) (pu s (List.foldl oJ 2166136261 (Array.toList (ByteArray.data s))) (List.length (Array.toList (ByteArray.data s))))) <| ep (GI s hs k) <| e0) (by simp only [DQ, vq] <;> rfl)
theorem od (s : ByteArray) (hs : s.size ≤ 1000000) (k : Nat) : aj PP GL XX HH NN (k + 4) 101 [A.c (st s)] [] = some ([Res.c (st (bK s))], []) := by
  exact rt (ec (GY s hs (k + 1)) <| ec (r5 (DQ s) (k + 1)) <| ep (show s.size + ByteArray.size (dH (DQ s)) ≤ 9223372036854775807 from by first | omega | (simp only [ByteArray.size_append, aq, aJ, aQ, List.size_toArray, ap, az, ar, al, ak, List.length_cons, List.length_nil] at *; omega)) <| eg (G.ok) <| e0) (by simp only [bK, vq] <;> rfl)
theorem Ee (s : ByteArray) (h4 : decide ((↑(s.size) : Int) < 4) = true) (k : Nat) : aj PP GL XX HH NN (k + 5) 121 [A.c (st s)] [] = some ([Res.c (st (aa s).1), Res.c (ii (aa s).2)], []) := by
  exact rt (eb h4 <| e0) (by simp only [aa, h4, vq] <;> rfl)
theorem Ec (s : ByteArray) (h4 : decide ((↑(s.size) : Int) < 4) = false) (hs : s.size ≤ 1000000) (hw : IntKind.wrap .i64 ((↑(s.size) : Int) - 4) = (↑(s.size - 4) : Int)) (hm : s.size - 4 ≤ s.size) (ht : ByteArray.size (ByteArray.extract s 0 (s.size - 4)) ≤ 1000000) (k : Nat) : aj PP GL XX HH NN (k + 5) 121 [A.c (st s)] [] = some ([Res.c (st (aa s).1), Res.c (ii (aa s).2)], []) := by
  rcases bft (bK (ByteArray.extract s 0 (s.size - 4)) == s) with z0 | z0
  · exact rt (eb h4 <| ep hw <| ep (rfl : (0 : Nat) = 0) <| ep (show (0 : Nat) ≤ s.size - (4 : Nat) from by omega) <| ep hm <| eg (G.cut 0 (s.size - 4) []) <| ec (od (ByteArray.extract s 0 (s.size - 4)) ht k) <| en z0 <| e0) (by simp only [aa, h4, z0, vq] <;> rfl)
  · exact rt (eb h4 <| ep hw <| ep (rfl : (0 : Nat) = 0) <| ep (show (0 : Nat) ≤ s.size - (4 : Nat) from by omega) <| ep hm <| eg (G.cut 0 (s.size - 4) []) <| ec (od (ByteArray.extract s 0 (s.size - 4)) ht k) <| en z0 <| e0) (by simp only [aa, h4, z0, vq] <;> rfl)
theorem eT (s : ByteArray) (hs : s.size ≤ 1000000) (k : Nat) : aj PP GL XX HH NN (k + 5) 121 [.c (st s)] [] = some ([.c (st (aa s).1), .c (ii (aa s).2)], []) := by
  cases h4 : decide ((s.size : Int) < 4) with
  | true => exact Ee s h4 k
  | false =>
    have h := of_decide_eq_false h4
    exact Ec s h4 hs (by rw [eu (by omega) (by omega)]; omega) (by omega) (by rw [ByteArray.size_extract]; omega) k
end Go.Dm
namespace Go.Dm
open Go
def DJ (n : Int) (c0 : Int) (c1 : Int) : St := St.mk (tc (ii n) :: T.hole :: T.hole :: tc (w4 c0) :: tc (ii c1) :: hs 8 []) [] []
theorem Dr (n : Nat) (i : Nat) (p : Int) (k : Nat) (z0 : (decide ((↑i : Int) < (↑n : Int))) = true) : bp (EE (k + 1)) (HH 158) NN (LB PP 158 3) 0 0 (DJ (↑n : Int) p (↑i : Int)) (DJ (↑n : Int) (IntKind.wrap .u32 (2 * p)) (IntKind.wrap .i64 ((↑i : Int) + 1))) :=
  nx (eb z0 <| e0)
def sl (n : Nat) (i : Nat) (p : Int) : St := St.mk (tc (ii (↑n : Int)) :: T.hole :: T.hole :: tc (w4 p) :: tc (ii (↑i : Int)) :: tc (ii (↑i : Int)) :: tc (ii (↑n : Int)) :: tc (bo (decide ((↑i : Int) < (↑n : Int)))) :: hs 5 []) [] []
theorem D5 (n : Nat) (i : Nat) (p : Int) (k : Nat) (z0 : (decide ((↑i : Int) < (↑n : Int))) = false) : cx (EE (k + 1)) (HH 158) NN (LB PP 158 3) (DJ (↑n : Int) p (↑i : Int)) (Ext.exit 0) (sl n i p) :=
  ou (eb z0 <| e0)
theorem G2 (n : Nat) (hn : n ≤ 31) (k : Nat) : br (EE (k + 1)) (HH 158) NN (LB PP 158 3) (DJ n 1 0) (.exit 0) (sl n n (2 ^ n)) := by
  refine f7 (nv := 0) (nt := 0) (fun i => DJ n (2 ^ i) (i : Nat)) n rfl (by kernel_rfl) (by kernel_rfl) (fun i hi => ?_) ?_ (by unfold NN; omega)
  · have := Dr n i (2 ^ i) k (by simp; exact hi)
    have h2 := kU (i := i + 1) (by omega)
    have e : (2 : Int) ^ (i + 1) = 2 * 2 ^ i := by rw [Int.pow_succ, Int.mul_comm]
    rw [w64 hi (by omega)] at this
    have ew : IntKind.wrap .u32 (2 * 2 ^ i) = 2 ^ (i + 1) := by
      rw [← e]
      unfold IntKind.wrap
      simp [IntKind.signed, IntKind.bits]
      omega
    rw [ew] at this
    exact this
  · exact D5 n n (2 ^ n) k (by simp)
theorem pow (n : Nat) (hn : n ≤ 31) (k : Nat) : aj PP GL XX HH NN (k + 2) 158 [A.c (ii (↑n : Int))] [] = some ([Res.c (w4 ((2 : Int) ^ n))], []) := by
  exact rt (eg (G.loop (Ext.exit 0) (sl n n ((2 : Int) ^ n))) <| ep (G2 n hn k) <| e0) rfl
theorem Ff (m : Int) (i : Nat) (hi : i ≤ 31) (hz : (2 : Int) ^ i ≠ 0) (h1 : decide ((↑i : Int) ≥ 0) = true) (h2 : decide ((↑i : Int) < 32) = true) (k : Nat) : aj PP GL XX HH NN (k + 3) 157 [A.c (w4 m), A.c (ii (↑i : Int))] [] = some ([Res.c (bo (inM m i))], []) := by
  exact rt (et3 <| eb3 h2 <| ec (pow i hi k) <| eb h2 <| ep hz <| eg (G.ok) <| eb h2 <| ep (show (2 : Int) ≠ (0 : Int) from by decide) <| eg (G.ok) <| eb2 h2 <| e0) (by simp only [inM, vq] <;> rfl)
theorem FF (m : Int) (i : Int) (h1 : decide (i ≥ 0) = false) (k : Nat) : aj PP GL XX HH NN (k + 3) 157 [A.c (w4 m), A.c (ii i)] [] = some ([Res.c (bo false)], []) := by
  exact rt (eb3 h1 <| ef7 <| e0) rfl
theorem EJ (m : Int) (i : Int) (h1 : decide (i ≥ 0) = true) (h2 : decide (i < 32) = false) (k : Nat) : aj PP GL XX HH NN (k + 3) 157 [A.c (w4 m), A.c (ii i)] [] = some ([Res.c (bo false)], []) := by
  exact rt (eb3 h1 <| eb7 h2 <| e0) rfl
theorem yx (x : BitVec 32) (i : Int) (k : Nat) : aj PP GL XX HH NN (k + 3) 157 [.c (w4 (mi x)), .c (ii i)] [] = some ([.c (bo (kF x i))], []) := by
  unfold kF inB
  by_cases h1 : 0 ≤ i
  · by_cases h2 : i < 32
    · have h := kU (i := i.toNat) (by omega)
      have := Ff (mi x) i.toNat (by omega) (by omega) (decide_eq_true (by omega)) (decide_eq_true (by omega)) k
      rw [Int.toNat_of_nonneg h1] at this
      rw [decide_eq_true h1, decide_eq_true h2]
      rw [Dj] at this
      exact this
    · rw [decide_eq_false h2, Bool.and_false, Bool.false_and]
      exact EJ (mi x) i (decide_eq_true h1) (decide_eq_false h2) k
  · rw [decide_eq_false h1, Bool.false_and, Bool.false_and]
    exact FF (mi x) i (decide_eq_false h1) k
theorem GA (x : Int) (h : inB x = true) (k : Nat) : aj PP GL XX HH NN (k + 2) 158 [.c (ii x)] [] = some ([.c (w4 (mi (oW x)))], []) := by
  unfold oW
  rw [h]
  unfold inB at h
  simp only [Bool.and_eq_true, decide_eq_true_eq] at h
  have := pow x.toNat (by omega) k
  rw [Int.toNat_of_nonneg h.1, Al (by omega)] at this
  exact this
def S19 (x : BitVec 32) (c0 : List (List C)) (c1 : Int) : St := St.mk (tc (w4 (mi x)) :: T.hole :: T.hole :: T.k (K.v (V.own 1 c0 (Tk.tok 0))) :: tc (ii c1) :: hs 12 []) [] [c0.length]
theorem EI (x : BitVec 32) (c : List (List C)) (i : Nat) (hc : c.length ≤ 32) (k : Nat) (z0 : (decide ((↑i : Int) < 32)) = true) (z1 : (kF x (↑i : Int)) = true) : bp (EE (k + 3)) (HH 160) NN (LB PP 160 3) 0 1 (S19 x c (↑i : Int)) (S19 x (c ++ [[ii (↑i : Int)]]) (IntKind.wrap .i64 ((↑i : Int) + 1))) :=
  nx (eb z0 <| ec (yx x ((↑i : Int)) k) <| eb z1 <| ep (rfl : c ++ [[ii (↑i : Int)]] = c ++ [[ii (↑i : Int)]]) <| ep (show List.length (c ++ [[ii (↑i : Int)]]) ≤ 1073741824 from by simp only [vr]; omega) <| ep ((rfl : c.length = c.length)).symm <| eg (G.app (c ++ [[ii (↑i : Int)]])) <| e0)
theorem FV (x : BitVec 32) (c : List (List C)) (i : Nat) (k : Nat) (z0 : (decide ((↑i : Int) < 32)) = true) (z1 : (kF x (↑i : Int)) = false) : bp (EE (k + 3)) (HH 160) NN (LB PP 160 3) 0 1 (S19 x c (↑i : Int)) (S19 x c (IntKind.wrap .i64 ((↑i : Int) + 1))) :=
  nx (eb z0 <| ec (yx x ((↑i : Int)) k) <| eb z1 <| e0)
def xl (x : BitVec 32) (c : List (List C)) (i : Nat) : St := St.mk (tc (w4 (mi x)) :: T.hole :: T.hole :: T.k (K.v (V.own 1 c (Tk.tok 0))) :: tc (ii (↑i : Int)) :: tc (ii (↑i : Int)) :: tc (bo (decide ((↑i : Int) < 32))) :: hs 10 []) [] [c.length]
theorem Gt (x : BitVec 32) (c : List (List C)) (i : Nat) (k : Nat) (z0 : (decide ((↑i : Int) < 32)) = false) : cx (EE (k + 3)) (HH 160) NN (LB PP 160 3) (S19 x c (↑i : Int)) (Ext.exit 0) (xl x c i) :=
  ou (eb z0 <| e0)
theorem jP (x : BitVec 32) {i : Nat} (h : i < 32) : kF x (i : Int) = x.getLsbD i := by
  unfold kF inB
  rw [decide_eq_true (by omega : (0 : Int) ≤ i), decide_eq_true (by omega : (i : Int) < 32)]
  simp
theorem L19 (x : BitVec 32) (k : Nat) : br (EE (k + 3)) (HH 160) NN (LB PP 160 3) (S19 x [] 0) (.exit 0) (xl x (is (kg x)) 32) := by
  rw [← Dd]
  refine f7 (nv := 0) (nt := 1) (fun i => S19 x (is (lsI x i)) (i : Nat)) 32 rfl (by kernel_rfl) (by kernel_rfl) (fun i hi => ?_) ?_ (by unfold NN; omega)
  · have hlen : (is (lsI x i)).length ≤ 32 := by rw [Ef]; exact Nat.le_trans (wl x i) (by omega)
    have hd : decide ((i : Int) < 32) = true := by simp; omega
    have e1 := w64 hi (by omega)
    have hbit := jP x hi
    show bp _ _ _ _ _ _ (S19 x (is (lsI x i)) (i : Nat)) (S19 x (is (lsI x (i + 1))) ((i + 1 : Nat) : Int))
    rw [zg]
    cases hb : x.getLsbD i with
    | true =>
      rw [hb] at hbit
      have := EI x (is (lsI x i)) i hlen k hd hbit
      rw [e1] at this
      simpa [is] using this
    | false =>
      rw [hb] at hbit
      have := FV x (is (lsI x i)) i k hd hbit
      rw [e1] at this
      exact this
  · exact Gt x (is (lsI x 32)) 32 k (by decide)
theorem Ga (x : BitVec 32) (k : Nat) : aj PP GL XX HH NN (k + 4) 160 [A.c (w4 (mi x))] [] = some ([Res.top 1 (is (kg x))], []) := by
  exact rt (eg (G.loop (Ext.exit 0) (xl x (is (kg x)) 32)) <| ep (L19 x k) <| ep (show List.length (is (kg x)) = List.length (List.map eI (kg x)) from by first | rfl | simp | (simp; omega)) <| e0) rfl
theorem AI {x : Int} (h1 : decide (x ≥ 0) = true) (h2 : decide (x < 32) = true) : inB x = true := by
  simp only [decide_eq_true_eq] at h1 h2
  unfold inB
  rw [decide_eq_true (by omega : (0 : Int) ≤ x), decide_eq_true h2]
  rfl
theorem A0 {x : Int} (h : decide (x ≥ 0) = false ∨ decide (x < 32) = false) : inB x = false := by
  unfold inB
  rcases h with h | h
  · rw [show decide (0 ≤ x) = false from h, Bool.false_and]
  · rw [h, Bool.and_false]
theorem ER (x : Int) (h1 : decide (x ≥ 0) = true) (h2 : decide (x < 32) = true) (k : Nat) : aj PP GL XX HH NN (k + 2) 158 [.c (ii x)] [] = some ([.c (w4 (mi (oW x)))], []) := GA x (AI h1 h2) k
theorem Hm (m : BitVec 32) (x : Int) (h : kF m x = true) (k : Nat) : aj PP GL XX HH NN (k + 2) 158 [.c (ii x)] [] = some ([.c (w4 (mi (oW x)))], []) := GA x (by unfold kF at h; simp only [Bool.and_eq_true] at h; exact h.1) k
def S21 (l : List Int) (c0 : Int) (c1 : Int) : St := St.mk (tc (w4 c0) :: tc (C.slice 1 (List.map eI l)) :: T.hole :: T.hole :: T.hole :: tc (ii c1) :: hs 35 []) [] []
theorem Gd (l : List Int) (m : BitVec 32) (i : Nat) (x : Int) (hx : l[i]? = some x) (k : Nat) (z0 : (decide ((↑i : Int) < (↑(l.length) : Int))) = true) (z1 : (decide (x ≥ 0)) = true) (z2 : (decide (x < 32)) = true) (z3 : (kF m x) = true) : bp (EE (k + 3)) (HH 135) NN (LB PP 135 2) 0 0 (S21 l (mi m) (↑i : Int)) (S21 l (mi m) (IntKind.wrap .i64 ((↑i : Int) + 1))) :=
  nx (ep (av (eI) (l)) <| eg (G.len (l.length)) <| eb z0 <| ep (rfl : (↑i : Int) = (↑i : Int)) <| ep (aB (f := eI) hx) <| eg (G.idx i [ii x]) <| eb3 z1 <| ep (rfl : (↑i : Int) = (↑i : Int)) <| ep (aB (f := eI) hx) <| eg (G.idx i [ii x]) <| eb3 z1 <| eb4 z2 <| ep (rfl : (↑i : Int) = (↑i : Int)) <| ep (aB (f := eI) hx) <| eg (G.idx i [ii x]) <| eb2 z2 <| ec (yx m x k) <| eb2 z2 <| en z3 <| e0)
theorem Fp (l : List Int) (m : BitVec 32) (i : Nat) (x : Int) (hx : l[i]? = some x) (k : Nat) (z0 : (decide ((↑i : Int) < (↑(l.length) : Int))) = true) (z1 : (decide (x ≥ 0)) = true) (z2 : (decide (x < 32)) = true) (z3 : (kF m x) = false) : bp (EE (k + 3)) (HH 135) NN (LB PP 135 2) 0 0 (S21 l (mi m) (↑i : Int)) (S21 l (IntKind.wrap .u32 (mi m + mi (oW x))) (IntKind.wrap .i64 ((↑i : Int) + 1))) :=
  nx (ep (av (eI) (l)) <| eg (G.len (l.length)) <| eb z0 <| ep (rfl : (↑i : Int) = (↑i : Int)) <| ep (aB (f := eI) hx) <| eg (G.idx i [ii x]) <| eb3 z1 <| ep (rfl : (↑i : Int) = (↑i : Int)) <| ep (aB (f := eI) hx) <| eg (G.idx i [ii x]) <| eb3 z1 <| eb4 z2 <| ep (rfl : (↑i : Int) = (↑i : Int)) <| ep (aB (f := eI) hx) <| eg (G.idx i [ii x]) <| eb2 z2 <| ec (yx m x k) <| eb2 z2 <| en z3 <| ep (rfl : (↑i : Int) = (↑i : Int)) <| ep (aB (f := eI) hx) <| eg (G.idx i [ii x]) <| ec (ER x z1 z2 (k + 1)) <| e0)
theorem EX (l : List Int) (m : BitVec 32) (i : Nat) (x : Int) (hx : l[i]? = some x) (k : Nat) (z0 : (decide ((↑i : Int) < (↑(l.length) : Int))) = true) (z1 : (decide (x ≥ 0)) = true) (z2 : (decide (x < 32)) = false) : bp (EE (k + 3)) (HH 135) NN (LB PP 135 2) 0 0 (S21 l (mi m) (↑i : Int)) (S21 l (mi m) (IntKind.wrap .i64 ((↑i : Int) + 1))) :=
  nx (ep (av (eI) (l)) <| eg (G.len (l.length)) <| eb z0 <| ep (rfl : (↑i : Int) = (↑i : Int)) <| ep (aB (f := eI) hx) <| eg (G.idx i [ii x]) <| eb3 z1 <| ep (rfl : (↑i : Int) = (↑i : Int)) <| ep (aB (f := eI) hx) <| eg (G.idx i [ii x]) <| eb3 z1 <| eb8 z2 <| ef <| e0)
theorem FA (l : List Int) (m : BitVec 32) (i : Nat) (x : Int) (hx : l[i]? = some x) (k : Nat) (z0 : (decide ((↑i : Int) < (↑(l.length) : Int))) = true) (z1 : (decide (x ≥ 0)) = false) : bp (EE (k + 3)) (HH 135) NN (LB PP 135 2) 0 0 (S21 l (mi m) (↑i : Int)) (S21 l (mi m) (IntKind.wrap .i64 ((↑i : Int) + 1))) :=
  nx (ep (av (eI) (l)) <| eg (G.len (l.length)) <| eb z0 <| ep (rfl : (↑i : Int) = (↑i : Int)) <| ep (aB (f := eI) hx) <| eg (G.idx i [ii x]) <| eb6 z1 <| ef9 <| e0)
def ua (l : List Int) (m : BitVec 32) (i : Nat) : St := St.mk (tc (w4 (mi m)) :: tc (C.slice 1 (List.map eI l)) :: T.hole :: T.hole :: T.hole :: tc (ii (↑i : Int)) :: tc (ii (↑i : Int)) :: tc (C.slice 1 (List.map eI l)) :: tc (ii (↑(l.length) : Int)) :: tc (bo (decide ((↑i : Int) < (↑(l.length) : Int)))) :: hs 31 []) [] []
theorem F2 (l : List Int) (m : BitVec 32) (i : Nat) (k : Nat) (z0 : (decide ((↑i : Int) < (↑(l.length) : Int))) = false) : cx (EE (k + 3)) (HH 135) NN (LB PP 135 2) (S21 l (mi m) (↑i : Int)) (Ext.exit 0) (ua l m i) :=
  ou (ep (av (eI) (l)) <| eg (G.len (l.length)) <| eb z0 <| e0)
def S23 (l : List Int) (c0 : Int) (c1 : Int) : St := St.mk (tc (w4 c0) :: tc (C.slice 1 (List.map eI l)) :: T.hole :: T.hole :: T.hole :: tc (ii c1) :: hs 20 []) [] []
theorem EU (l : List Int) (m : BitVec 32) (i : Nat) (x : Int) (hx : l[i]? = some x) (k : Nat) (z0 : (decide ((↑i : Int) < (↑(l.length) : Int))) = true) (z1 : (kF m x) = true) : bp (EE (k + 3)) (HH 161) NN (LB PP 161 2) 0 0 (S23 l (mi m) (↑i : Int)) (S23 l (IntKind.wrap .u32 (mi m - mi (oW x))) (IntKind.wrap .i64 ((↑i : Int) + 1))) :=
  nx (ep (av (eI) (l)) <| eg (G.len (l.length)) <| eb z0 <| ep (rfl : (↑i : Int) = (↑i : Int)) <| ep (aB (f := eI) hx) <| eg (G.idx i [ii x]) <| ec (yx m x k) <| eb z1 <| ep (rfl : (↑i : Int) = (↑i : Int)) <| ep (aB (f := eI) hx) <| eg (G.idx i [ii x]) <| ec (Hm m x z1 (k + 1)) <| e0)
theorem Fl (l : List Int) (m : BitVec 32) (i : Nat) (x : Int) (hx : l[i]? = some x) (k : Nat) (z0 : (decide ((↑i : Int) < (↑(l.length) : Int))) = true) (z1 : (kF m x) = false) : bp (EE (k + 3)) (HH 161) NN (LB PP 161 2) 0 0 (S23 l (mi m) (↑i : Int)) (S23 l (mi m) (IntKind.wrap .i64 ((↑i : Int) + 1))) :=
  nx (ep (av (eI) (l)) <| eg (G.len (l.length)) <| eb z0 <| ep (rfl : (↑i : Int) = (↑i : Int)) <| ep (aB (f := eI) hx) <| eg (G.idx i [ii x]) <| ec (yx m x k) <| eb z1 <| e0)
def tE (l : List Int) (m : BitVec 32) (i : Nat) : St := St.mk (tc (w4 (mi m)) :: tc (C.slice 1 (List.map eI l)) :: T.hole :: T.hole :: T.hole :: tc (ii (↑i : Int)) :: tc (ii (↑i : Int)) :: tc (C.slice 1 (List.map eI l)) :: tc (ii (↑(l.length) : Int)) :: tc (bo (decide ((↑i : Int) < (↑(l.length) : Int)))) :: hs 16 []) [] []
theorem E4 (l : List Int) (m : BitVec 32) (i : Nat) (k : Nat) (z0 : (decide ((↑i : Int) < (↑(l.length) : Int))) = false) : cx (EE (k + 3)) (HH 161) NN (LB PP 161 2) (S23 l (mi m) (↑i : Int)) (Ext.exit 0) (tE l m i) :=
  ou (ep (av (eI) (l)) <| eg (G.len (l.length)) <| eb z0 <| e0)
theorem oF {x : Int} (h : inB x = true) : oW x = BitVec.twoPow 32 x.toNat ∧ x.toNat < 32 ∧ (2 : Int) ^ x.toNat = mi (oW x) := by
  unfold oW
  rw [h]
  unfold inB at h
  simp only [Bool.and_eq_true, decide_eq_true_eq] at h
  exact ⟨rfl, by omega, Al (by omega)⟩
theorem oG {x : Int} (h : inB x = false) : oW x = 0#32 := by
  unfold oW; rw [h]; rfl
theorem Dc {m : BitVec 32} {x : Int} (h : kF m x = true) : m ||| oW x = m := by
  unfold kF at h
  simp only [Bool.and_eq_true] at h
  obtain ⟨e, hlt, _⟩ := oF h.1
  rw [e]
  apply BitVec.eq_of_getLsbD_eq
  intro j hj
  simp only [BitVec.getLsbD_or, BitVec.getLsbD_twoPow, hj, decide_true, Bool.true_and]
  by_cases hji : x.toNat = j
  · rw [← hji, h.2]; simp
  · simp [hji]
theorem zA {m : BitVec 32} {x : Int} (h : kF m x = false) : m &&& ~~~oW x = m := by
  unfold kF at h
  cases hb : inB x with
  | false => rw [oG hb]; show m &&& BitVec.allOnes 32 = m; exact BitVec.and_allOnes
  | true =>
    rw [hb, Bool.true_and] at h
    obtain ⟨e, hlt, _⟩ := oF hb
    rw [e]
    apply BitVec.eq_of_getLsbD_eq
    intro j hj
    simp only [BitVec.getLsbD_and, BitVec.getLsbD_not, BitVec.getLsbD_twoPow, hj, decide_true, Bool.true_and]
    by_cases hji : x.toNat = j
    · rw [← hji, h]; simp
    · simp [hji]
theorem L21 (x : BitVec 32) (l : List Int) (hl : l.length ≤ 1000000) (k : Nat) : br (EE (k + 3)) (HH 135) NN (LB PP 135 2) (S21 l (mi x) 0) (.exit 0) (ua l (yP x l) l.length) := by
  refine eL (E := EE (k + 3)) (H := HH 135) (n := NN) (b := LB PP 135 2) (fun (m : BitVec 32) (i : Nat) => S21 l (mi m) (i : Nat)) (fun _ _ => True) l
    (fun m x => m ||| oW x) x (nv := 0) (nt := 0) (e := .exit 0) (t := fun m => ua l m l.length) rfl (by kernel_rfl) (by kernel_rfl) trivial (fun m i y hy _ => ⟨?_, trivial⟩) (fun _ => ?_) (by unfold NN; omega)
  · have hi := (List.getElem?_eq_some_iff.1 hy).1
    have hd : decide ((i : Int) < (l.length : Int)) = true := by simp; exact hi
    have e1 := w64 hi (by omega)
    cases h1 : decide (y ≥ 0) with
    | false =>
      have := FA l m i y hy k hd h1
      rw [e1] at this
      rw [oG (A0 (.inl h1)), BitVec.or_zero]
      exact this
    | true =>
      cases h2 : decide (y < 32) with
      | false =>
        have := EX l m i y hy k hd h1 h2
        rw [e1] at this
        rw [oG (A0 (.inr h2)), BitVec.or_zero]
        exact this
      | true =>
        cases hb : kF m y with
        | true =>
          have := Gd l m i y hy k hd h1 h2 hb
          rw [e1] at this
          rw [Dc hb]
          exact this
        | false =>
          have := Fp l m i y hy k hd h1 h2 hb
          have hin := AI h1 h2
          obtain ⟨eb, hlt, ep⟩ := oF hin
          unfold kF at hb
          rw [hin, Bool.true_and] at hb
          rw [e1, ← ep, xr hlt hb, ← eb] at this
          exact this
  · exact F2 l _ l.length k dge
theorem Gy (x : BitVec 32) (l : List Int) (hl : l.length ≤ 1000000) (k : Nat) : aj PP GL XX HH NN (k + 4) 135 [A.c (w4 (mi x)), A.c (C.slice 1 (is l))] [] = some ([Res.c (w4 (mi (yP x l)))], []) := by
  exact rt (eg (G.loop (Ext.exit 0) (ua l (yP x l) (l.length))) <| ep (L21 x l hl k) <| e0) rfl
theorem L23 (x : BitVec 32) (l : List Int) (hl : l.length ≤ 1000000) (k : Nat) : br (EE (k + 3)) (HH 161) NN (LB PP 161 2) (S23 l (mi x) 0) (.exit 0) (tE l (sc x l) l.length) := by
  refine eL (E := EE (k + 3)) (H := HH 161) (n := NN) (b := LB PP 161 2) (fun (m : BitVec 32) (i : Nat) => S23 l (mi m) (i : Nat)) (fun _ _ => True) l
    (fun m x => m &&& ~~~oW x) x (nv := 0) (nt := 0) (e := .exit 0) (t := fun m => tE l m l.length) rfl (by kernel_rfl) (by kernel_rfl) trivial (fun m i y hy _ => ⟨?_, trivial⟩) (fun _ => ?_) (by unfold NN; omega)
  · have hi := (List.getElem?_eq_some_iff.1 hy).1
    have hd : decide ((i : Int) < (l.length : Int)) = true := by simp; exact hi
    have e1 := w64 hi (by omega)
    cases hb : kF m y with
    | false =>
      have := Fl l m i y hy k hd hb
      rw [e1] at this
      rw [zA hb]
      exact this
    | true =>
      have := EU l m i y hy k hd hb
      unfold kF at hb
      simp only [Bool.and_eq_true] at hb
      obtain ⟨eb, hlt, ep⟩ := oF hb.1
      rw [e1, ← ep, Bi hlt hb.2, ← eb] at this
      exact this
  · exact E4 l _ l.length k dge
theorem GJ (x : BitVec 32) (l : List Int) (hl : l.length ≤ 1000000) (k : Nat) : aj PP GL XX HH NN (k + 4) 161 [A.c (w4 (mi x)), A.c (C.slice 1 (is l))] [] = some ([Res.c (w4 (mi (sc x l)))], []) := by
  exact rt (eg (G.loop (Ext.exit 0) (tE l (sc x l) (l.length))) <| ep (L23 x l hl k) <| e0) rfl
theorem Fv (x y : BitVec 32) (k : Nat) : aj PP GL XX HH NN (k + 4) 135 [.c (w4 (mi x)), .c (.slice 1 (is (kg y)))] [] = some ([.c (w4 (mi (x ||| y)))], []) := by
  have := Gy x (kg y) (Nat.le_trans (xZ y) (by omega)) k
  rwa [uo] at this
def S25 (l : List (BitVec 32)) (c0 : Int) (c1 : Int) : St := St.mk (tc (C.slice 1 (List.map eW l)) :: T.hole :: T.hole :: tc (w4 c0) :: tc (ii c1) :: hs 14 []) [] []
theorem FI (l : List (BitVec 32)) (m : BitVec 32) (i : Nat) (x : BitVec 32) (hx : l[i]? = some x) (k : Nat) (z0 : (decide ((↑i : Int) < (↑(l.length) : Int))) = true) : bp (EE (k + 5)) (HH 138) NN (LB PP 138 3) 0 0 (S25 l (mi m) (↑i : Int)) (S25 l (mi (m ||| x)) (IntKind.wrap .i64 ((↑i : Int) + 1))) :=
  nx (ep (av (eW) (l)) <| eg (G.len (l.length)) <| eb z0 <| ep (rfl : (↑i : Int) = (↑i : Int)) <| ep (aB (f := eW) hx) <| eg (G.idx i [w4 (mi x)]) <| ec (Ga x (k + 1)) <| ec (Fv m x (k + 1)) <| e0)
def ta (l : List (BitVec 32)) (m : BitVec 32) (i : Nat) : St := St.mk (tc (C.slice 1 (List.map eW l)) :: T.hole :: T.hole :: tc (w4 (mi m)) :: tc (ii (↑i : Int)) :: tc (ii (↑i : Int)) :: tc (C.slice 1 (List.map eW l)) :: tc (ii (↑(l.length) : Int)) :: tc (bo (decide ((↑i : Int) < (↑(l.length) : Int)))) :: hs 10 []) [] []
theorem FD (l : List (BitVec 32)) (m : BitVec 32) (i : Nat) (k : Nat) (z0 : (decide ((↑i : Int) < (↑(l.length) : Int))) = false) : cx (EE (k + 5)) (HH 138) NN (LB PP 138 3) (S25 l (mi m) (↑i : Int)) (Ext.exit 0) (ta l m i) :=
  ou (ep (av (eW) (l)) <| eg (G.len (l.length)) <| eb z0 <| e0)
theorem L25 (l : List (BitVec 32)) (hl : l.length ≤ 1000000) (k : Nat) : br (EE (k + 5)) (HH 138) NN (LB PP 138 3) (S25 l 0 0) (.exit 0) (ta l (orI 0#32 l) l.length) := by
  refine eL (E := EE (k + 5)) (H := HH 138) (n := NN) (b := LB PP 138 3) (fun (m : BitVec 32) (i : Nat) => S25 l (mi m) (i : Nat)) (fun _ _ => True) l
    (fun m x => m ||| x) 0#32 (nv := 0) (nt := 0) (e := .exit 0) (t := fun m => ta l m l.length) rfl (by kernel_rfl) (by kernel_rfl) trivial (fun m i y hy _ => ⟨?_, trivial⟩) (fun _ => ?_) (by unfold NN; omega)
  · have hi := (List.getElem?_eq_some_iff.1 hy).1
    have := FI l m i y hy k (by simp; exact hi)
    rw [w64 hi (by omega)] at this
    exact this
  · exact FD l _ l.length k dge
theorem Df (l : List (BitVec 32)) (hl : l.length ≤ 1000000) (k : Nat) : aj PP GL XX HH NN (k + 6) 138 [A.c (C.slice 1 (ms l))] [] = some ([Res.c (w4 (mi (orI (BitVec.ofNat 32 0) l)))], []) := by
  exact rt (eg (G.loop (Ext.exit 0) (ta l (orI (BitVec.ofNat 32 0) l) (l.length))) <| ep (L25 l hl k) <| e0) rfl
def S14 (n : Int) (c0 : Int) (c1 : Int) : St := St.mk (tc (ii n) :: T.hole :: T.hole :: tc (w4 c0) :: tc (ii c1) :: hs 16 []) [] []
theorem FR (n : Nat) (m : Int) (i : Nat) (hi : i ≤ 31) (k : Nat) (z0 : (decide ((↑i : Int) < (↑n : Int))) = true) : bp (EE (k + 2)) (HH 159) NN (LB PP 159 5) 0 0 (S14 (↑n : Int) m (↑i : Int)) (S14 (↑n : Int) (IntKind.wrap .u32 (m + 2 ^ i)) (IntKind.wrap .i64 ((↑i : Int) + 1))) :=
  nx (eb z0 <| ec (pow i hi k) <| e0)
def wM (n : Nat) (m : Int) (i : Nat) : St := St.mk (tc (ii (↑n : Int)) :: T.hole :: T.hole :: tc (w4 m) :: tc (ii (↑i : Int)) :: hs 6 (tc (ii (↑i : Int)) :: tc (ii (↑n : Int)) :: tc (bo (decide ((↑i : Int) < (↑n : Int)))) :: hs 7 [])) [] []
theorem F3 (n : Nat) (m : Int) (i : Nat) (k : Nat) (z0 : (decide ((↑i : Int) < (↑n : Int))) = false) : cx (EE (k + 2)) (HH 159) NN (LB PP 159 5) (S14 (↑n : Int) m (↑i : Int)) (Ext.exit 0) (wM n m i) :=
  ou (eb z0 <| e0)
theorem qi {i : Nat} (h : i ≤ 31) : IntKind.wrap .u32 ((2 : Int) ^ i - 1 + 2 ^ i) = 2 ^ (i + 1) - 1 := by
  have h2 := kU h
  have e : (2 : Int) ^ (i + 1) = 2 * 2 ^ i := by rw [Int.pow_succ, Int.mul_comm]
  have ew : (2 : Int) ^ i - 1 + 2 ^ i = 2 ^ (i + 1) - 1 := by omega
  rw [ew]
  unfold IntKind.wrap
  simp [IntKind.signed, IntKind.bits]
  omega
theorem L14 (n : Nat) (hn : n ≤ 32) (k : Nat) : br (EE (k + 2)) (HH 159) NN (LB PP 159 5) (S14 n 0 0) (.exit 0) (wM n (2 ^ n - 1) n) := by
  refine f7 (nv := 0) (nt := 0) (fun i => S14 n (2 ^ i - 1) (i : Nat)) n rfl (by kernel_rfl) (by kernel_rfl) (fun i hi => ?_) ?_ (by unfold NN; omega)
  · have := FR n (2 ^ i - 1) i (by omega) k (by simp; exact hi)
    rw [w64 hi (by omega), qi (by omega)] at this
    exact this
  · exact F3 n (2 ^ n - 1) n k (by simp)
theorem Gi (n : Nat) (hn : n ≤ 32) (h1 : decide ((↑n : Int) < 1) = false) (h2 : decide ((↑n : Int) > 32) = false) (k : Nat) : aj PP GL XX HH NN (k + 3) 159 [A.c (ii (↑n : Int))] [] = some ([Res.c (w4 ((2 : Int) ^ n - 1))], []) := by
  exact rt (eb3 h1 <| eb h2 <| eg (G.loop (Ext.exit 0) (wM n ((2 : Int) ^ n - 1) n)) <| ep (L14 n hn k) <| e0) rfl
theorem F0 (B : Int) (h1 : decide (B < 1) = true) (k : Nat) : aj PP GL XX HH NN (k + 3) 159 [A.c (ii B)] [] = some ([Res.c (w4 0)], []) := by
  exact rt (eb3 h1 <| et <| e0) rfl
theorem F5 (B : Int) (h1 : decide (B < 1) = false) (h2 : decide (B > 32) = true) (k : Nat) : aj PP GL XX HH NN (k + 3) 159 [A.c (ii B)] [] = some ([Res.c (w4 0)], []) := by
  exact rt (eb3 h1 <| eb h2 <| e0) rfl
theorem Ch {n : Nat} (h : n ≤ 32) : (2 : Int) ^ n - 1 = mi (BitVec.ofNat 32 (2 ^ n - 1)) := by
  simp only [mi, BitVec.toNat_ofNat]
  have h2 : 2 ^ n ≤ 2 ^ 32 := Nat.pow_le_pow_right (by omega) h
  have h3 : 0 < 2 ^ n := Nat.pow_pos (by omega)
  rw [Nat.mod_eq_of_lt (by omega)]
  have e : ((2 ^ n : Nat) : Int) = (2 : Int) ^ n := by simp
  rw [← e]
  omega
theorem Hu (B : Int) (k : Nat) : aj PP GL XX HH NN (k + 3) 159 [.c (ii B)] [] = some ([.c (w4 (mi (CE B)))], []) := by
  unfold CE
  by_cases h1 : B < 1
  · rw [if_neg (by omega)]
    exact F0 B (decide_eq_true h1) k
  · by_cases h2 : B ≤ 32
    · rw [if_pos ⟨by omega, h2⟩, ← Ch (by omega)]
      have := Gi B.toNat (by omega) (decide_eq_false (by omega)) (decide_eq_false (by omega)) k
      rwa [Int.toNat_of_nonneg (by omega)] at this
    · rw [if_neg (by omega)]
      exact F5 B (decide_eq_false h1) (decide_eq_true (by omega)) k
def S12 (x : BitVec 32) (c0 : Int) : St := St.mk (tc (w4 (mi x)) :: hs 4 (tc (ii c0) :: hs 14 [])) [] []
def wi (x : BitVec 32) (i : Nat) : St := St.mk (tc (w4 (mi x)) :: T.hole :: T.hole :: T.hole :: tc (bo false) :: tc (ii (↑i : Int)) :: hs 7 [tc (ii (↑i : Int)), tc (bo (decide ((↑i : Int) < 32))), T.hole, T.hole, tc (w4 (mi x)), tc (ii (↑i : Int)), tc (bo (kF x (↑i : Int)))]) [] []
theorem Fy (x : BitVec 32) (i : Nat) (k : Nat) (z0 : (decide ((↑i : Int) < 32)) = true) (z1 : (kF x (↑i : Int)) = true) : cx (EE (k + 3)) (HH 144) NN (LB PP 144 4) (S12 x (↑i : Int)) (Ext.ret) (wi x i) :=
  ou (eb z0 <| ec (yx x ((↑i : Int)) k) <| eb z1 <| e0)
theorem Gm (x : BitVec 32) (i : Nat) (k : Nat) (z0 : (decide ((↑i : Int) < 32)) = true) (z1 : (kF x (↑i : Int)) = false) : bp (EE (k + 3)) (HH 144) NN (LB PP 144 4) 0 0 (S12 x (↑i : Int)) (S12 x (IntKind.wrap .i64 ((↑i : Int) + 1))) :=
  nx (eb z0 <| ec (yx x ((↑i : Int)) k) <| eb z1 <| e0)
def vJ (x : BitVec 32) (i : Nat) : St := St.mk (tc (w4 (mi x)) :: hs 4 (tc (ii (↑i : Int)) :: hs 7 (tc (ii (↑i : Int)) :: tc (bo (decide ((↑i : Int) < 32))) :: hs 5 []))) [] []
theorem Gq (x : BitVec 32) (i : Nat) (k : Nat) (z0 : (decide ((↑i : Int) < 32)) = false) : cx (EE (k + 3)) (HH 144) NN (LB PP 144 4) (S12 x (↑i : Int)) (Ext.exit 0) (vJ x i) :=
  ou (eb z0 <| e0)
theorem nW {B n i y : Nat} (h : (List.range' B n)[i]? = some y) : y = B + i ∧ i < n := by
  obtain ⟨hi, rfl⟩ := List.getElem?_eq_some_iff.1 h
  simp at hi
  simp [hi]
def rA (x : BitVec 32) (B : Nat) : Bool := (List.range' B (32 - B)).all fun i => !x.getLsbD i
theorem Au (x : BitVec 32) (B : Nat) (hB : B ≤ 32) (k : Nat) (i y : Nat) (hy : (List.range' B (32 - B))[i]? = some y) (hp : x.getLsbD y = false) : bp (EE (k + 3)) (HH 144) NN (LB PP 144 4) 0 0 (S12 x ((B + i : Nat) : Int)) (S12 x ((B + (i + 1) : Nat) : Int)) := by
  obtain ⟨rfl, hi⟩ := nW hy
  have := Gm x (B + i) k (decide_eq_true (by omega)) (by rw [jP x (by omega)]; exact hp)
  rw [w64 (show B + i < 32 by omega) (by omega)] at this
  exact this
theorem Cg (x : BitVec 32) (B : Nat) (hB : B ≤ 32) (hb : rA x B = false) (k : Nat) : br (EE (k + 3)) (HH 144) NN (LB PP 144 4) (S12 x B) .ret (wi x (B + (List.range' B (32 - B)).findIdx x.getLsbD)) := by
  have hany : (List.range' B (32 - B)).any x.getLsbD = true := by
    unfold rA at hb
    rw [List.all_eq_not_any_not] at hb
    simpa using hb
  have hj := ce hany
  refine lX (E := EE (k + 3)) (n := NN) (b := LB PP 144 4) (fun i => S12 x ((B + i : Nat) : Int)) (List.range' B (32 - B)) x.getLsbD (nv := 0) (nt := 0) rfl (by kernel_rfl) (by kernel_rfl)
    (fun i y hy hp => Au x B hB k i y hy hp) (fun y hy hp => ?_) hj (by unfold NN; simp; omega)
  obtain ⟨rfl, hi⟩ := nW hy
  exact Fy x _ k (decide_eq_true (by omega)) (by rw [jP x (by omega)]; exact hp)
theorem An (x : BitVec 32) (B : Nat) (hB : B ≤ 32) (hb : rA x B = true) (k : Nat) : br (EE (k + 3)) (HH 144) NN (LB PP 144 4) (S12 x B) (.exit 0) (vJ x 32) := by
  refine jA (E := EE (k + 3)) (n := NN) (b := LB PP 144 4) (fun i => S12 x ((B + i : Nat) : Int)) (List.range' B (32 - B)) x.getLsbD (nv := 0) (nt := 0) rfl (by kernel_rfl) (by kernel_rfl)
    (fun i y hy hp => Au x B hB k i y hy hp) ?_ hb (by unfold NN; simp; omega)
  rw [List.length_range', show B + (32 - B) = 32 by omega]
  exact Gq x 32 k (by decide)
theorem B8 (x : BitVec 32) (B : Nat) (hB : B ≤ 32) (h1 : decide ((↑B : Int) < 1) = false) (h2 : decide ((↑B : Int) > 32) = false) (hb : rA x B = true) (k : Nat) : aj PP GL XX HH NN (k + 4) 144 [A.c (w4 (mi x)), A.c (ii (↑B : Int))] [] = some ([Res.c (bo true)], []) := by
  exact rt (eb3 h1 <| eb h2 <| eg (G.loop (Ext.exit 0) (vJ x 32)) <| ep (An x B hB hb k) <| e0) rfl
theorem BY (x : BitVec 32) (B : Nat) (hB : B ≤ 32) (h1 : decide ((↑B : Int) < 1) = false) (h2 : decide ((↑B : Int) > 32) = false) (hb : rA x B = false) (k : Nat) : aj PP GL XX HH NN (k + 4) 144 [A.c (w4 (mi x)), A.c (ii (↑B : Int))] [] = some ([Res.c (bo false)], []) := by
  exact rt (eb3 h1 <| eb h2 <| eg (G.loop Ext.ret (wi x (B + List.findIdx (BitVec.getLsbD x) (List.range' B (32 - B))))) <| ep (Cg x B hB hb k) <| e0) rfl
theorem BV (x : BitVec 32) (B : Int) (h1 : decide (B < 1) = true) (k : Nat) : aj PP GL XX HH NN (k + 4) 144 [A.c (w4 (mi x)), A.c (ii B)] [] = some ([Res.c (bo false)], []) := by
  exact rt (eb3 h1 <| et <| e0) rfl
theorem Cm (x : BitVec 32) (B : Int) (h1 : decide (B < 1) = false) (h2 : decide (B > 32) = true) (k : Nat) : aj PP GL XX HH NN (k + 4) 144 [A.c (w4 (mi x)), A.c (ii B)] [] = some ([Res.c (bo false)], []) := by
  exact rt (eb3 h1 <| eb h2 <| e0) rfl
theorem sJ {n j : Nat} (hn : n ≤ 32) (hj : j < 32) : (BitVec.ofNat 32 (2 ^ n - 1)).getLsbD j = decide (j < n) := by
  rw [BitVec.getLsbD_ofNat, Nat.testBit_two_pow_sub_one]
  simp [hj]
theorem yQ (x : BitVec 32) (n : Nat) (h1 : 1 ≤ n) (h2 : n ≤ 32) : rA x n = (x &&& ~~~CE n == 0#32) := by
  unfold rA CE
  rw [if_pos ⟨by omega, by omega⟩, Int.toNat_natCast, Bool.eq_iff_iff, List.all_eq_true, beq_iff_eq]
  constructor
  · intro h
    apply BitVec.eq_of_getLsbD_eq
    intro j hj
    simp only [BitVec.getLsbD_and, BitVec.getLsbD_not, BitVec.getLsbD_zero, hj, decide_true, Bool.true_and, sJ h2 hj]
    by_cases hjn : j < n
    · simp [hjn]
    · have := h j (by simp; omega)
      simp at this
      simp [this]
  · intro h j hj
    simp at hj
    have := congrArg (fun b : BitVec 32 => b.getLsbD j) h
    simp only [BitVec.getLsbD_and, BitVec.getLsbD_not, BitVec.getLsbD_zero, sJ h2 (show j < 32 by omega)] at this
    rw [decide_eq_false (by omega : ¬ j < n), decide_eq_true (by omega : j < 32)] at this
    simpa using this
theorem kW (x : BitVec 32) (B : Int) (k : Nat) : aj PP GL XX HH NN (k + 4) 144 [.c (w4 (mi x)), .c (ii B)] [] = some ([.c (bo (iS x B))], []) := by
  unfold iS
  by_cases h1 : B < 1
  · rw [decide_eq_false (by omega : ¬ 1 ≤ B), Bool.false_and, Bool.false_and]
    exact BV x B (decide_eq_true h1) k
  · by_cases h2 : B ≤ 32
    · rw [decide_eq_true (by omega : 1 ≤ B), decide_eq_true h2, Bool.true_and, Bool.true_and]
      obtain ⟨n, rfl⟩ := Int.eq_ofNat_of_zero_le (a := B) (by omega)
      rw [← yQ x n (by omega) (by omega)]
      cases hb : rA x n with
      | true => exact B8 x n (by omega) (decide_eq_false (by omega)) (decide_eq_false (by omega)) hb k
      | false => exact BY x n (by omega) (decide_eq_false (by omega)) (decide_eq_false (by omega)) hb k
    · rw [decide_eq_false h2, Bool.and_false, Bool.false_and]
      exact Cm x B (decide_eq_false h1) (decide_eq_true (by omega)) k
def S8 (x : BitVec 32) (f : Int) (c0 : Int) : St := St.mk (tc (w4 (mi x)) :: tc (ii f) :: hs 4 (tc (ii c0) :: hs 13 [])) [] []
def BE (x : BitVec 32) (f : Int) (i : Nat) : St := St.mk [tc (w4 (mi x)), tc (ii f), T.hole, T.hole, tc (ii (↑i : Int)), tc (bo true), tc (ii (↑i : Int)), tc (ii (↑i : Int)), tc (bo (decide ((↑i : Int) < 32))), T.hole, T.hole, tc (ii (↑i : Int)), tc (ii f), tc (bo (decide ((↑i : Int) ≥ f))), tc (bo (decide ((↑i : Int) ≥ f))), tc (w4 (mi x)), tc (ii (↑i : Int)), tc (bo (kF x (↑i : Int))), tc (bo (kF x (↑i : Int))), tc (ii (↑i : Int))] [] []
theorem G6 (x : BitVec 32) (f : Int) (i : Nat) (k : Nat) (z0 : (decide ((↑i : Int) < 32)) = true) (z1 : (decide ((↑i : Int) ≥ f)) = true) (z2 : (kF x (↑i : Int)) = true) : cx (EE (k + 3)) (HH 139) NN (LB PP 139 2) (S8 x f (↑i : Int)) (Ext.ret) (BE x f i) :=
  ou (eb z0 <| eb3 z1 <| ec (yx x ((↑i : Int)) k) <| eb z1 <| eb z2 <| e0)
theorem GP (x : BitVec 32) (f : Int) (i : Nat) (k : Nat) (z0 : (decide ((↑i : Int) < 32)) = true) (z1 : (decide ((↑i : Int) ≥ f)) = true) (z2 : (kF x (↑i : Int)) = false) : bp (EE (k + 3)) (HH 139) NN (LB PP 139 2) 0 0 (S8 x f (↑i : Int)) (S8 x f (IntKind.wrap .i64 ((↑i : Int) + 1))) :=
  nx (eb z0 <| eb3 z1 <| ec (yx x ((↑i : Int)) k) <| eb z1 <| eb z2 <| e0)
theorem Hk (x : BitVec 32) (f : Int) (i : Nat) (k : Nat) (z0 : (decide ((↑i : Int) < 32)) = true) (z1 : (decide ((↑i : Int) ≥ f)) = false) : bp (EE (k + 3)) (HH 139) NN (LB PP 139 2) 0 0 (S8 x f (↑i : Int)) (S8 x f (IntKind.wrap .i64 ((↑i : Int) + 1))) :=
  nx (eb z0 <| eb4 z1 <| ef <| e0)
def BB (x : BitVec 32) (f : Int) (i : Nat) : St := St.mk (tc (w4 (mi x)) :: tc (ii f) :: hs 4 (tc (ii (↑i : Int)) :: tc (ii (↑i : Int)) :: tc (bo (decide ((↑i : Int) < 32))) :: hs 11 [])) [] []
theorem GQ (x : BitVec 32) (f : Int) (i : Nat) (k : Nat) (z0 : (decide ((↑i : Int) < 32)) = false) : cx (EE (k + 3)) (HH 139) NN (LB PP 139 2) (S8 x f (↑i : Int)) (Ext.exit 0) (BB x f i) :=
  ou (eb z0 <| e0)
def pN (x : BitVec 32) (f : Int) (i : Nat) : Bool := decide ((i : Int) ≥ f) && x.getLsbD i
theorem ri {n i y : Nat} (h : (List.range n)[i]? = some y) : y = i ∧ i < n := by
  obtain ⟨hi, rfl⟩ := List.getElem?_eq_some_iff.1 h
  simp at hi
  simp [hi]
theorem Ei (x : BitVec 32) (f : Int) (k : Nat) (i y : Nat) (hy : (List.range 32)[i]? = some y) (hp : pN x f y = false) : bp (EE (k + 3)) (HH 139) NN (LB PP 139 2) 0 0 (S8 x f (i : Nat)) (S8 x f ((i + 1 : Nat) : Int)) := by
  obtain ⟨rfl, hi⟩ := ri hy
  have e := w64 hi (show 32 < 9223372036854775808 by omega)
  unfold pN at hp
  cases h1 : decide ((y : Int) ≥ f) with
  | false =>
    have := Hk x f y k (decide_eq_true (by omega)) h1
    rwa [e] at this
  | true =>
    rw [h1, Bool.true_and] at hp
    have := GP x f y k (decide_eq_true (by omega)) h1 (by rw [jP x hi]; exact hp)
    rwa [e] at this
theorem Er (x : BitVec 32) (f : Int) (hb : (List.range 32).any (pN x f) = true) (k : Nat) : br (EE (k + 3)) (HH 139) NN (LB PP 139 2) (S8 x f 0) .ret (BE x f ((List.range 32).findIdx (pN x f))) := by
  refine lX (E := EE (k + 3)) (n := NN) (b := LB PP 139 2) (fun i => S8 x f (i : Nat)) (List.range 32) (pN x f) (nv := 0) (nt := 0) rfl (by kernel_rfl) (by kernel_rfl)
    (fun i y hy hp => Ei x f k i y hy hp) (fun y hy hp => ?_) (ce hb) (by rw [List.length_range]; unfold NN; omega)
  obtain ⟨e, hi⟩ := ri hy
  rw [e] at hp
  unfold pN at hp
  simp only [Bool.and_eq_true] at hp
  exact G6 x f _ k (decide_eq_true (by omega)) hp.1 (by rw [jP x hi]; exact hp.2)
theorem BC (x : BitVec 32) (f : Int) (hb : (List.range 32).any (pN x f) = false) (k : Nat) : br (EE (k + 3)) (HH 139) NN (LB PP 139 2) (S8 x f 0) (.exit 0) (BB x f 32) := by
  refine jA (E := EE (k + 3)) (n := NN) (b := LB PP 139 2) (fun i => S8 x f (i : Nat)) (List.range 32) (pN x f) (nv := 0) (nt := 0) rfl (by kernel_rfl) (by kernel_rfl)
    (fun i y hy hp => Ei x f k i y hy hp) ?_ (gg hb) (by rw [List.length_range]; unfold NN; omega)
  rw [List.length_range]
  exact GQ x f 32 k (by decide)
theorem CT (x : BitVec 32) (f : Int) (hb : List.any (List.range 32) (pN x f) = true) (k : Nat) : aj PP GL XX HH NN (k + 4) 139 [A.c (w4 (mi x)), A.c (ii f)] [] = some ([Res.c (ii (↑(List.findIdx (pN x f) (List.range 32)) : Int)), Res.c (bo true)], []) := by
  exact ro (eg (G.loop Ext.ret (BE x f (List.findIdx (pN x f) (List.range 32)))) <| ep (Er x f hb k) <| e0)
theorem Dn (x : BitVec 32) (f : Int) (hb : List.any (List.range 32) (pN x f) = false) (k : Nat) : aj PP GL XX HH NN (k + 4) 139 [A.c (w4 (mi x)), A.c (ii f)] [] = some ([Res.c (ii 0), Res.c (bo false)], []) := by
  exact ro (eg (G.loop (Ext.exit 0) (BB x f 32)) <| ep (BC x f hb k) <| e0)
theorem ze (x : BitVec 32) (f : Int) : jG x f = if (List.range 32).any (pN x f) then some (((List.range 32).findIdx (pN x f) : Nat) : Int) else none := by
  have e : jG x f = ((List.range 32).find? (pN x f)).map fun (i : Nat) => (i : Int) := by
    unfold jG kg xH
    rw [List.find?_map, List.find?_filter]
    congr 2
    funext i
    unfold pN
    simp only [Function.comp, Bool.decide_and, Bool.decide_eq_true, ge_iff_le]
    rw [Bool.and_comm]
  rw [e]
  cases hb : (List.range 32).any (pN x f) with
  | true =>
    have hj := ce hb
    rw [List.find?_eq_getElem?_findIdx, List.getElem?_eq_getElem hj]
    simp
  | false =>
    have h := gg hb
    rw [List.find?_eq_none.2 (fun i hi => by have := List.all_eq_true.1 h i hi; simpa using this)]
    rfl
theorem Br (x : BitVec 32) (f : Int) (k : Nat) : aj PP GL XX HH NN (k + 4) 139 [.c (w4 (mi x)), .c (ii f)] [] = some ([.c (ii ((jG x f).getD 0)), .c (bo (jG x f).isSome)], []) := by
  rw [ze]
  cases hb : (List.range 32).any (pN x f) with
  | true => exact CT x f hb k
  | false => exact Dn x f hb k
end Go.Dm
namespace Go.Dm
open Go
def Sho (d : Dk) (j : Nat) (c0 : ByteArray) (c1 : Int) : St := St.mk (T.hole :: tc (ii (↑j : Int)) :: T.k (K.v (V.ptr 0 0)) :: T.hole :: T.hole :: tc (st c0) :: tc (ii c1) :: Dm.hs 27 []) [[V.c (C.slice 1 (List.map eS d.sure)), V.c (C.slice 2 (List.map Wr.cs d.cache)), V.c (ii d.fuse), V.c (bo d.dead)]] []
theorem E1 (d : Dk) (j : Nat) (s : ByteArray) (i : Nat) (w : Wr) (hw : d.cache[i]? = some w) (k : Nat) (z0 : (decide ((↑i : Int) < (↑(d.cache.length) : Int))) = true) (z1 : (Wr.sec w == (↑j : Int)) = true) : bp (EE (k + 1)) (HH 155) NN (LB PP 155 3) 1 0 (Sho d j s (↑i : Int)) (Sho d j w.data (IntKind.wrap .i64 ((↑i : Int) + 1))) :=
  nx (ep (av (Wr.cs) d.cache) <| eg (G.len (d.cache.length)) <| eb z0 <| ep (rfl : (↑i : Int) = (↑i : Int)) <| ep (aB (f := Wr.cs) hw) <| eg (G.idx i [ii w.sec, st w.data]) <| eb z1 <| ep (rfl : (↑i : Int) = (↑i : Int)) <| ep (aB (f := Wr.cs) hw) <| eg (G.idx i [ii w.sec, st w.data]) <| e0)
theorem FL (d : Dk) (j : Nat) (s : ByteArray) (i : Nat) (w : Wr) (hw : d.cache[i]? = some w) (k : Nat) (z0 : (decide ((↑i : Int) < (↑(d.cache.length) : Int))) = true) (z1 : (Wr.sec w == (↑j : Int)) = false) : bp (EE (k + 1)) (HH 155) NN (LB PP 155 3) 1 0 (Sho d j s (↑i : Int)) (Sho d j s (IntKind.wrap .i64 ((↑i : Int) + 1))) :=
  nx (ep (av (Wr.cs) d.cache) <| eg (G.len (d.cache.length)) <| eb z0 <| ep (rfl : (↑i : Int) = (↑i : Int)) <| ep (aB (f := Wr.cs) hw) <| eg (G.idx i [ii w.sec, st w.data]) <| eb z1 <| e0)
def sW (d : Dk) (j : Nat) (s : ByteArray) (i : Nat) : St := St.mk (T.hole :: tc (ii (↑j : Int)) :: T.k (K.v (V.ptr 0 0)) :: T.hole :: T.hole :: tc (st s) :: tc (ii (↑i : Int)) :: hs 5 (tc (ii (↑i : Int)) :: T.k (K.v (V.ptr 0 1)) :: tc (C.slice 2 (List.map Wr.cs d.cache)) :: tc (ii (↑(d.cache.length) : Int)) :: tc (bo (decide ((↑i : Int) < (↑(d.cache.length) : Int)))) :: hs 17 [])) [[V.c (C.slice 1 (List.map eS d.sure)), V.c (C.slice 2 (List.map Wr.cs d.cache)), V.c (ii d.fuse), V.c (bo d.dead)]] []
theorem FH (d : Dk) (j : Nat) (s : ByteArray) (i : Nat) (k : Nat) (z0 : (decide ((↑i : Int) < (↑(d.cache.length) : Int))) = false) : cx (EE (k + 1)) (HH 155) NN (LB PP 155 3) (Sho d j s (↑i : Int)) (Ext.exit 0) (sW d j s i) :=
  ou (ep (av (Wr.cs) d.cache) <| eg (G.len (d.cache.length)) <| eb z0 <| e0)
theorem Lho (d : Dk) (j : Nat) (s : ByteArray) (hc : d.cache.length ≤ 1000000) (k : Nat) : br (EE (k + 1)) (HH 155) NN (LB PP 155 3) (Sho d j s 0) (.exit 0) (sW d j (d.cache.foldl (fun s w => bif w.sec == (j : Int) then w.data else s) s) d.cache.length) := by
  refine (CM (E := fun k => EE (k + 1)) (fun s i => Sho d j s (i : Nat)) (fun _ _ => True) d.cache (fun s w => bif w.sec == (j : Int) then w.data else s) s (fun s => sW d j s d.cache.length) (nv := 1) (nt := 0) (by kernel_rfl) (by kernel_rfl) trivial (fun _ _ _ _ _ => trivial) (fun k s i w hw _ => ?_) (fun k _ => FH d j _ _ k dge) (by unfold NN; omega)).2 k
  cases hq : w.sec == (j : Int) with
  | true =>
    have := E1 d j s i w hw k (dlt hw) hq
    rwa [sj hw (by omega)] at this
  | false =>
    have := FL d j s i w hw k (dlt hw) hq
    rwa [sj hw (by omega)] at this
theorem DS (d : Dk) (j : Nat) (s : ByteArray) (hs : d.sure[j]? = some s) (hc : d.cache.length ≤ 1000000) (k : Nat) : aj PP GL XX HH NN (k + 2) 155 [A.agg (Dk.cs d), A.c (ii (↑j : Int))] [] = some ([Res.c (st (List.foldl (fun (s : ByteArray) (w : Wr) => bif Wr.sec w == (↑j : Int) then Wr.data w else s) s d.cache))], []) := by
  exact rt (ep (rfl : (↑j : Int) = (↑j : Int)) <| ep (aB (f := eS) hs) <| eg (G.idx j [st s]) <| eg (G.loop (Ext.exit 0) (sW d j (List.foldl (fun (s : ByteArray) (w : Wr) => bif Wr.sec w == (↑j : Int) then Wr.data w else s) s d.cache) (d.cache.length))) <| ep (Lho d j s hc k) <| e0) rfl
theorem Av (d : Dk) (j : Nat) (hj : j < d.sure.length) (hc : d.cache.length ≤ 1000000) (k : Nat) : aj PP GL XX HH NN (k + 2) 155 [.agg d.cs, .c (ii (j : Int))] [] = some ([.c (st (dj d (j : Int)))], []) := by
  have hs : d.sure[j]? = some d.sure[j] := List.getElem?_eq_getElem hj
  have := DS d j d.sure[j] hs hc k
  unfold dj
  rw [List.getD_eq_getElem?_getD, Int.toNat_natCast, hs]
  exact this
theorem A9 (d : Dk) (i : Int) (h1 : decide (i < 0) = false) (h2 : decide (i ≥ (d.sure.length : Int)) = false) (hc : d.cache.length ≤ 1000000) (k : Nat) : aj PP GL XX HH NN (k + 2) 155 [.agg d.cs, .c (ii i)] [] = some ([.c (st (dj d i))], []) := by
  have h3 := of_decide_eq_false h1
  have h4 := of_decide_eq_false h2
  have := Av d i.toNat (by omega) hc k
  rwa [Int.toNat_of_nonneg (by omega)] at this
theorem lE (d : Dk) (i : Int) (hc : d.cache.length ≤ 1000000) (k : Nat) : aj PP GL XX HH NN (k + 3) 133 [A.agg (Dk.cs d), A.c (ii i)] [] = some ([Res.c (st (bd d i).1), Res.c (ii (bd d i).2)], []) := by
  rcases bft d.dead with z0 | z0
  · exact rt (eb z0 <| e0) (by simp only [bd, z0, vq] <;> rfl)
  · rcases bft (decide (i < 0)) with z1 | z1
    · exact rt (eb z0 <| eb6 z1 <| et <| e0) (by simp only [bd, z0, z1, vq] <;> rfl)
    · rcases bft (decide (i ≥ (↑(d.sure.length) : Int))) with z2 | z2
      · exact rt (eb z0 <| eb4 z1 <| ep (av (eS) d.sure) <| eg (G.len (d.sure.length)) <| eb2 z1 <| eb z2 <| e0) (by simp only [bd, z0, z1, z2, vq] <;> rfl)
      · exact rt (eb z0 <| eb4 z1 <| ep (av (eS) d.sure) <| eg (G.len (d.sure.length)) <| eb2 z1 <| eb z2 <| ec (A9 d i z1 z2 hc k) <| e0) (by simp only [bd, z0, z1, z2, vq] <;> rfl)
theorem zQ (d : Dk) (k : Nat) : aj PP GL XX HH NN (k + 1) 164 [A.agg (Dk.cs d)] [] = some ([Res.agg (Dk.cs (aT d))], []) := by
  rcases bft (Dk.fuse d == 1) with z0 | z0
  · rcases bft (decide (Dk.fuse d > 0)) with z1 | z1
    · exact rt (eb z0 <| eb z1 <| e0) (by simp only [aT, z0, z1, vq] <;> rfl)
    · exact rt (eb z0 <| eb z1 <| e0) (by simp only [aT, z0, z1, vq] <;> rfl)
  · rcases bft (decide (Dk.fuse d > 0)) with z1 | z1
    · exact rt (eb z0 <| eb z1 <| e0) (by simp only [aT, z0, z1, vq] <;> rfl)
    · exact rt (eb z0 <| eb z1 <| e0) (by simp only [aT, z0, z1, vq] <;> rfl)
theorem w7 (d : Dk) : (aT d).sure = d.sure := rfl
theorem iM (d : Dk) : (aT d).cache = d.cache := rfl
theorem l7 (d : Dk) (i : Int) (data : ByteArray) (hc : List.length (aT d).cache ≤ 1000000) (k : Nat) : aj PP GL XX HH NN (k + 2) 153 [A.agg (Dk.cs d), A.c (ii i), A.c (st data)] [] = some ([Res.agg (Dk.cs (bm d i data).1), Res.c (ii (bm d i data).2)], []) := by
  rcases bft d.dead with z0 | z0
  · exact rt (eb z0 <| e0) (rs := [Res.agg (Dk.cs d), Res.c (ii 6)]) (by simp only [bm, z0, vq] <;> rfl)
  · rcases bft (decide (i < 0)) with z1 | z1
    · exact rt (eb z0 <| eb6 z1 <| et <| e0) (rs := [Res.agg (Dk.cs d), Res.c (ii 4)]) (by simp only [bm, z0, z1, vq] <;> rfl)
    · rcases bft (decide (i ≥ (↑(d.sure.length) : Int))) with z2 | z2
      · exact rt (eb z0 <| eb4 z1 <| ep (av (eS) d.sure) <| eg (G.len (d.sure.length)) <| eb2 z1 <| eb z2 <| e0) (rs := [Res.agg (Dk.cs d), Res.c (ii 4)]) (by simp only [bm, z0, z1, z2, vq] <;> rfl)
      · rcases bft (decide ((↑(data.size) : Int) > 64)) with z3 | z3
        · exact rt (eb z0 <| eb4 z1 <| ep (av (eS) d.sure) <| eg (G.len (d.sure.length)) <| eb2 z1 <| eb z2 <| eb z3 <| e0) (rs := [Res.agg (Dk.cs d), Res.c (ii 5)]) (by simp only [bm, z0, z1, z2, z3, vq] <;> rfl)
        · rcases bft (aT d).dead with z4 | z4
          · exact rt (eb z0 <| eb4 z1 <| ep (av (eS) d.sure) <| eg (G.len (d.sure.length)) <| eb2 z1 <| eb z2 <| eb z3 <| ec (zQ d k) <| eb z4 <| e0) (rs := [Res.agg (Dk.cs (aT d)), Res.c (ii 6)]) (by simp only [bm, z0, z1, z2, z3, z4, vq] <;> rfl)
          · exact rt (eb z0 <| eb4 z1 <| ep (av (eS) d.sure) <| eg (G.len (d.sure.length)) <| eb2 z1 <| eb z2 <| eb z3 <| ec (zQ d k) <| eb z4 <| ep (bQ (List.map Wr.cs (aT d).cache)) <| ep (aP (Wr.cs) (l := Dk.cache (aT d)) (n := 1073741824) (by omega)) <| eg (G.app (List.map Wr.cs (aT d).cache)) <| ep (bD (Wr.cs) (aT d).cache ([(Wr.mk i data)])) <| ep (aP (Wr.cs) (l := Dk.cache (aT d) ++ [(Wr.mk i data)]) (n := 1073741824) (by simp only [vr]; omega)) <| ep (Eq.refl (List.length (List.map Wr.cs (aT d).cache))) <| eg (G.app (List.map Wr.cs (Dk.cache (aT d) ++ [(Wr.mk i data)]))) <| e0) (rs := [Res.agg (Dk.cs ({ aT d with cache := Dk.cache (aT d) ++ [(Wr.mk i data)] } : Dk)), Res.c (ii 0)]) (by simp only [bm, z0, z1, z2, z3, z4, vq] <;> rfl)
def Sfl (d : Dk) (c0 : List (List C)) (c1 : Int) : St := St.mk (T.hole :: T.k (K.v (V.ptr 0 0)) :: T.k (K.v (V.ptr 1 0)) :: T.hole :: T.k (K.v (V.own 1 c0 (Tk.tok 0))) :: tc (ii c1) :: hs 25 []) [[V.c (C.slice 1 (List.map eS (aT d).sure)), V.c (C.slice 2 (List.map Wr.cs (aT d).cache)), V.c (ii (aT d).fuse), V.c (bo (aT d).dead)], [V.own 1 [] Tk.exact, V.own 2 [] Tk.exact, V.c (ii 0), V.c (bo false)]] [c0.length]
theorem ED (d : Dk) (l : List ByteArray) (i : Nat) (hi : i < List.length (aT d).sure) (hc : List.length (aT d).cache ≤ 1000000) (hl : l.length ≤ 1000000) (k : Nat) (z0 : (decide ((↑i : Int) < (↑(List.length (aT d).sure) : Int))) = true) : bp (EE (k + 2)) (HH 154) NN (LB PP 154 8) 2 1 (Sfl d (List.map eS l) (↑i : Int)) (Sfl d (List.map eS (l ++ [dj (aT d) (↑i : Int)])) (IntKind.wrap .i64 ((↑i : Int) + 1))) :=
  nx (ep (av (eS) (aT d).sure) <| eg (G.len (List.length (aT d).sure)) <| eb z0 <| ec (Av (aT d) i hi hc k) <| ep (bD (eS) (l) ([dj (aT d) (↑i : Int)])) <| ep (aP (eS) (l := l ++ [dj (aT d) (↑i : Int)]) (n := 1073741824) (by simp only [vr]; omega)) <| ep (Eq.refl (List.length (List.map eS l))) <| eg (G.app (List.map eS (l ++ [dj (aT d) (↑i : Int)]))) <| e0)
def wn (d : Dk) (l : List ByteArray) (i : Nat) : St := St.mk (T.hole :: T.k (K.v (V.ptr 0 0)) :: T.k (K.v (V.ptr 1 0)) :: T.hole :: T.k (K.v (V.own 1 (List.map eS l) (Tk.tok 0))) :: tc (ii (↑i : Int)) :: hs 8 (tc (ii (↑i : Int)) :: T.k (K.v (V.ptr 0 0)) :: tc (C.slice 1 (List.map eS (aT d).sure)) :: tc (ii (↑(List.length (aT d).sure) : Int)) :: tc (bo (decide ((↑i : Int) < (↑(List.length (aT d).sure) : Int)))) :: hs 12 [])) [[V.c (C.slice 1 (List.map eS (aT d).sure)), V.c (C.slice 2 (List.map Wr.cs (aT d).cache)), V.c (ii (aT d).fuse), V.c (bo (aT d).dead)], [V.own 1 [] Tk.exact, V.own 2 [] Tk.exact, V.c (ii 0), V.c (bo false)]] [List.length (List.map eS l)]
theorem FM (d : Dk) (l : List ByteArray) (i : Nat) (k : Nat) (z0 : (decide ((↑i : Int) < (↑(List.length (aT d).sure) : Int))) = false) : cx (EE (k + 2)) (HH 154) NN (LB PP 154 8) (Sfl d (List.map eS l) (↑i : Int)) (Ext.exit 0) (wn d l i) :=
  ou (ep (av (eS) (aT d).sure) <| eg (G.len (List.length (aT d).sure)) <| eb z0 <| e0)
theorem Lfl (d : Dk) (hs : d.sure.length ≤ 1000000) (hc : d.cache.length ≤ 1000000) (k : Nat) : br (EE (k + 2)) (HH 154) NN (LB PP 154 8) (Sfl d [] 0) (.exit 0) (wn d (ju (aT d)) d.sure.length) := by
  refine f7 (E := EE (k + 2)) (fun i => Sfl d (((List.range i).map fun (i : Nat) => dj (aT d) (i : Int)).map eS) (i : Nat)) d.sure.length (nv := 2) (nt := 1) rfl (by kernel_rfl) (by kernel_rfl) (fun i hi => ?_) (FM d _ d.sure.length k dge) (by unfold NN; omega)
  have hd : decide ((i : Int) < ((aT d).sure.length : Int)) = true := decide_eq_true (by rw [w7]; omega)
  have := ED d ((List.range i).map fun (i : Nat) => dj (aT d) (i : Int)) i hi hc (by simp; omega) k hd
  rw [w64 hi (by omega)] at this
  rw [List.range_succ, List.map_append, List.map_cons, List.map_nil]
  exact this
theorem wV (d : Dk) (hs : d.sure.length ≤ 1000000) (hc : d.cache.length ≤ 1000000) (k : Nat) : aj PP GL XX HH NN (k + 4) 154 [A.agg (Dk.cs d)] [] = some ([Res.agg (Dk.cs (dT d).1), Res.c (ii (dT d).2)], []) := by
  rcases bft d.dead with z0 | z0
  · exact rt (eb z0 <| e0) (rs := [Res.agg (Dk.cs d), Res.c (ii 6)]) (by simp only [dT, z0, vq] <;> rfl)
  · rcases bft (aT d).dead with z1 | z1
    · exact rt (eb z0 <| ec (zQ d (k + 2)) <| eb z1 <| e0) (rs := [Res.agg (Dk.cs (aT d)), Res.c (ii 6)]) (by simp only [dT, z0, z1, vq] <;> rfl)
    · exact rt (eb z0 <| ec (zQ d (k + 2)) <| eb z1 <| eg (G.loop (Ext.exit 0) (wn d (ju (aT d)) (d.sure.length))) <| ep (Lfl d hs hc (k + 1)) <| e0) (rs := [Res.agg (Dk.cs ({ aT d with sure := ju (aT d), cache := [] } : Dk)), Res.c (ii 0)]) (by simp only [dT, z0, z1, vq] <;> rfl)
theorem GF (d : Dk) (n : Int) (k : Nat) : aj PP GL XX HH NN (k + 1) 67 [A.agg (Dk.cs d), A.c (ii n)] [] = some ([Res.agg (Dk.cs (CL d n))], []) := by
  exact rt (e0) (by simp only [CL, vq] <;> rfl)
theorem Ed (d : Dk) (k : Nat) : aj PP GL XX HH NN (k + 1) 95 [A.agg (Dk.cs d)] [] = some ([Res.agg (Dk.cs (pO d))], []) := by
  exact rt (e0) (by simp only [pO, vq] <;> rfl)
end Go.Dm
namespace Go.Dm
open Go
theorem bj (v : Ve) (g : Int) (k : Nat) : aj PP GL XX HH NN (k + 1) 46 [A.agg (Ve.cs v), A.c (u g)] [] = some ([Res.c (ii (aL v g))], []) := by
  rcases bft (g == 0) with z0 | z0
  · exact rt (eg (G.un) <| et <| en6 z0 <| ef <| et <| en6 z0 <| ef <| et <| en6 z0 <| ef <| et <| en6 z0 <| ef2 <| e0) (by simp only [aL, z0, vq] <;> rfl)
  · rcases bft (Ve.cur v == g) with z1 | z1
    · exact rt (eg (G.un) <| et <| en2 z0 <| ep (rfl : (0 : Int) = 0) <| eg (G.at 0) <| en4 z0 <| eb z1 <| e0) (by simp only [aL, z0, z1, vq] <;> rfl)
    · rcases bft (Ve.bit v == g) with z2 | z2
      · exact rt (eg (G.un) <| et <| en2 z0 <| ep (rfl : (0 : Int) = 0) <| eg (G.at 0) <| en4 z0 <| eb z1 <| et <| en2 z0 <| ep (rfl : (1 : Int) = 1) <| eg (G.at 1) <| en4 z0 <| eb z2 <| e0) (by simp only [aL, z0, z1, z2, vq] <;> rfl)
      · rcases bft (Ve.o0 v == g) with z3 | z3
        · exact rt (eg (G.un) <| et <| en2 z0 <| ep (rfl : (0 : Int) = 0) <| eg (G.at 0) <| en4 z0 <| eb z1 <| et <| en2 z0 <| ep (rfl : (1 : Int) = 1) <| eg (G.at 1) <| en4 z0 <| eb z2 <| et <| en2 z0 <| ep (rfl : (2 : Int) = 2) <| eg (G.at 2) <| en4 z0 <| eb z3 <| e0) (by simp only [aL, z0, z1, z2, z3, vq] <;> rfl)
        · rcases bft (Ve.o1 v == g) with z4 | z4
          · exact rt (eg (G.un) <| et <| en2 z0 <| ep (rfl : (0 : Int) = 0) <| eg (G.at 0) <| en4 z0 <| eb z1 <| et <| en2 z0 <| ep (rfl : (1 : Int) = 1) <| eg (G.at 1) <| en4 z0 <| eb z2 <| et <| en2 z0 <| ep (rfl : (2 : Int) = 2) <| eg (G.at 2) <| en4 z0 <| eb z3 <| et <| en2 z0 <| ep (rfl : (3 : Int) = 3) <| eg (G.at 3) <| en4 z0 <| eb z4 <| e0) (by simp only [aL, z0, z1, z2, z3, z4, vq] <;> rfl)
          · exact rt (eg (G.un) <| et <| en2 z0 <| ep (rfl : (0 : Int) = 0) <| eg (G.at 0) <| en4 z0 <| eb z1 <| et <| en2 z0 <| ep (rfl : (1 : Int) = 1) <| eg (G.at 1) <| en4 z0 <| eb z2 <| et <| en2 z0 <| ep (rfl : (2 : Int) = 2) <| eg (G.at 2) <| en4 z0 <| eb z3 <| et <| en2 z0 <| ep (rfl : (3 : Int) = 3) <| eg (G.at 3) <| en4 z0 <| eb z4 <| ef <| e0) (by simp only [aL, z0, z1, z2, z3, z4, vq] <;> rfl)
theorem C8 (v : Ve) (g : Int) (k : Nat) : aj PP GL XX HH NN (k + 1) 108 [A.agg (Ve.cs v), A.c (u g)] [] = some ([Res.agg (Ve.cs (bif g == 0 then (Ve.mk 0 0 0 0) else dB v g)), Res.c (ii (bif g == 0 then 14 else 0))], []) := by
  rcases bft (g == 0) with z0 | z0
  · exact rt (eb z0 <| e0) (by simp only [dB, z0, vq] <;> rfl)
  · rcases bft (Ve.bit v == 0) with z1 | z1
    · exact rt (eb z0 <| eb z1 <| e0) (by simp only [dB, z0, z1, vq] <;> rfl)
    · exact rt (eb z0 <| eb z1 <| e0) (by simp only [dB, z0, z1, vq] <;> rfl)
theorem kR (v : Ve) (k : Nat) : aj PP GL XX HH NN (k + 1) 113 [A.agg (Ve.cs v)] [] = some ([Res.agg (Ve.cs (bF v))], []) := by
  rcases bft (Ve.bit v == 0) with z0 | z0
  · exact rt (eb z0 <| e0) (by simp only [bF, z0, vq] <;> rfl)
  · exact rt (eb z0 <| e0) (by simp only [bF, z0, vq] <;> rfl)
theorem CJ (v : Ve) (g : Int) (k : Nat) : aj PP GL XX HH NN (k + 1) 115 [A.agg (Ve.cs v), A.c (u g)] [] = some ([Res.agg (Ve.cs (qD v g))], []) := by
  exact rt (e0) (by simp only [qD, vq] <;> rfl)
theorem j7 (s : Su) (k : Nat) : aj PP GL XX HH NN (k + 1) 127 [A.agg (Su.cs s)] [] = some ([Res.c (bo (cH s))], []) := by
  rcases bft (decide (Su.blocks s ≥ 1)) with z0 | z0
  · rcases bft (decide (Su.blocks s ≤ 32)) with z1 | z1
    · exact rt (eb4 z0 <| eb5 z1 <| e0) (by simp only [cH, z0, z1, vq] <;> rfl)
    · exact rt (eb4 z0 <| eb5 z1 <| e0) (by simp only [cH, z0, z1, vq] <;> rfl)
  · exact rt (eb4 z0 <| ef5 <| e0) (by simp only [cH, z0, vq] <;> rfl)
theorem ow (s : Su) (k : Nat) : aj PP GL XX HH NN (k + 3) 128 [A.agg (Su.cs s)] [] = some ([Res.c (st (dE s))], []) := by
  exact rt (ec (Es s.inc s.pri s.dis (k + 1)) <| ep (rfl : some ([IntKind.wrap .u8 s.blocks, fl s.inc (1 : Int) + fl s.pri (2 : Int) + fl s.dis (4 : Int)]) = some ([IntKind.wrap .u8 s.blocks, fl s.inc (1 : Int) + fl s.pri (2 : Int) + fl s.dis (4 : Int)])) <| eg (G.str [IntKind.wrap .u8 s.blocks, fl s.inc 1 + fl s.pri 2 + fl s.dis 4]) <| ep (show ByteArray.size (ByteArray.mk #[(71 : UInt8), (77 : UInt8), (1 : UInt8)]) + ByteArray.size (cw [IntKind.wrap .u8 s.blocks, fl s.inc (1 : Int) + fl s.pri (2 : Int) + fl s.dis (4 : Int)]) ≤ 9223372036854775807 from by first | omega | (simp only [ByteArray.size_append, aq, aJ, aQ, List.size_toArray, ap, az, ar, al, ak, List.length_cons, List.length_nil] at *; omega)) <| eg (G.ok) <| ec (lF s.v.cur k) <| ep (show ByteArray.size (ByteArray.mk #[(71 : UInt8), (77 : UInt8), (1 : UInt8)] ++ cw [IntKind.wrap .u8 s.blocks, fl s.inc (1 : Int) + fl s.pri (2 : Int) + fl s.dis (4 : Int)]) + ByteArray.size (ea s.v.cur) ≤ 9223372036854775807 from by first | omega | (simp only [ByteArray.size_append, aq, aJ, aQ, List.size_toArray, ap, az, ar, al, ak, List.length_cons, List.length_nil] at *; omega)) <| eg (G.ok) <| ec (lF s.v.bit k) <| ep (show ByteArray.size (ByteArray.mk #[(71 : UInt8), (77 : UInt8), (1 : UInt8)] ++ cw [IntKind.wrap .u8 s.blocks, fl s.inc (1 : Int) + fl s.pri (2 : Int) + fl s.dis (4 : Int)] ++ ea s.v.cur) + ByteArray.size (ea s.v.bit) ≤ 9223372036854775807 from by first | omega | (simp only [ByteArray.size_append, aq, aJ, aQ, List.size_toArray, ap, az, ar, al, ak, List.length_cons, List.length_nil] at *; omega)) <| eg (G.ok) <| ec (lF s.v.o0 k) <| ep (show ByteArray.size (ByteArray.mk #[(71 : UInt8), (77 : UInt8), (1 : UInt8)] ++ cw [IntKind.wrap .u8 s.blocks, fl s.inc (1 : Int) + fl s.pri (2 : Int) + fl s.dis (4 : Int)] ++ ea s.v.cur ++ ea s.v.bit) + ByteArray.size (ea s.v.o0) ≤ 9223372036854775807 from by first | omega | (simp only [ByteArray.size_append, aq, aJ, aQ, List.size_toArray, ap, az, ar, al, ak, List.length_cons, List.length_nil] at *; omega)) <| eg (G.ok) <| ec (lF s.v.o1 k) <| ep (show ByteArray.size (ByteArray.mk #[(71 : UInt8), (77 : UInt8), (1 : UInt8)] ++ cw [IntKind.wrap .u8 s.blocks, fl s.inc (1 : Int) + fl s.pri (2 : Int) + fl s.dis (4 : Int)] ++ ea s.v.cur ++ ea s.v.bit ++ ea s.v.o0) + ByteArray.size (ea s.v.o1) ≤ 9223372036854775807 from by first | omega | (simp only [ByteArray.size_append, aq, aJ, aQ, List.size_toArray, ap, az, ar, al, ak, List.length_cons, List.length_nil] at *; omega)) <| eg (G.ok) <| e0) (by simp only [dE, vq] <;> rfl)
theorem lg (s : Su) (k : Nat) : aj PP GL XX HH NN (k + 5) 100 [A.agg (Su.cs s)] [] = some ([Res.c (st (bn s).1), Res.c (ii (bn s).2)], []) := by
  rcases bft (cH s) with z0 | z0
  · exact rt (ec (j7 s (k + 3)) <| en z0 <| ec (ow s (k + 1)) <| ec (od (dE s) (show ByteArray.size (dE s) ≤ 1000000 from by first | omega | (simp only [ByteArray.size_append, aq, aJ, aQ, List.size_toArray, ap, az, ar, al, ak, List.length_cons, List.length_nil] at *; omega)) k) <| e0) (by simp only [bn, z0, vq] <;> rfl)
  · exact rt (ec (j7 s (k + 3)) <| en z0 <| e0) (by simp only [bn, z0, vq] <;> rfl)
theorem yR (t : ByteArray) (a : Nat) (hw : IntKind.wrap .i64 ((↑a : Int) + 8) = (↑(a + 8) : Int)) (hl : a ≤ a + 8) (hs : a + 8 ≤ t.size) (he : ByteArray.size (ByteArray.extract t a (a + 8)) = 8) (k : Nat) : aj PP GL XX HH NN (k + 3) 163 [A.c (st t), A.c (ii (↑a : Int))] [] = some ([Res.c (u (bN t a))], []) := by
  exact rt (ep hw <| ep (rfl : (↑a : Int) = (↑a : Int)) <| ep hl <| ep hs <| eg (G.cut a (a + 8) []) <| ec (jj (ByteArray.extract t a (a + 8)) he k) <| e0) (by simp only [bN, vq] <;> rfl)
theorem oE (t : ByteArray) (a : Nat) (ha : a ≤ 1000) (h : a + 8 ≤ t.size) (k : Nat) : aj PP GL XX HH NN (k + 3) 163 [.c (st t), .c (ii (a : Int))] [] = some ([.c (u (bN t a))], []) :=
  yR t a (by rw [eu (by omega) (by omega)]; omega) (by omega) h (by rw [ByteArray.size_extract]; omega) k
theorem ES (t : ByteArray) (h : t.size = 37) (k : Nat) : aj PP GL XX HH NN (k + 3) 163 [.c (st t), .c (ii 5)] [] = some ([.c (u (bN t 5))], []) := oE t 5 (by omega) (by omega) k
theorem A6 (t : ByteArray) (h : t.size = 37) (k : Nat) : aj PP GL XX HH NN (k + 3) 163 [.c (st t), .c (ii 13)] [] = some ([.c (u (bN t 13))], []) := oE t 13 (by omega) (by omega) k
theorem Cf (t : ByteArray) (h : t.size = 37) (k : Nat) : aj PP GL XX HH NN (k + 3) 163 [.c (st t), .c (ii 21)] [] = some ([.c (u (bN t 21))], []) := oE t 21 (by omega) (by omega) k
theorem Bq (t : ByteArray) (h : t.size = 37) (k : Nat) : aj PP GL XX HH NN (k + 3) 163 [.c (st t), .c (ii 29)] [] = some ([.c (u (bN t 29))], []) := oE t 29 (by omega) (by omega) k
theorem Di (b : ByteArray) (hb : b.size ≤ 1000000) (h1 : (Prod.snd (aa b) == 0) = false) (k : Nat) : aj PP GL XX HH NN (k + 6) 141 [A.c (st b)] [] = some ([Res.agg (Su.cs (cu b).1), Res.c (ii (cu b).2)], []) := by
  exact rt (ec (eT b hb k) <| en h1 <| e0) (by simp only [cu, h1, vq] <;> rfl)
theorem D4 (b : ByteArray) (hb : b.size ≤ 1000000) (h1 : (Prod.snd (aa b) == 0) = true) (h2 : ((↑(ByteArray.size (aa b).1) : Int) == 37) = false) (k : Nat) : aj PP GL XX HH NN (k + 6) 141 [A.c (st b)] [] = some ([Res.agg (Su.cs (cu b).1), Res.c (ii (cu b).2)], []) := by
  exact rt (ec (eT b hb k) <| en h1 <| en4 h2 <| et <| e0) (by simp only [cu, h1, h2, vq] <;> rfl)
theorem DC (b : ByteArray) (hb : b.size ≤ 1000000) (h1 : (Prod.snd (aa b) == 0) = true) (h2 : ((↑(ByteArray.size (aa b).1) : Int) == 37) = true) (h4 : (aa b).1[4]? = some (ae (aa b).1 4)) (h7 : decide ((↑(UInt8.toNat (ae (aa b).1 4)) : Int) > 7) = true) (k : Nat) : aj PP GL XX HH NN (k + 6) 141 [A.c (st b)] [] = some ([Res.agg (Su.cs (cu b).1), Res.c (ii (cu b).2)], []) := by
  exact rt (ec (eT b hb k) <| en h1 <| en2 h2 <| ep (rfl : (4 : Int) = (4 : Int)) <| ep h4 <| eg (G.byte 4 (ae (aa b).1 4)) <| en2 h2 <| eb h7 <| e0) (by simp only [cu, h1, h2, h7, vq] <;> rfl)
theorem De (b : ByteArray) (hb : b.size ≤ 1000000) (h1 : (Prod.snd (aa b) == 0) = true) (h2 : ((↑(ByteArray.size (aa b).1) : Int) == 37) = true) (hs : ByteArray.size (aa b).1 = 37) (h3 : (aa b).1[3]? = some (ae (aa b).1 3)) (h4 : (aa b).1[4]? = some (ae (aa b).1 4)) (h7 : decide ((↑(UInt8.toNat (ae (aa b).1 4)) : Int) > 7) = false) (h8 : UInt8.toNat (ae (aa b).1 4) ≤ 7) (k : Nat) : aj PP GL XX HH NN (k + 6) 141 [A.c (st b)] [] = some ([Res.agg (Su.cs (cu b).1), Res.c (ii (cu b).2)], []) := by
  rcases bft (cH (Su.mk (IntKind.wrap .i64 (↑(UInt8.toNat (ae (aa b).1 3)) : Int)) ((Ve.mk (bN (aa b).1 5) (bN (aa b).1 13) (bN (aa b).1 21) (bN (aa b).1 29))) (aV (ae (aa b).1 4) 0) (aV (ae (aa b).1 4) 1) (aV (ae (aa b).1 4) 2))) with z0 | z0
  · rcases bft (dE (Su.mk (IntKind.wrap .i64 (↑(UInt8.toNat (ae (aa b).1 3)) : Int)) ((Ve.mk (bN (aa b).1 5) (bN (aa b).1 13) (bN (aa b).1 21) (bN (aa b).1 29))) (aV (ae (aa b).1 4) 0) (aV (ae (aa b).1 4) 1) (aV (ae (aa b).1 4) 2)) == Prod.fst (aa b)) with z1 | z1
    · exact rt (ec (eT b hb k) <| en h1 <| en2 h2 <| ep (rfl : (4 : Int) = (4 : Int)) <| ep h4 <| eg (G.byte 4 (ae (aa b).1 4)) <| en2 h2 <| eb h7 <| ep (rfl : (4 : Int) = (4 : Int)) <| ep h4 <| eg (G.byte 4 (ae (aa b).1 4)) <| ec (rR (ae (aa b).1 4) h8 (k + 4)) <| ep (rfl : (3 : Int) = (3 : Int)) <| ep h3 <| eg (G.byte 3 (ae (aa b).1 3)) <| ec (ES (aa b).1 hs (k + 2)) <| ec (A6 (aa b).1 hs (k + 2)) <| ec (Cf (aa b).1 hs (k + 2)) <| ec (Bq (aa b).1 hs (k + 2)) <| ep (rfl : (0 : Int) = (0 : Int)) <| ep (rfl : some ([bo (aV (ae (aa b).1 (4 : Nat)) (0 : Nat))]) = some ([bo (aV (ae (aa b).1 (4 : Nat)) (0 : Nat))])) <| eg (G.idx 0 [bo (aV (ae (aa b).1 4) 0)]) <| ep (rfl : (1 : Int) = (1 : Int)) <| ep (rfl : some ([bo (aV (ae (aa b).1 (4 : Nat)) (1 : Nat))]) = some ([bo (aV (ae (aa b).1 (4 : Nat)) (1 : Nat))])) <| eg (G.idx 1 [bo (aV (ae (aa b).1 4) 1)]) <| ep (rfl : (2 : Int) = (2 : Int)) <| ep (rfl : some ([bo (aV (ae (aa b).1 (4 : Nat)) (2 : Nat))]) = some ([bo (aV (ae (aa b).1 (4 : Nat)) (2 : Nat))])) <| eg (G.idx 2 [bo (aV (ae (aa b).1 4) 2)]) <| ec (j7 ((Su.mk (IntKind.wrap .i64 (↑(UInt8.toNat (ae (aa b).1 3)) : Int)) ((Ve.mk (bN (aa b).1 5) (bN (aa b).1 13) (bN (aa b).1 21) (bN (aa b).1 29))) (aV (ae (aa b).1 4) 0) (aV (ae (aa b).1 4) 1) (aV (ae (aa b).1 4) 2))) (k + 4)) <| en2 z0 <| ec (ow ((Su.mk (IntKind.wrap .i64 (↑(UInt8.toNat (ae (aa b).1 3)) : Int)) ((Ve.mk (bN (aa b).1 5) (bN (aa b).1 13) (bN (aa b).1 21) (bN (aa b).1 29))) (aV (ae (aa b).1 4) 0) (aV (ae (aa b).1 4) 1) (aV (ae (aa b).1 4) 2))) (k + 2)) <| en3 z0 <| en z1 <| e0) (by simp only [cu, Ay, h1, h2, h7, z0, z1, vq] <;> rfl)
    · exact rt (ec (eT b hb k) <| en h1 <| en2 h2 <| ep (rfl : (4 : Int) = (4 : Int)) <| ep h4 <| eg (G.byte 4 (ae (aa b).1 4)) <| en2 h2 <| eb h7 <| ep (rfl : (4 : Int) = (4 : Int)) <| ep h4 <| eg (G.byte 4 (ae (aa b).1 4)) <| ec (rR (ae (aa b).1 4) h8 (k + 4)) <| ep (rfl : (3 : Int) = (3 : Int)) <| ep h3 <| eg (G.byte 3 (ae (aa b).1 3)) <| ec (ES (aa b).1 hs (k + 2)) <| ec (A6 (aa b).1 hs (k + 2)) <| ec (Cf (aa b).1 hs (k + 2)) <| ec (Bq (aa b).1 hs (k + 2)) <| ep (rfl : (0 : Int) = (0 : Int)) <| ep (rfl : some ([bo (aV (ae (aa b).1 (4 : Nat)) (0 : Nat))]) = some ([bo (aV (ae (aa b).1 (4 : Nat)) (0 : Nat))])) <| eg (G.idx 0 [bo (aV (ae (aa b).1 4) 0)]) <| ep (rfl : (1 : Int) = (1 : Int)) <| ep (rfl : some ([bo (aV (ae (aa b).1 (4 : Nat)) (1 : Nat))]) = some ([bo (aV (ae (aa b).1 (4 : Nat)) (1 : Nat))])) <| eg (G.idx 1 [bo (aV (ae (aa b).1 4) 1)]) <| ep (rfl : (2 : Int) = (2 : Int)) <| ep (rfl : some ([bo (aV (ae (aa b).1 (4 : Nat)) (2 : Nat))]) = some ([bo (aV (ae (aa b).1 (4 : Nat)) (2 : Nat))])) <| eg (G.idx 2 [bo (aV (ae (aa b).1 4) 2)]) <| ec (j7 ((Su.mk (IntKind.wrap .i64 (↑(UInt8.toNat (ae (aa b).1 3)) : Int)) ((Ve.mk (bN (aa b).1 5) (bN (aa b).1 13) (bN (aa b).1 21) (bN (aa b).1 29))) (aV (ae (aa b).1 4) 0) (aV (ae (aa b).1 4) 1) (aV (ae (aa b).1 4) 2))) (k + 4)) <| en2 z0 <| ec (ow ((Su.mk (IntKind.wrap .i64 (↑(UInt8.toNat (ae (aa b).1 3)) : Int)) ((Ve.mk (bN (aa b).1 5) (bN (aa b).1 13) (bN (aa b).1 21) (bN (aa b).1 29))) (aV (ae (aa b).1 4) 0) (aV (ae (aa b).1 4) 1) (aV (ae (aa b).1 4) 2))) (k + 2)) <| en3 z0 <| en z1 <| e0) (by simp only [cu, Ay, h1, h2, h7, z0, z1, vq] <;> rfl)
  · exact rt (ec (eT b hb k) <| en h1 <| en2 h2 <| ep (rfl : (4 : Int) = (4 : Int)) <| ep h4 <| eg (G.byte 4 (ae (aa b).1 4)) <| en2 h2 <| eb h7 <| ep (rfl : (4 : Int) = (4 : Int)) <| ep h4 <| eg (G.byte 4 (ae (aa b).1 4)) <| ec (rR (ae (aa b).1 4) h8 (k + 4)) <| ep (rfl : (3 : Int) = (3 : Int)) <| ep h3 <| eg (G.byte 3 (ae (aa b).1 3)) <| ec (ES (aa b).1 hs (k + 2)) <| ec (A6 (aa b).1 hs (k + 2)) <| ec (Cf (aa b).1 hs (k + 2)) <| ec (Bq (aa b).1 hs (k + 2)) <| ep (rfl : (0 : Int) = (0 : Int)) <| ep (rfl : some ([bo (aV (ae (aa b).1 (4 : Nat)) (0 : Nat))]) = some ([bo (aV (ae (aa b).1 (4 : Nat)) (0 : Nat))])) <| eg (G.idx 0 [bo (aV (ae (aa b).1 4) 0)]) <| ep (rfl : (1 : Int) = (1 : Int)) <| ep (rfl : some ([bo (aV (ae (aa b).1 (4 : Nat)) (1 : Nat))]) = some ([bo (aV (ae (aa b).1 (4 : Nat)) (1 : Nat))])) <| eg (G.idx 1 [bo (aV (ae (aa b).1 4) 1)]) <| ep (rfl : (2 : Int) = (2 : Int)) <| ep (rfl : some ([bo (aV (ae (aa b).1 (4 : Nat)) (2 : Nat))]) = some ([bo (aV (ae (aa b).1 (4 : Nat)) (2 : Nat))])) <| eg (G.idx 2 [bo (aV (ae (aa b).1 4) 2)]) <| ec (j7 ((Su.mk (IntKind.wrap .i64 (↑(UInt8.toNat (ae (aa b).1 3)) : Int)) ((Ve.mk (bN (aa b).1 5) (bN (aa b).1 13) (bN (aa b).1 21) (bN (aa b).1 29))) (aV (ae (aa b).1 4) 0) (aV (ae (aa b).1 4) 1) (aV (ae (aa b).1 4) 2))) (k + 4)) <| en5 z0 <| et <| e0) (by simp only [cu, Ay, h1, h2, h7, z0, vq] <;> rfl)
theorem x9 (b : ByteArray) (hb : b.size ≤ 1000000) (k : Nat) : aj PP GL XX HH NN (k + 6) 141 [.c (st b)] [] = some ([.agg (cu b).1.cs, .c (ii (cu b).2)], []) := by
  cases h1 : (aa b).2 == 0 with
  | false => exact Di b hb h1 k
  | true =>
    cases h2 : ((aa b).1.size : Int) == 37 with
    | false => exact D4 b hb h1 h2 k
    | true =>
      have hs : (aa b).1.size = 37 := by have := eq_of_beq h2; omega
      have h4 := ft (s := (aa b).1) (i := 4) (by omega)
      cases h7 : decide (((ae (aa b).1 4).toNat : Int) > 7) with
      | true => exact DC b hb h1 h2 h4 h7 k
      | false =>
        have h8 := of_decide_eq_false h7
        exact De b hb h1 h2 hs (ft (by omega)) h4 h7 (by omega) k
end Go.Dm
namespace Go.Dm
open Go
theorem zU (n : Int) : IntKind.wrap .u32 n = mi (BitVec.ofInt 32 n) := by
  unfold IntKind.wrap mi
  simp only [IntKind.signed, IntKind.bits, BitVec.toNat_ofInt]
  simp
  omega
theorem tX (s : ByteArray) (hs : s.size = 4) (k : Nat) : aj PP GL XX HH NN (k + 2) 143 [.c (st s)] [] = some ([.c (w4 (mi (BitVec.ofInt 32 (eX s.data.toList)))), .c (bo true)], []) := by
  rw [← zU]
  exact E6 s hs k
theorem yf (d : Dk) (s : Su) (k : Nat) : aj PP GL XX HH NN (k + 1) 142 [A.agg (Dk.cs d), A.agg (Su.cs s)] [] = some ([Res.c (bo (mV d s))], []) := by
  exact rt (ep (av (eS) d.sure) <| eg (G.len (d.sure.length)) <| e0) (by simp only [mV, vq] <;> rfl)
theorem Ai (d : Dk) (hc : d.cache.length ≤ 1000000) (hr : ByteArray.size (bd d 0).1 ≤ 1000000) (k : Nat) : aj PP GL XX HH NN (k + 7) 118 [A.agg (Dk.cs d)] [] = some ([Res.agg (Su.cs (gd d).1), Res.c (ii (gd d).2)], []) := by
  rcases bft (Prod.snd (bd d 0) == 0) with z0 | z0
  · rcases bft (Prod.snd (cu (bd d 0).1) == 0) with z1 | z1
    · rcases bft (mV d (cu (bd d 0).1).1) with z2 | z2
      · exact rt (ec (lE d 0 hc (k + 3)) <| en z0 <| ec (x9 (bd d 0).1 hr k) <| en z1 <| ec (yf d (cu (bd d 0).1).1 (k + 5)) <| en z2 <| e0) (by simp only [gd, su0, z0, z1, z2, vq] <;> rfl)
      · exact rt (ec (lE d 0 hc (k + 3)) <| en z0 <| ec (x9 (bd d 0).1 hr k) <| en z1 <| ec (yf d (cu (bd d 0).1).1 (k + 5)) <| en z2 <| e0) (by simp only [gd, su0, z0, z1, z2, vq] <;> rfl)
    · exact rt (ec (lE d 0 hc (k + 3)) <| en z0 <| ec (x9 (bd d 0).1 hr k) <| en z1 <| e0) (by simp only [gd, su0, z0, z1, vq] <;> rfl)
  · exact rt (ec (lE d 0 hc (k + 3)) <| en z0 <| e0) (by simp only [gd, su0, z0, vq] <;> rfl)
theorem Ci (d : Dk) (s : Su) (hc : List.length (aT d).cache ≤ 1000) (h1 : List.length (Dk.sure (bm d 0 (bn s).1).1) ≤ 1000000) (h2 : List.length (Dk.cache (bm d 0 (bn s).1).1) ≤ 1000000) (k : Nat) : aj PP GL XX HH NN (k + 6) 131 [A.agg (Dk.cs d), A.agg (Su.cs s)] [] = some ([Res.agg (Dk.cs (cb d s).1), Res.c (ii (cb d s).2)], []) := by
  rcases bft (Prod.snd (bn s) == 0) with z0 | z0
  · rcases bft (mV d s) with z1 | z1
    · rcases bft (Prod.snd (bm d 0 (bn s).1) == 0) with z2 | z2
      · exact rt (ec (lg s k) <| en3 z0 <| ec (yf d s (k + 4)) <| en2 z0 <| en z1 <| ec (l7 d 0 (bn s).1 (show List.length (aT d).cache ≤ 1000000 from by omega) (k + 3)) <| en z2 <| ec (wV (bm d 0 (bn s).1).1 h1 h2 (k + 1)) <| e0) (by simp only [cb, z0, z1, z2, vq] <;> rfl)
      · exact rt (ec (lg s k) <| en3 z0 <| ec (yf d s (k + 4)) <| en2 z0 <| en z1 <| ec (l7 d 0 (bn s).1 (show List.length (aT d).cache ≤ 1000000 from by omega) (k + 3)) <| en z2 <| e0) (by simp only [cb, z0, z1, z2, vq] <;> rfl)
    · exact rt (ec (lg s k) <| en3 z0 <| ec (yf d s (k + 4)) <| en2 z0 <| en z1 <| e0) (by simp only [cb, z0, z1, vq] <;> rfl)
  · exact rt (ec (lg s k) <| en5 z0 <| et <| e0) (by simp only [cb, z0, vq] <;> rfl)
theorem C0 (d : Dk) (hc : d.cache.length ≤ 1000000) (hr : ByteArray.size (bd d 1).1 ≤ 1000000) (h1 : (Prod.snd (bd d 1) == 0) = false) (k : Nat) : aj PP GL XX HH NN (k + 7) 119 [A.agg (Dk.cs d)] [] = some ([Res.c (w4 (mi (fj d).1)), Res.c (ii (fj d).2)], []) := by
  exact rt (ec (lE d 1 hc (k + 3)) <| en h1 <| e0) (by simp only [fj, h1, vq] <;> rfl)
theorem DL (d : Dk) (hc : d.cache.length ≤ 1000000) (hr : ByteArray.size (bd d 1).1 ≤ 1000000) (h1 : (Prod.snd (bd d 1) == 0) = true) (h2 : (Prod.snd (aa (bd d 1).1) == 0) = false) (k : Nat) : aj PP GL XX HH NN (k + 7) 119 [A.agg (Dk.cs d)] [] = some ([Res.c (w4 (mi (fj d).1)), Res.c (ii (fj d).2)], []) := by
  exact rt (ec (lE d 1 hc (k + 3)) <| en h1 <| ec (eT (bd d 1).1 hr (k + 1)) <| en h2 <| e0) (by simp only [fj, h1, h2, vq] <;> rfl)
theorem D2 (d : Dk) (hc : d.cache.length ≤ 1000000) (hr : ByteArray.size (bd d 1).1 ≤ 1000000) (h1 : (Prod.snd (bd d 1) == 0) = true) (h2 : (Prod.snd (aa (bd d 1).1) == 0) = true) (h3 : ((↑(ByteArray.size (aa (bd d 1).1).1) : Int) == 4) = false) (k : Nat) : aj PP GL XX HH NN (k + 7) 119 [A.agg (Dk.cs d)] [] = some ([Res.c (w4 (mi (fj d).1)), Res.c (ii (fj d).2)], []) := by
  exact rt (ec (lE d 1 hc (k + 3)) <| en h1 <| ec (eT (bd d 1).1 hr (k + 1)) <| en h2 <| ec (DZ (aa (bd d 1).1).1 h3 (k + 4)) <| et9 <| e0) (by simp only [fj, h1, h2, h3, vq] <;> rfl)
theorem CK (d : Dk) (hc : d.cache.length ≤ 1000000) (hr : ByteArray.size (bd d 1).1 ≤ 1000000) (h1 : (Prod.snd (bd d 1) == 0) = true) (h2 : (Prod.snd (aa (bd d 1).1) == 0) = true) (h3 : ((↑(ByteArray.size (aa (bd d 1).1).1) : Int) == 4) = true) (h4 : ByteArray.size (aa (bd d 1).1).1 = 4) (k : Nat) : aj PP GL XX HH NN (k + 7) 119 [A.agg (Dk.cs d)] [] = some ([Res.c (w4 (mi (fj d).1)), Res.c (ii (fj d).2)], []) := by
  rcases bft (iS (BitVec.ofInt 32 (eX (Array.toList (ByteArray.data (aa (bd d 1).1).1)))) (IntKind.wrap .i64 ((↑(d.sure.length) : Int) - 2))) with z0 | z0
  · exact rt (ec (lE d 1 hc (k + 3)) <| en h1 <| ec (eT (bd d 1).1 hr (k + 1)) <| en h2 <| ec (tX (aa (bd d 1).1).1 h4 (k + 4)) <| ef4 <| ep (av (eS) d.sure) <| eg (G.len (d.sure.length)) <| ef2 <| ec (kW (BitVec.ofInt 32 (eX (Array.toList (ByteArray.data (aa (bd d 1).1).1)))) (IntKind.wrap .i64 ((↑(d.sure.length) : Int) - 2)) (k + 2)) <| ef2 <| en z0 <| e0) (by simp only [fj, h1, h2, h3, z0, vq] <;> rfl)
  · exact rt (ec (lE d 1 hc (k + 3)) <| en h1 <| ec (eT (bd d 1).1 hr (k + 1)) <| en h2 <| ec (tX (aa (bd d 1).1).1 h4 (k + 4)) <| ef4 <| ep (av (eS) d.sure) <| eg (G.len (d.sure.length)) <| ef2 <| ec (kW (BitVec.ofInt 32 (eX (Array.toList (ByteArray.data (aa (bd d 1).1).1)))) (IntKind.wrap .i64 ((↑(d.sure.length) : Int) - 2)) (k + 2)) <| ef2 <| en z0 <| e0) (by simp only [fj, h1, h2, h3, z0, vq] <;> rfl)
theorem Cr (d : Dk) (hc : d.cache.length ≤ 1000000) (hr : (bd d 1).1.size ≤ 1000000) (k : Nat) : aj PP GL XX HH NN (k + 7) 119 [.agg d.cs] [] = some ([.c (w4 (mi (fj d).1)), .c (ii (fj d).2)], []) := by
  cases h1 : (bd d 1).2 == 0 with
  | false => exact C0 d hc hr h1 k
  | true =>
    cases h2 : (aa (bd d 1).1).2 == 0 with
    | false => exact DL d hc hr h1 h2 k
    | true =>
      cases h3 : ((aa (bd d 1).1).1.size : Int) == 4 with
      | false => exact D2 d hc hr h1 h2 h3 k
      | true => exact CK d hc hr h1 h2 h3 (by have := eq_of_beq h3; omega) k
theorem Be (d : Dk) (m : BitVec 32) (hc : List.length (aT d).cache ≤ 1000) (k : Nat) : aj PP GL XX HH NN (k + 5) 162 [A.agg (Dk.cs d), A.c (w4 (mi m))] [] = some ([Res.agg (Dk.cs (d8 d m).1), Res.c (ii (d8 d m).2)], []) := by
  rcases bft (iS m (IntKind.wrap .i64 ((↑(d.sure.length) : Int) - 2))) with z0 | z0
  · exact rt (ep (av (eS) d.sure) <| eg (G.len (d.sure.length)) <| ec (kW m (IntKind.wrap .i64 ((↑(d.sure.length) : Int) - 2)) k) <| en z0 <| ec (r5 (mi m) (k + 2)) <| ec (od (dH (mi m)) (show ByteArray.size (dH (mi m)) ≤ 1000000 from by first | omega | (simp only [ByteArray.size_append, aq, aJ, aQ, List.size_toArray, ap, az, ar, al, ak, List.length_cons, List.length_nil] at *; omega)) k) <| ec (l7 d 1 (bK (dH (mi m))) (show List.length (aT d).cache ≤ 1000000 from by omega) (k + 2)) <| e0) (by simp only [d8, z0, vq] <;> rfl)
  · exact rt (ep (av (eS) d.sure) <| eg (G.len (d.sure.length)) <| ec (kW m (IntKind.wrap .i64 ((↑(d.sure.length) : Int) - 2)) k) <| en z0 <| e0) (by simp only [d8, z0, vq] <;> rfl)
theorem FQ (d : Dk) (m : BitVec 32) (hc : List.length (aT d).cache ≤ 1000) (h1 : List.length (Dk.sure (d8 d m).1) ≤ 1000000) (h2 : List.length (Dk.cache (d8 d m).1) ≤ 1000000) (k : Nat) : aj PP GL XX HH NN (k + 6) 156 [A.agg (Dk.cs d), A.c (w4 (mi m))] [] = some ([Res.agg (Dk.cs (g8 d m).1), Res.c (ii (g8 d m).2)], []) := by
  rcases bft (Prod.snd (d8 d m) == 0) with z0 | z0
  · exact rt (ec (Be d m hc k) <| en z0 <| ec (wV (d8 d m).1 h1 h2 (k + 1)) <| e0) (by simp only [g8, z0, vq] <;> rfl)
  · exact rt (ec (Be d m hc k) <| en z0 <| e0) (by simp only [g8, z0, vq] <;> rfl)
theorem lz (d : Dk) (i : Int) (k : Nat) : aj PP GL XX HH NN (k + 1) 132 [A.agg (Dk.cs d), A.c (ii i)] [] = some ([Res.c (bo (j4 d i))], []) := by
  rcases bft (decide (i ≥ 0)) with z0 | z0
  · exact rt (eb4 z0 <| ep (av (eS) d.sure) <| eg (G.len (d.sure.length)) <| eb3 z0 <| e0) (by simp only [j4, z0, vq] <;> rfl)
  · exact rt (eb7 z0 <| e0) (by simp only [j4, z0, vq] <;> rfl)
theorem xF (d : Dk) (i : Int) (hc : d.cache.length ≤ 1000000) (k : Nat) : aj PP GL XX HH NN (k + 4) 107 [A.agg (Dk.cs d), A.c (ii i)] [] = some ([Res.c (st (bz d i).1), Res.c (ii (bz d i).2)], []) := by
  rcases bft (j4 d i) with z0 | z0
  · rcases bft (Prod.snd (bd d (IntKind.wrap .i64 (i + 2))) == 0) with z1 | z1
    · rcases bft ((↑(ByteArray.size (bd d (IntKind.wrap .i64 (i + 2))).1) : Int) == 8) with z2 | z2
      · exact rt (ec (lz d i (k + 2)) <| en z0 <| ec (lE d (IntKind.wrap .i64 (i + 2)) hc k) <| en z1 <| en z2 <| e0) (by simp only [bz, z0, z1, z2, vq] <;> rfl)
      · exact rt (ec (lz d i (k + 2)) <| en z0 <| ec (lE d (IntKind.wrap .i64 (i + 2)) hc k) <| en z1 <| en z2 <| e0) (by simp only [bz, z0, z1, z2, vq] <;> rfl)
    · exact rt (ec (lz d i (k + 2)) <| en z0 <| ec (lE d (IntKind.wrap .i64 (i + 2)) hc k) <| en z1 <| e0) (by simp only [bz, z0, z1, vq] <;> rfl)
  · exact rt (ec (lz d i (k + 2)) <| en z0 <| e0) (by simp only [bz, z0, vq] <;> rfl)
theorem Fk (d : Dk) (i : Int) (data : ByteArray) (hc : List.length (aT d).cache ≤ 1000) (h1 : List.length (Dk.sure (bm d (IntKind.wrap .i64 (i + 2)) data).1) ≤ 1000000) (h2 : List.length (Dk.cache (bm d (IntKind.wrap .i64 (i + 2)) data).1) ≤ 1000000) (k : Nat) : aj PP GL XX HH NN (k + 5) 136 [A.agg (Dk.cs d), A.c (ii i), A.c (st data)] [] = some ([Res.agg (Dk.cs (iN d i data).1), Res.c (ii (iN d i data).2)], []) := by
  rcases bft (j4 d i) with z0 | z0
  · rcases bft ((↑(data.size) : Int) == 8) with z1 | z1
    · rcases bft (Prod.snd (bm d (IntKind.wrap .i64 (i + 2)) data) == 0) with z2 | z2
      · exact rt (ec (lz d i (k + 3)) <| en z0 <| en z1 <| ec (l7 d (IntKind.wrap .i64 (i + 2)) data (show List.length (aT d).cache ≤ 1000000 from by omega) (k + 2)) <| en z2 <| ec (wV (bm d (IntKind.wrap .i64 (i + 2)) data).1 h1 h2 k) <| e0) (by simp only [iN, z0, z1, z2, vq] <;> rfl)
      · exact rt (ec (lz d i (k + 3)) <| en z0 <| en z1 <| ec (l7 d (IntKind.wrap .i64 (i + 2)) data (show List.length (aT d).cache ≤ 1000000 from by omega) (k + 2)) <| en z2 <| e0) (by simp only [iN, z0, z1, z2, vq] <;> rfl)
    · exact rt (ec (lz d i (k + 3)) <| en z0 <| en z1 <| e0) (by simp only [iN, z0, z1, vq] <;> rfl)
  · exact rt (ec (lz d i (k + 3)) <| en z0 <| e0) (by simp only [iN, z0, vq] <;> rfl)
end Go.Dm
namespace Go.Dm
open Go
def zb (d : Dk) (c0 : List (List C)) (c1 : Int) : St := St.mk (T.hole :: T.k (K.v (V.ptr 0 0)) :: T.hole :: T.hole :: T.k (K.v (V.own 1 c0 (Tk.tok 0))) :: tc (ii c1) :: hs 24 []) [[V.c (C.slice 1 (List.map eS d.sure)), V.c (C.slice 2 (List.map Wr.cs d.cache)), V.c (ii d.fuse), V.c (bo d.dead)]] [c0.length]
theorem Dl (d : Dk) (l : List ByteArray) (i : Nat) (hc : d.cache.length ≤ 1000000) (hl : l.length ≤ 1000000) (k : Nat) (z0 : (decide ((↑i : Int) < IntKind.wrap .i64 ((↑(d.sure.length) : Int) - 2))) = true) (z1 : (Prod.snd (bz d (↑i : Int)) == 0) = true) : bp (EE (k + 4)) (HH 120) NN (LB PP 120 3) 1 1 (zb d (List.map eS l) (↑i : Int)) (zb d (List.map eS (l ++ [Prod.fst (bz d (↑i : Int))])) (IntKind.wrap .i64 ((↑i : Int) + 1))) :=
  nx (ep (av (eS) d.sure) <| eg (G.len (d.sure.length)) <| eb z0 <| ec (xF d ((↑i : Int)) hc k) <| en z1 <| ep (bD (eS) (l) ([Prod.fst (bz d (↑i : Int))])) <| ep (aP (eS) (l := l ++ [Prod.fst (bz d (↑i : Int))]) (n := 1073741824) (by simp only [vr]; omega)) <| ep (Eq.refl (List.length (List.map eS l))) <| eg (G.app (List.map eS (l ++ [Prod.fst (bz d (↑i : Int))]))) <| e0)
def mJ (d : Dk) (l : List ByteArray) (i : Nat) : St := St.mk (T.hole :: T.k (K.v (V.ptr 0 0)) :: T.k (K.v (V.own 1 [] Tk.exact)) :: tc (ii (bz d (↑i : Int)).2) :: T.k (K.v (V.own 1 (List.map eS l) (Tk.tok 0))) :: tc (ii (↑i : Int)) :: tc (st (bz d (↑i : Int)).1) :: tc (ii (bz d (↑i : Int)).2) :: tc (ii (↑i : Int)) :: T.k (K.v (V.ptr 0 0)) :: tc (C.slice 1 (List.map eS d.sure)) :: tc (ii (↑(d.sure.length) : Int)) :: tc (ii (IntKind.wrap .i64 ((↑(d.sure.length) : Int) - 2))) :: tc (bo (decide ((↑i : Int) < IntKind.wrap .i64 ((↑(d.sure.length) : Int) - 2)))) :: T.hole :: T.hole :: T.tup [K.v (V.c (st (bz d (↑i : Int)).1)), K.v (V.c (ii (bz d (↑i : Int)).2))] :: T.k (K.agg [V.c (C.slice 1 (List.map eS d.sure)), V.c (C.slice 2 (List.map Wr.cs d.cache)), V.c (ii d.fuse), V.c (bo d.dead)]) :: tc (ii (↑i : Int)) :: T.tup [K.v (V.c (st (bz d (↑i : Int)).1)), K.v (V.c (ii (bz d (↑i : Int)).2))] :: tc (st (bz d (↑i : Int)).1) :: tc (ii (bz d (↑i : Int)).2) :: tc (ii (bz d (↑i : Int)).2) :: tc (bo (Prod.snd (bz d (↑i : Int)) != 0)) :: tc (ii (bz d (↑i : Int)).2) :: hs 5 []) [[V.c (C.slice 1 (List.map eS d.sure)), V.c (C.slice 2 (List.map Wr.cs d.cache)), V.c (ii d.fuse), V.c (bo d.dead)]] [List.length (List.map eS l)]
theorem En (d : Dk) (l : List ByteArray) (i : Nat) (hc : d.cache.length ≤ 1000000) (k : Nat) (z0 : (decide ((↑i : Int) < IntKind.wrap .i64 ((↑(d.sure.length) : Int) - 2))) = true) (z1 : (Prod.snd (bz d (↑i : Int)) == 0) = false) : cx (EE (k + 4)) (HH 120) NN (LB PP 120 3) (zb d (List.map eS l) (↑i : Int)) (Ext.ret) (mJ d l i) :=
  ou (ep (av (eS) d.sure) <| eg (G.len (d.sure.length)) <| eb z0 <| ec (xF d ((↑i : Int)) hc k) <| en z1 <| e0)
def mI (d : Dk) (l : List ByteArray) (i : Nat) : St := St.mk (T.hole :: T.k (K.v (V.ptr 0 0)) :: T.hole :: T.hole :: T.k (K.v (V.own 1 (List.map eS l) (Tk.tok 0))) :: tc (ii (↑i : Int)) :: T.hole :: T.hole :: tc (ii (↑i : Int)) :: T.k (K.v (V.ptr 0 0)) :: tc (C.slice 1 (List.map eS d.sure)) :: tc (ii (↑(d.sure.length) : Int)) :: tc (ii (IntKind.wrap .i64 ((↑(d.sure.length) : Int) - 2))) :: tc (bo (decide ((↑i : Int) < IntKind.wrap .i64 ((↑(d.sure.length) : Int) - 2)))) :: hs 16 []) [[V.c (C.slice 1 (List.map eS d.sure)), V.c (C.slice 2 (List.map Wr.cs d.cache)), V.c (ii d.fuse), V.c (bo d.dead)]] [List.length (List.map eS l)]
theorem Ea (d : Dk) (l : List ByteArray) (i : Nat) (k : Nat) (z0 : (decide ((↑i : Int) < IntKind.wrap .i64 ((↑(d.sure.length) : Int) - 2))) = false) : cx (EE (k + 4)) (HH 120) NN (LB PP 120 3) (zb d (List.map eS l) (↑i : Int)) (Ext.exit 0) (mI d l i) :=
  ou (ep (av (eS) d.sure) <| eg (G.len (d.sure.length)) <| eb z0 <| e0)
theorem GM (d : Dk) (hs : d.sure.length ≤ 1000000) (hc : d.cache.length ≤ 1000000) :
    ((tA d = ((List.range (d.sure.length - 2)).map fun (i : Nat) => (bz d (i : Int)).1, 0)) ∧ ∀ k, br (EE (k + 4)) (HH 120) NN (LB PP 120 3) (zb d [] 0) (.exit 0) (mI d ((List.range (d.sure.length - 2)).map fun (i : Nat) => (bz d (i : Int)).1) (d.sure.length - 2 : Nat))) ∨
    ∃ (l : List ByteArray) (i : Nat), tA d = ([], (bz d (i : Int)).2) ∧ ∀ k, br (EE (k + 4)) (HH 120) NN (LB PP 120 3) (zb d [] 0) .ret (mJ d l i) := by
  have hn : ∀ i : Nat, i < d.sure.length - 2 → decide ((i : Int) < IntKind.wrap .i64 ((d.sure.length : Int) - 2)) = true := fun i hi => decide_eq_true (by rw [eu (by omega) (by omega)]; omega)
  have hn2 : decide (((d.sure.length - 2 : Nat) : Int) < IntKind.wrap .i64 ((d.sure.length : Int) - 2)) = false := decide_eq_false (by rw [eu (by omega) (by omega)]; omega)
  rcases tC (E := fun k => EE (k + 4)) (H := HH 120) (n := NN) (b := LB PP 120 3) (fun i => zb d (((List.range i).map fun (i : Nat) => (bz d (i : Int)).1).map eS) (i : Nat)) (List.range (d.sure.length - 2)) (fun (i : Nat) => !((bz d (i : Int)).2 == 0)) (fun i x => mJ d ((List.range i).map fun (i : Nat) => (bz d (i : Int)).1) i) (mI d ((List.range (d.sure.length - 2)).map fun (i : Nat) => (bz d (i : Int)).1) (d.sure.length - 2 : Nat)) (nv := 1) (nt := 1) (e := .ret) (e' := .exit 0) (by kernel_rfl) (by kernel_rfl)
    (fun k i x hx hp => by
      have hi := dJ hx
      rw [List.length_range] at hi
      have hxi : x = i := by have := (List.getElem?_eq_some_iff.1 hx).2; simpa using this.symm
      subst hxi
      have := Dl d ((List.range x).map fun (i : Nat) => (bz d (i : Int)).1) x hc (by simp; omega) k (hn x hi) (by simpa using hp)
      rw [w64 hi (by omega)] at this
      rw [List.range_succ, List.map_append, List.map_cons, List.map_nil]
      exact this)
    (fun k i x hx hp => by
      have hi := dJ hx
      rw [List.length_range] at hi
      have hxi : x = i := by have := (List.getElem?_eq_some_iff.1 hx).2; simpa using this.symm
      subst hxi
      exact En d _ x hc k (hn x hi) (by simpa using hp))
    (fun k => by rw [List.length_range]; exact Ea d _ _ k hn2) (by rw [List.length_range]; unfold NN; omega) with ⟨h1, h2⟩ | ⟨h1, i, x, hx, hp, hf, _, h2⟩
  · refine .inl ⟨?_, h2⟩
    unfold tA
    have : (List.range (d.sure.length - 2)).find? (fun (i : Nat) => !((bz d (i : Int)).2 == 0)) = none := by
      rw [List.find?_eq_none]
      rw [List.any_eq_false] at h1
      exact h1
    rw [this]
  · have hxi : x = i := by have := (List.getElem?_eq_some_iff.1 hx).2; simpa using this.symm
    subst hxi
    refine .inr ⟨_, x, ?_, h2⟩
    unfold tA
    rw [hf]
theorem Hl (d : Dk) (l : List ByteArray) (i : Nat) (hL : ∀ k, br (EE (k + 4)) (HH 120) NN (LB PP 120 3) (zb d [] 0) Ext.ret (mJ d l i)) (k : Nat) : aj PP GL XX HH NN (k + 5) 120 [A.agg (Dk.cs d)] [] = some ([Res.top 1 [], Res.c (ii (bz d (↑i : Int)).2)], []) := by
  exact ro (eg (G.loop Ext.ret (mJ d l i)) <| ep (hL k) <| e0)
theorem GU (d : Dk) (l : List ByteArray) (i : Nat) (hL : ∀ k, br (EE (k + 4)) (HH 120) NN (LB PP 120 3) (zb d [] 0) (Ext.exit 0) (mI d l i)) (k : Nat) : aj PP GL XX HH NN (k + 5) 120 [A.agg (Dk.cs d)] [] = some ([Res.top 1 (List.map eS l), Res.c (ii 0)], []) := by
  exact ro (eg (G.loop (Ext.exit 0) (mI d l i)) <| ep (hL k) <| eq1 (List.length (List.map eS l)) <| e0)
theorem GB (d : Dk) (hs : d.sure.length ≤ 1000000) (hc : d.cache.length ≤ 1000000) (k : Nat) : aj PP GL XX HH NN (k + 5) 120 [.agg d.cs] [] = some ([.top 1 ((tA d).1.map eS), .c (ii (tA d).2)], []) := by
  rcases GM d hs hc with ⟨h1, h2⟩ | ⟨l, i, h1, h2⟩
  · rw [h1]; exact GU d _ _ h2 k
  · rw [h1]; exact Hl d l i h2 k
theorem C7 (s : Su) (q : Bool) (m : BitVec 32) (k : Nat) : aj PP GL XX HH NN (k + 1) 70 [A.agg (Su.cs s), A.c (bo q), A.c (w4 (mi m))] [] = some ([Res.agg (He.cs (Et s q m))], []) := by
  rcases bft s.pri with z0 | z0
  · exact rt (eb3 z0 <| e0) (by simp only [Et, z0, vq] <;> rfl)
  · exact rt (eb3 z0 <| e0) (by simp only [Et, z0, vq] <;> rfl)
theorem cX (h : He) (k : Nat) : aj PP GL XX HH NN (k + 5) 148 [A.agg (He.cs h)] [] = some ([Res.c (bo (cA h))], []) := by
  rcases bft (decide (He.blocks h ≥ 1)) with z0 | z0
  · rcases bft (decide (He.blocks h ≤ 32)) with z1 | z1
    · rcases bft (Ve.cur h.v == 0) with z2 | z2
      · exact rt (eb4 z0 <| eb5 z1 <| en6 z2 <| oO <| e0) (by simp only [cA, z0, z1, z2, vq] <;> rfl)
      · rcases bft (iS h.mask h.blocks) with z3 | z3
        · rcases bft h.pri with z4 | z4
          · rcases bft h.was with z5 | z5
            · exact rt (eb4 z0 <| eb5 z1 <| en5 z2 <| ec (kW h.mask h.blocks k) <| en z2 <| eb3 z3 <| eb2 z4 <| eb z3 <| eb z4 <| eb2 z3 <| en6 z5 <| e0) (by simp only [cA, z0, z1, z2, z3, z4, z5, vq] <;> rfl)
            · exact rt (eb4 z0 <| eb5 z1 <| en5 z2 <| ec (kW h.mask h.blocks k) <| en z2 <| eb3 z3 <| eb2 z4 <| eb z3 <| eb z4 <| eb2 z3 <| en3 z5 <| eb2 z4 <| en z5 <| eb z4 <| en2 z5 <| e0) (by simp only [cA, z0, z1, z2, z3, z4, z5, vq] <;> rfl)
          · exact rt (eb4 z0 <| eb5 z1 <| en5 z2 <| ec (kW h.mask h.blocks k) <| en z2 <| eb3 z3 <| eb2 z4 <| eb z3 <| eb z4 <| eb2 z3 <| et3 <| eb2 z4 <| et <| eb z4 <| et2 <| e0) (by simp only [cA, z0, z1, z2, z3, z4, vq] <;> rfl)
        · exact rt (eb4 z0 <| eb5 z1 <| en5 z2 <| ec (kW h.mask h.blocks k) <| en z2 <| eb6 z3 <| ef6 <| e0) (by simp only [cA, z0, z1, z2, z3, vq] <;> rfl)
    · exact rt (eb4 z0 <| eb5 z1 <| oO <| ef6 <| e0) (by simp only [cA, z0, z1, vq] <;> rfl)
  · exact rt (eb4 z0 <| oO <| AG <| e0) (by simp only [cA, z0, vq] <;> rfl)
theorem xq (h : He) (k : Nat) : aj PP GL XX HH NN (k + 6) 151 [A.agg (He.cs h)] [] = some ([Res.c (st (gH h).1), Res.c (ii (gH h).2)], []) := by
  rcases bft (cA h) with z0 | z0
  · exact rt (ec (cX h k) <| en z0 <| ec (DY h.inc h.was h.dis h.pri (k + 4)) <| ep (rfl : some ([IntKind.wrap .u8 h.blocks, fl h.inc (1 : Int) + fl h.was (2 : Int) + fl h.dis (4 : Int) + fl h.pri (8 : Int)]) = some ([IntKind.wrap .u8 h.blocks, fl h.inc (1 : Int) + fl h.was (2 : Int) + fl h.dis (4 : Int) + fl h.pri (8 : Int)])) <| eg (G.str [IntKind.wrap .u8 h.blocks, fl h.inc 1 + fl h.was 2 + fl h.dis 4 + fl h.pri 8]) <| ec (lF h.v.cur (k + 3)) <| ep (show ByteArray.size (cw [IntKind.wrap .u8 h.blocks, fl h.inc (1 : Int) + fl h.was (2 : Int) + fl h.dis (4 : Int) + fl h.pri (8 : Int)]) + ByteArray.size (ea h.v.cur) ≤ 9223372036854775807 from by first | omega | (simp only [ByteArray.size_append, aq, aJ, aQ, List.size_toArray, ap, az, ar, al, ak, List.length_cons, List.length_nil] at *; omega)) <| eg (G.ok) <| ec (lF h.v.bit (k + 3)) <| ep (show ByteArray.size (cw [IntKind.wrap .u8 h.blocks, fl h.inc (1 : Int) + fl h.was (2 : Int) + fl h.dis (4 : Int) + fl h.pri (8 : Int)] ++ ea h.v.cur) + ByteArray.size (ea h.v.bit) ≤ 9223372036854775807 from by first | omega | (simp only [ByteArray.size_append, aq, aJ, aQ, List.size_toArray, ap, az, ar, al, ak, List.length_cons, List.length_nil] at *; omega)) <| eg (G.ok) <| ec (lF h.v.o0 (k + 3)) <| ep (show ByteArray.size (cw [IntKind.wrap .u8 h.blocks, fl h.inc (1 : Int) + fl h.was (2 : Int) + fl h.dis (4 : Int) + fl h.pri (8 : Int)] ++ ea h.v.cur ++ ea h.v.bit) + ByteArray.size (ea h.v.o0) ≤ 9223372036854775807 from by first | omega | (simp only [ByteArray.size_append, aq, aJ, aQ, List.size_toArray, ap, az, ar, al, ak, List.length_cons, List.length_nil] at *; omega)) <| eg (G.ok) <| ec (lF h.v.o1 (k + 3)) <| ep (show ByteArray.size (cw [IntKind.wrap .u8 h.blocks, fl h.inc (1 : Int) + fl h.was (2 : Int) + fl h.dis (4 : Int) + fl h.pri (8 : Int)] ++ ea h.v.cur ++ ea h.v.bit ++ ea h.v.o0) + ByteArray.size (ea h.v.o1) ≤ 9223372036854775807 from by first | omega | (simp only [ByteArray.size_append, aq, aJ, aQ, List.size_toArray, ap, az, ar, al, ak, List.length_cons, List.length_nil] at *; omega)) <| eg (G.ok) <| ec (r5 (mi h.mask) (k + 3)) <| ep (show ByteArray.size (cw [IntKind.wrap .u8 h.blocks, fl h.inc (1 : Int) + fl h.was (2 : Int) + fl h.dis (4 : Int) + fl h.pri (8 : Int)] ++ ea h.v.cur ++ ea h.v.bit ++ ea h.v.o0 ++ ea h.v.o1) + ByteArray.size (dH (mi h.mask)) ≤ 9223372036854775807 from by first | omega | (simp only [ByteArray.size_append, aq, aJ, aQ, List.size_toArray, ap, az, ar, al, ak, List.length_cons, List.length_nil] at *; omega)) <| eg (G.ok) <| e0) (by simp only [gH, f9, z0, vq] <;> rfl)
  · exact rt (ec (cX h k) <| en z0 <| e0) (by simp only [gH, f9, z0, vq] <;> rfl)
theorem xW (t : ByteArray) (a : Nat) (hw : IntKind.wrap .i64 ((↑a : Int) + 8) = (↑(a + 8) : Int)) (hl : a ≤ a + 8) (hs : a + 8 ≤ t.size) (he : ByteArray.size (ByteArray.extract t a (a + 8)) = 8) (k : Nat) : aj PP GL XX HH NN (k + 3) 147 [A.c (st t), A.c (ii (↑a : Int))] [] = some ([Res.c (u (bN t a))], []) := by
  exact rt (ep hw <| ep (rfl : (↑a : Int) = (↑a : Int)) <| ep hl <| ep hs <| eg (G.cut a (a + 8) []) <| ec (jj (ByteArray.extract t a (a + 8)) he k) <| e0) (by simp only [bN, vq] <;> rfl)
theorem lV (t : ByteArray) (a : Nat) (ha : a ≤ 1000) (h : a + 8 ≤ t.size) (k : Nat) : aj PP GL XX HH NN (k + 3) 147 [.c (st t), .c (ii (a : Int))] [] = some ([.c (u (bN t a))], []) :=
  xW t a (by rw [eu (by omega) (by omega)]; omega) (by omega) h (by rw [ByteArray.size_extract]; omega) k
theorem Dv (t : ByteArray) (h : t.size = 38) (k : Nat) : aj PP GL XX HH NN (k + 3) 147 [.c (st t), .c (ii 2)] [] = some ([.c (u (bN t 2))], []) := lV t 2 (by omega) (by omega) k
theorem AF (t : ByteArray) (h : t.size = 38) (k : Nat) : aj PP GL XX HH NN (k + 3) 147 [.c (st t), .c (ii 10)] [] = some ([.c (u (bN t 10))], []) := lV t 10 (by omega) (by omega) k
theorem AP (t : ByteArray) (h : t.size = 38) (k : Nat) : aj PP GL XX HH NN (k + 3) 147 [.c (st t), .c (ii 18)] [] = some ([.c (u (bN t 18))], []) := lV t 18 (by omega) (by omega) k
theorem AO (t : ByteArray) (h : t.size = 38) (k : Nat) : aj PP GL XX HH NN (k + 3) 147 [.c (st t), .c (ii 26)] [] = some ([.c (u (bN t 26))], []) := lV t 26 (by omega) (by omega) k
theorem Dp (b : ByteArray) (h1 : ((↑(b.size) : Int) == 38) = false) (k : Nat) : aj PP GL XX HH NN (k + 6) 123 [A.c (st b)] [] = some ([Res.agg (He.cs (eR b).1), Res.c (ii (eR b).2)], []) := by
  exact rt (en4 h1 <| et <| e0) (by simp only [eR, h1, vq] <;> rfl)
theorem CZ (b : ByteArray) (h1 : ((↑(b.size) : Int) == 38) = true) (h2 : b[1]? = some (ae b 1)) (h3 : decide ((↑(UInt8.toNat (ae b 1)) : Int) > 15) = true) (k : Nat) : aj PP GL XX HH NN (k + 6) 123 [A.c (st b)] [] = some ([Res.agg (He.cs (eR b).1), Res.c (ii (eR b).2)], []) := by
  exact rt (en2 h1 <| ep (rfl : (1 : Int) = (1 : Int)) <| ep h2 <| eg (G.byte 1 (ae b 1)) <| en2 h1 <| eb h3 <| e0) (by simp only [eR, h1, h3, vq] <;> rfl)
theorem CG (b : ByteArray) (h1 : ((↑(b.size) : Int) == 38) = true) (hs : b.size = 38) (h0 : b[0]? = some (ae b 0)) (h2 : b[1]? = some (ae b 1)) (h3 : decide ((↑(UInt8.toNat (ae b 1)) : Int) > 15) = false) (h4 : UInt8.toNat (ae b 1) ≤ 15) (h5 : ByteArray.size (ByteArray.extract b 34 (b.size)) = 4) (k : Nat) : aj PP GL XX HH NN (k + 6) 123 [A.c (st b)] [] = some ([Res.agg (He.cs (eR b).1), Res.c (ii (eR b).2)], []) := by
  rcases bft (cA (He.mk (IntKind.wrap .i64 (↑(UInt8.toNat (ae b 0)) : Int)) ((Ve.mk (bN b 2) (bN b 10) (bN b 18) (bN b 26))) (aV (ae b 1) 0) (aV (ae b 1) 1) (aV (ae b 1) 2) (aV (ae b 1) 3) (BitVec.ofInt 32 (eX (Array.toList (ByteArray.data (ByteArray.extract b 34 (b.size)))))))) with z0 | z0
  · exact rt (en2 h1 <| ep (rfl : (1 : Int) = (1 : Int)) <| ep h2 <| eg (G.byte 1 (ae b 1)) <| en2 h1 <| eb h3 <| ep (rfl : (1 : Int) = (1 : Int)) <| ep h2 <| eg (G.byte 1 (ae b 1)) <| ec (wm (ae b 1) h4 (k + 4)) <| ep (rfl : b.size = b.size) <| ep (rfl : (34 : Int) = (34 : Int)) <| ep (show (34 : Nat) ≤ b.size from by omega) <| ep (show b.size ≤ b.size from by omega) <| eg (G.cut 34 (b.size) []) <| ec (tX (ByteArray.extract b 34 (b.size)) h5 (k + 3)) <| ep (rfl : (0 : Int) = (0 : Int)) <| ep h0 <| eg (G.byte 0 (ae b 0)) <| ep (rfl : (0 : Int) = (0 : Int)) <| ep (rfl : some ([bo (aV (ae b (1 : Nat)) (0 : Nat))]) = some ([bo (aV (ae b (1 : Nat)) (0 : Nat))])) <| eg (G.idx 0 [bo (aV (ae b 1) 0)]) <| ep (rfl : (1 : Int) = (1 : Int)) <| ep (rfl : some ([bo (aV (ae b (1 : Nat)) (1 : Nat))]) = some ([bo (aV (ae b (1 : Nat)) (1 : Nat))])) <| eg (G.idx 1 [bo (aV (ae b 1) 1)]) <| ep (rfl : (2 : Int) = (2 : Int)) <| ep (rfl : some ([bo (aV (ae b (1 : Nat)) (2 : Nat))]) = some ([bo (aV (ae b (1 : Nat)) (2 : Nat))])) <| eg (G.idx 2 [bo (aV (ae b 1) 2)]) <| ep (rfl : (3 : Int) = (3 : Int)) <| ep (rfl : some ([bo (aV (ae b (1 : Nat)) (3 : Nat))]) = some ([bo (aV (ae b (1 : Nat)) (3 : Nat))])) <| eg (G.idx 3 [bo (aV (ae b 1) 3)]) <| ec (Dv b hs (k + 2)) <| ec (AF b hs (k + 2)) <| ec (AP b hs (k + 2)) <| ec (AO b hs (k + 2)) <| ec (cX ((He.mk (IntKind.wrap .i64 (↑(UInt8.toNat (ae b 0)) : Int)) ((Ve.mk (bN b 2) (bN b 10) (bN b 18) (bN b 26))) (aV (ae b 1) 0) (aV (ae b 1) 1) (aV (ae b 1) 2) (aV (ae b 1) 3) (BitVec.ofInt 32 (eX (Array.toList (ByteArray.data (ByteArray.extract b 34 (b.size)))))))) k) <| en z0 <| e0) (by simp only [eR, DR, h1, h3, z0, vq] <;> rfl)
  · exact rt (en2 h1 <| ep (rfl : (1 : Int) = (1 : Int)) <| ep h2 <| eg (G.byte 1 (ae b 1)) <| en2 h1 <| eb h3 <| ep (rfl : (1 : Int) = (1 : Int)) <| ep h2 <| eg (G.byte 1 (ae b 1)) <| ec (wm (ae b 1) h4 (k + 4)) <| ep (rfl : b.size = b.size) <| ep (rfl : (34 : Int) = (34 : Int)) <| ep (show (34 : Nat) ≤ b.size from by omega) <| ep (show b.size ≤ b.size from by omega) <| eg (G.cut 34 (b.size) []) <| ec (tX (ByteArray.extract b 34 (b.size)) h5 (k + 3)) <| ep (rfl : (0 : Int) = (0 : Int)) <| ep h0 <| eg (G.byte 0 (ae b 0)) <| ep (rfl : (0 : Int) = (0 : Int)) <| ep (rfl : some ([bo (aV (ae b (1 : Nat)) (0 : Nat))]) = some ([bo (aV (ae b (1 : Nat)) (0 : Nat))])) <| eg (G.idx 0 [bo (aV (ae b 1) 0)]) <| ep (rfl : (1 : Int) = (1 : Int)) <| ep (rfl : some ([bo (aV (ae b (1 : Nat)) (1 : Nat))]) = some ([bo (aV (ae b (1 : Nat)) (1 : Nat))])) <| eg (G.idx 1 [bo (aV (ae b 1) 1)]) <| ep (rfl : (2 : Int) = (2 : Int)) <| ep (rfl : some ([bo (aV (ae b (1 : Nat)) (2 : Nat))]) = some ([bo (aV (ae b (1 : Nat)) (2 : Nat))])) <| eg (G.idx 2 [bo (aV (ae b 1) 2)]) <| ep (rfl : (3 : Int) = (3 : Int)) <| ep (rfl : some ([bo (aV (ae b (1 : Nat)) (3 : Nat))]) = some ([bo (aV (ae b (1 : Nat)) (3 : Nat))])) <| eg (G.idx 3 [bo (aV (ae b 1) 3)]) <| ec (Dv b hs (k + 2)) <| ec (AF b hs (k + 2)) <| ec (AP b hs (k + 2)) <| ec (AO b hs (k + 2)) <| ec (cX ((He.mk (IntKind.wrap .i64 (↑(UInt8.toNat (ae b 0)) : Int)) ((Ve.mk (bN b 2) (bN b 10) (bN b 18) (bN b 26))) (aV (ae b 1) 0) (aV (ae b 1) 1) (aV (ae b 1) 2) (aV (ae b 1) 3) (BitVec.ofInt 32 (eX (Array.toList (ByteArray.data (ByteArray.extract b 34 (b.size)))))))) k) <| en z0 <| e0) (by simp only [eR, DR, h1, h3, z0, vq] <;> rfl)
theorem pl (b : ByteArray) (k : Nat) : aj PP GL XX HH NN (k + 6) 123 [.c (st b)] [] = some ([.agg (eR b).1.cs, .c (ii (eR b).2)], []) := by
  cases h1 : (b.size : Int) == 38 with
  | false => exact Dp b h1 k
  | true =>
    have hs : b.size = 38 := by have := eq_of_beq h1; omega
    have h2 := ft (s := b) (i := 1) (by omega)
    cases h3 : decide (((ae b 1).toNat : Int) > 15) with
    | true => exact CZ b h1 h2 h3 k
    | false =>
      have h4 := of_decide_eq_false h3
      exact CG b h1 hs (ft (by omega)) h2 h3 (by omega) (by rw [ByteArray.size_extract]; omega) k
theorem cj (k' : Int) (k : Nat) : aj PP GL XX HH NN (k + 1) 124 [A.c (ii k')] [] = some ([Res.c (bo (bJ k'))], []) := by
  rcases bft (decide (k' ≥ 2)) with z0 | z0
  · exact rt (eb3 z0 <| e0) (by simp only [bJ, z0, vq] <;> rfl)
  · exact rt (eb3 z0 <| e0) (by simp only [bJ, z0, vq] <;> rfl)
theorem lc (k' : Int) (k : Nat) : aj PP GL XX HH NN (k + 1) 149 [A.c (ii k')] [] = some ([Res.c (bo (fH k'))], []) := by
  rcases bft (k' == 2) with z0 | z0
  · exact rt (eb3 z0 <| e0) (by simp only [fH, z0, vq] <;> rfl)
  · exact rt (eb3 z0 <| e0) (by simp only [fH, z0, vq] <;> rfl)
theorem cC (p : Pk) (k : Nat) : aj PP GL XX HH NN (k + 6) 125 [A.agg (Pk.cs p)] [] = some ([Res.c (bo (bA p))], []) := by
  rcases bft (decide (Pk.kind p < 1)) with z0 | z0
  · exact rt (eb4 z0 <| et <| e0) (by simp only [bA, dC, z0, vq] <;> rfl)
  · rcases bft (decide (Pk.kind p > 13)) with z1 | z1
    · exact rt (eb4 z0 <| eb z1 <| e0) (by simp only [bA, dC, z0, z1, vq] <;> rfl)
    · rcases bft (Pk.kind p == 1) with z2 | z2
      · rcases bft (cA p.hello) with z3 | z3
        · rcases bft (decide (Pk.block p < 0)) with z4 | z4
          · exact rt (eb4 z0 <| eb z1 <| eb3 z2 <| ec (cX p.hello k) <| eb2 z2 <| en4 z3 <| en4 z2 <| en z3 <| en z2 <| en z3 <| ef <| eb4 z4 <| et8 <| e0) (by simp only [bA, dC, z0, z1, z2, z3, z4, vq] <;> rfl)
          · rcases bft (decide (Pk.block p > 31)) with z5 | z5
            · exact rt (eb4 z0 <| eb z1 <| eb3 z2 <| ec (cX p.hello k) <| eb2 z2 <| en4 z3 <| en4 z2 <| en z3 <| en z2 <| en z3 <| ef <| eb4 z4 <| eb7 z5 <| et <| e0) (by simp only [bA, dC, z0, z1, z2, z3, z4, z5, vq] <;> rfl)
            · rcases bft (bJ p.kind) with z6 | z6
              · rcases bft (fH p.kind) with z7 | z7
                · exact rt (eb4 z0 <| eb z1 <| eb3 z2 <| ec (cX p.hello k) <| eb2 z2 <| en4 z3 <| en4 z2 <| en z3 <| en z2 <| en z3 <| ef <| eb4 z4 <| eb3 z5 <| ec (cj p.kind (k + 4)) <| eb2 z5 <| en3 z6 <| eb z5 <| en z6 <| eb z5 <| ef <| ec (lc p.kind (k + 4)) <| eb z7 <| e0) (by simp only [bA, dC, z0, z1, z2, z3, z4, z5, z6, z7, vq] <;> rfl)
                · exact rt (eb4 z0 <| eb z1 <| eb3 z2 <| ec (cX p.hello k) <| eb2 z2 <| en4 z3 <| en4 z2 <| en z3 <| en z2 <| en z3 <| ef <| eb4 z4 <| eb3 z5 <| ec (cj p.kind (k + 4)) <| eb2 z5 <| en3 z6 <| eb z5 <| en z6 <| eb z5 <| ef <| ec (lc p.kind (k + 4)) <| eb z7 <| e0) (by simp only [bA, dC, z0, z1, z2, z3, z4, z5, z6, z7, vq] <;> rfl)
              · rcases bft (Pk.block p == 0) with z7 | z7
                · rcases bft (fH p.kind) with z8 | z8
                  · exact rt (eb4 z0 <| eb z1 <| eb3 z2 <| ec (cX p.hello k) <| eb2 z2 <| en4 z3 <| en4 z2 <| en z3 <| en z2 <| en z3 <| ef <| eb4 z4 <| eb3 z5 <| ec (cj p.kind (k + 4)) <| eb2 z5 <| en3 z6 <| eb z5 <| en z6 <| eb z5 <| en z7 <| ec (lc p.kind (k + 4)) <| eb z8 <| e0) (by simp only [bA, dC, z0, z1, z2, z3, z4, z5, z6, z7, z8, vq] <;> rfl)
                  · exact rt (eb4 z0 <| eb z1 <| eb3 z2 <| ec (cX p.hello k) <| eb2 z2 <| en4 z3 <| en4 z2 <| en z3 <| en z2 <| en z3 <| ef <| eb4 z4 <| eb3 z5 <| ec (cj p.kind (k + 4)) <| eb2 z5 <| en3 z6 <| eb z5 <| en z6 <| eb z5 <| en z7 <| ec (lc p.kind (k + 4)) <| eb z8 <| e0) (by simp only [bA, dC, z0, z1, z2, z3, z4, z5, z6, z7, z8, vq] <;> rfl)
                · exact rt (eb4 z0 <| eb z1 <| eb3 z2 <| ec (cX p.hello k) <| eb2 z2 <| en4 z3 <| en4 z2 <| en z3 <| en z2 <| en z3 <| ef <| eb4 z4 <| eb3 z5 <| ec (cj p.kind (k + 4)) <| eb2 z5 <| en3 z6 <| eb z5 <| en z6 <| eb z5 <| en z7 <| e0) (by simp only [bA, dC, z0, z1, z2, z3, z4, z5, z6, z7, vq] <;> rfl)
        · exact rt (eb4 z0 <| eb z1 <| eb3 z2 <| ec (cX p.hello k) <| eb2 z2 <| en6 z3 <| et <| e0) (by simp only [bA, dC, z0, z1, z2, z3, vq] <;> rfl)
      · rcases bft (He.blocks p.hello == 0 && (Ve.cur p.hello.v == 0 && (Ve.bit p.hello.v == 0 && (Ve.o0 p.hello.v == 0 && (Ve.o1 p.hello.v == 0 && true) && true)) && (He.inc p.hello == false && (He.was p.hello == false && (He.dis p.hello == false && (He.pri p.hello == false && (mi p.hello.mask == 0 && true))))))) with z3 | z3
        · rcases bft (decide (Pk.block p < 0)) with z4 | z4
          · exact rt (eb4 z0 <| eb z1 <| eb5 z2 <| ef4 <| en4 z2 <| ef <| en z2 <| ef <| en z3 <| eb4 z4 <| et8 <| e0) (by simp only [bA, dC, z0, z1, z2, z3, z4, vq] <;> rfl)
          · rcases bft (decide (Pk.block p > 31)) with z5 | z5
            · exact rt (eb4 z0 <| eb z1 <| eb5 z2 <| ef4 <| en4 z2 <| ef <| en z2 <| ef <| en z3 <| eb4 z4 <| eb7 z5 <| et <| e0) (by simp only [bA, dC, z0, z1, z2, z3, z4, z5, vq] <;> rfl)
            · rcases bft (bJ p.kind) with z6 | z6
              · rcases bft (fH p.kind) with z7 | z7
                · exact rt (eb4 z0 <| eb z1 <| eb5 z2 <| ef4 <| en4 z2 <| ef <| en z2 <| ef <| en z3 <| eb4 z4 <| eb3 z5 <| ec (cj p.kind (k + 4)) <| eb2 z5 <| en3 z6 <| eb z5 <| en z6 <| eb z5 <| ef <| ec (lc p.kind (k + 4)) <| eb z7 <| e0) (by simp only [bA, dC, z0, z1, z2, z3, z4, z5, z6, z7, vq] <;> rfl)
                · exact rt (eb4 z0 <| eb z1 <| eb5 z2 <| ef4 <| en4 z2 <| ef <| en z2 <| ef <| en z3 <| eb4 z4 <| eb3 z5 <| ec (cj p.kind (k + 4)) <| eb2 z5 <| en3 z6 <| eb z5 <| en z6 <| eb z5 <| ef <| ec (lc p.kind (k + 4)) <| eb z7 <| e0) (by simp only [bA, dC, z0, z1, z2, z3, z4, z5, z6, z7, vq] <;> rfl)
              · rcases bft (Pk.block p == 0) with z7 | z7
                · rcases bft (fH p.kind) with z8 | z8
                  · exact rt (eb4 z0 <| eb z1 <| eb5 z2 <| ef4 <| en4 z2 <| ef <| en z2 <| ef <| en z3 <| eb4 z4 <| eb3 z5 <| ec (cj p.kind (k + 4)) <| eb2 z5 <| en3 z6 <| eb z5 <| en z6 <| eb z5 <| en z7 <| ec (lc p.kind (k + 4)) <| eb z8 <| e0) (by simp only [bA, dC, z0, z1, z2, z3, z4, z5, z6, z7, z8, vq] <;> rfl)
                  · exact rt (eb4 z0 <| eb z1 <| eb5 z2 <| ef4 <| en4 z2 <| ef <| en z2 <| ef <| en z3 <| eb4 z4 <| eb3 z5 <| ec (cj p.kind (k + 4)) <| eb2 z5 <| en3 z6 <| eb z5 <| en z6 <| eb z5 <| en z7 <| ec (lc p.kind (k + 4)) <| eb z8 <| e0) (by simp only [bA, dC, z0, z1, z2, z3, z4, z5, z6, z7, z8, vq] <;> rfl)
                · exact rt (eb4 z0 <| eb z1 <| eb5 z2 <| ef4 <| en4 z2 <| ef <| en z2 <| ef <| en z3 <| eb4 z4 <| eb3 z5 <| ec (cj p.kind (k + 4)) <| eb2 z5 <| en3 z6 <| eb z5 <| en z6 <| eb z5 <| en z7 <| e0) (by simp only [bA, dC, z0, z1, z2, z3, z4, z5, z6, z7, vq] <;> rfl)
        · exact rt (eb4 z0 <| eb z1 <| eb5 z2 <| ef4 <| en4 z2 <| ef <| en z2 <| ef <| en z3 <| e0) (by simp only [bA, dC, z0, z1, z2, z3, vq] <;> rfl)
end Go.Dm
namespace Go.Dm
open Go
theorem uK (p : Pk) (hh : ByteArray.size (gH p.hello).1 ≤ 38) (hd : p.data.size ≤ 1000000) (k : Nat) : aj PP GL XX HH NN (k + 7) 126 [A.agg (Pk.cs p)] [] = some ([Res.c (st (cd p))], []) := by
  rcases bft (Pk.kind p == 1) with z0 | z0
  · rcases bft (bJ p.kind) with z1 | z1
    · exact rt (ep (rfl : some ([IntKind.wrap .u8 p.kind]) = some ([IntKind.wrap .u8 p.kind])) <| eg (G.str [IntKind.wrap .u8 p.kind]) <| ec (lF p.ses (k + 4)) <| ep (show ByteArray.size (cw [IntKind.wrap .u8 p.kind]) + ByteArray.size (ea p.ses) ≤ 9223372036854775807 from by first | omega | (simp only [ByteArray.size_append, aq, aJ, aQ, List.size_toArray, ap, az, ar, al, ak, List.length_cons, List.length_nil] at *; omega)) <| eg (G.ok) <| eb z0 <| ec (xq p.hello k) <| ep (show ByteArray.size (cw [IntKind.wrap .u8 p.kind] ++ ea p.ses) + ByteArray.size (gH p.hello).1 ≤ 9223372036854775807 from by first | omega | (simp only [ByteArray.size_append, aq, aJ, aQ, List.size_toArray, ap, az, ar, al, ak, List.length_cons, List.length_nil] at *; omega)) <| eg (G.ok) <| ec (cj p.kind (k + 5)) <| eb z1 <| ep (rfl : some ([IntKind.wrap .u8 p.block]) = some ([IntKind.wrap .u8 p.block])) <| eg (G.str [IntKind.wrap .u8 p.block]) <| ep (show ByteArray.size (cw [IntKind.wrap .u8 p.kind] ++ ea p.ses ++ Prod.fst (gH p.hello)) + ByteArray.size (cw [IntKind.wrap .u8 p.block]) ≤ 9223372036854775807 from by first | omega | (simp only [ByteArray.size_append, aq, aJ, aQ, List.size_toArray, ap, az, ar, al, ak, List.length_cons, List.length_nil] at *; omega)) <| eg (G.ok) <| ep (show ByteArray.size (cw [IntKind.wrap .u8 p.kind] ++ ea p.ses ++ Prod.fst (gH p.hello) ++ cw [IntKind.wrap .u8 p.block]) + p.data.size ≤ 9223372036854775807 from by first | omega | (simp only [ByteArray.size_append, aq, aJ, aQ, List.size_toArray, ap, az, ar, al, ak, List.length_cons, List.length_nil] at *; omega)) <| eg (G.ok) <| e0) (by simp only [cd, iR, z0, z1, vq] <;> rfl)
    · exact rt (ep (rfl : some ([IntKind.wrap .u8 p.kind]) = some ([IntKind.wrap .u8 p.kind])) <| eg (G.str [IntKind.wrap .u8 p.kind]) <| ec (lF p.ses (k + 4)) <| ep (show ByteArray.size (cw [IntKind.wrap .u8 p.kind]) + ByteArray.size (ea p.ses) ≤ 9223372036854775807 from by first | omega | (simp only [ByteArray.size_append, aq, aJ, aQ, List.size_toArray, ap, az, ar, al, ak, List.length_cons, List.length_nil] at *; omega)) <| eg (G.ok) <| eb z0 <| ec (xq p.hello k) <| ep (show ByteArray.size (cw [IntKind.wrap .u8 p.kind] ++ ea p.ses) + ByteArray.size (gH p.hello).1 ≤ 9223372036854775807 from by first | omega | (simp only [ByteArray.size_append, aq, aJ, aQ, List.size_toArray, ap, az, ar, al, ak, List.length_cons, List.length_nil] at *; omega)) <| eg (G.ok) <| ec (cj p.kind (k + 5)) <| eb z1 <| ep (show ByteArray.size (cw [IntKind.wrap .u8 p.kind] ++ ea p.ses ++ Prod.fst (gH p.hello)) + p.data.size ≤ 9223372036854775807 from by first | omega | (simp only [ByteArray.size_append, aq, aJ, aQ, List.size_toArray, ap, az, ar, al, ak, List.length_cons, List.length_nil] at *; omega)) <| eg (G.ok) <| e0) (by simp only [cd, iR, z0, z1, vq] <;> rfl)
  · rcases bft (bJ p.kind) with z1 | z1
    · exact rt (ep (rfl : some ([IntKind.wrap .u8 p.kind]) = some ([IntKind.wrap .u8 p.kind])) <| eg (G.str [IntKind.wrap .u8 p.kind]) <| ec (lF p.ses (k + 4)) <| ep (show ByteArray.size (cw [IntKind.wrap .u8 p.kind]) + ByteArray.size (ea p.ses) ≤ 9223372036854775807 from by first | omega | (simp only [ByteArray.size_append, aq, aJ, aQ, List.size_toArray, ap, az, ar, al, ak, List.length_cons, List.length_nil] at *; omega)) <| eg (G.ok) <| eb z0 <| ec (cj p.kind (k + 5)) <| eb z1 <| ep (rfl : some ([IntKind.wrap .u8 p.block]) = some ([IntKind.wrap .u8 p.block])) <| eg (G.str [IntKind.wrap .u8 p.block]) <| ep (show ByteArray.size (cw [IntKind.wrap .u8 p.kind] ++ ea p.ses) + ByteArray.size (cw [IntKind.wrap .u8 p.block]) ≤ 9223372036854775807 from by first | omega | (simp only [ByteArray.size_append, aq, aJ, aQ, List.size_toArray, ap, az, ar, al, ak, List.length_cons, List.length_nil] at *; omega)) <| eg (G.ok) <| ep (show ByteArray.size (cw [IntKind.wrap .u8 p.kind] ++ ea p.ses ++ cw [IntKind.wrap .u8 p.block]) + p.data.size ≤ 9223372036854775807 from by first | omega | (simp only [ByteArray.size_append, aq, aJ, aQ, List.size_toArray, ap, az, ar, al, ak, List.length_cons, List.length_nil] at *; omega)) <| eg (G.ok) <| e0) (by simp only [cd, iR, z0, z1, vq] <;> rfl)
    · exact rt (ep (rfl : some ([IntKind.wrap .u8 p.kind]) = some ([IntKind.wrap .u8 p.kind])) <| eg (G.str [IntKind.wrap .u8 p.kind]) <| ec (lF p.ses (k + 4)) <| ep (show ByteArray.size (cw [IntKind.wrap .u8 p.kind]) + ByteArray.size (ea p.ses) ≤ 9223372036854775807 from by first | omega | (simp only [ByteArray.size_append, aq, aJ, aQ, List.size_toArray, ap, az, ar, al, ak, List.length_cons, List.length_nil] at *; omega)) <| eg (G.ok) <| eb z0 <| ec (cj p.kind (k + 5)) <| eb z1 <| ep (show ByteArray.size (cw [IntKind.wrap .u8 p.kind] ++ ea p.ses) + p.data.size ≤ 9223372036854775807 from by first | omega | (simp only [ByteArray.size_append, aq, aJ, aQ, List.size_toArray, ap, az, ar, al, ak, List.length_cons, List.length_nil] at *; omega)) <| eg (G.ok) <| e0) (by simp only [cd, iR, z0, z1, vq] <;> rfl)
theorem dR (p : Pk) (hd : p.data.size ≤ 1000000) (k : Nat) : aj PP GL XX HH NN (k + 7) 126 [.agg p.cs] [] = some ([.c (st (cd p))], []) := uK p (kL _) hd k
theorem rI (p : Pk) : (iR p).size ≤ 48 := by
  have h := kL p.hello
  unfold iR
  cases bJ p.kind <;> cases p.kind == 1 <;> simp only [cond_true, cond_false, ByteArray.size_append, aq, ap, List.length_cons, List.length_nil] <;> omega
theorem rz (p : Pk) : (cd p).size ≤ p.data.size + 48 := by
  have := rI p
  unfold cd
  rw [ByteArray.size_append]
  omega
theorem zn (p : Pk) (hd : p.data.size ≤ 900000) (hz : ByteArray.size (cd p) ≤ 1000000) (k : Nat) : aj PP GL XX HH NN (k + 8) 105 [A.agg (Pk.cs p)] [] = some ([Res.c (st (dF p).1), Res.c (ii (dF p).2)], []) := by
  rcases bft (bA p) with z0 | z0
  · exact rt (ec (cC p (k + 1)) <| en z0 <| ec (dR p (show p.data.size ≤ 1000000 from by first | omega | (simp only [ByteArray.size_append, aq, aJ, aQ, List.size_toArray, ap, az, ar, al, ak, List.length_cons, List.length_nil] at *; omega)) k) <| ec (od (cd p) hz (k + 3)) <| e0) (by simp only [dF, z0, vq] <;> rfl)
  · exact rt (ec (cC p (k + 1)) <| en z0 <| e0) (by simp only [dF, z0, vq] <;> rfl)
theorem BS (p : Pk) (hd : p.data.size ≤ 900000) (k : Nat) : aj PP GL XX HH NN (k + 8) 105 [.agg p.cs] [] = some ([.c (st (dF p).1), .c (ii (dF p).2)], []) := zn p hd (by have := rz p; omega) k
theorem Eu (b : ByteArray) (hb : b.size ≤ 800000) (h1 : (Prod.snd (aa b) == 0) = false) (k : Nat) : aj PP GL XX HH NN (k + 8) 98 [A.c (st b)] [] = some ([Res.agg (Pk.cs (bc b).1), Res.c (ii (bc b).2)], []) := by
  exact rt (ec (eT b (show b.size ≤ 1000000 from by omega) (k + 2)) <| en h1 <| e0) (by simp only [bc, h1, vq] <;> rfl)
theorem C6 (b : ByteArray) (hb : b.size ≤ 800000) (h1 : (Prod.snd (aa b) == 0) = true) (h2 : decide ((↑(ByteArray.size (aa b).1) : Int) < 9) = true) (k : Nat) : aj PP GL XX HH NN (k + 8) 98 [A.c (st b)] [] = some ([Res.agg (Pk.cs (bc b).1), Res.c (ii (bc b).2)], []) := by
  exact rt (ec (eT b (show b.size ≤ 1000000 from by omega) (k + 2)) <| en h1 <| eb h2 <| e0) (by simp only [bc, e7, h1, h2, vq] <;> rfl)
theorem D1 (b : ByteArray) (hb : b.size ≤ 800000) (h1 : (Prod.snd (aa b) == 0) = true) (h2 : decide ((↑(ByteArray.size (aa b).1) : Int) < 9) = false) (hs : (9 : Nat) ≤ ByteArray.size (aa b).1) (hs2 : ByteArray.size (aa b).1 ≤ 800000) (h3 : (aa b).1[0]? = some (ae (aa b).1 0)) (h4 : ByteArray.size (ByteArray.extract (aa b).1 1 9) = 8) (h5 : (IntKind.wrap .i64 (↑(UInt8.toNat (ae (aa b).1 0)) : Int) == 1) = true) (h6 : bJ (IntKind.wrap .i64 (↑(UInt8.toNat (ae (aa b).1 0)) : Int)) = false) (k : Nat) : aj PP GL XX HH NN (k + 8) 98 [A.c (st b)] [] = some ([Res.agg (Pk.cs (bc b).1), Res.c (ii (bc b).2)], []) := by
  rcases bft (Prod.snd (eR (ByteArray.extract (aa b).1 9 (ByteArray.size (aa b).1))) == 0) with z0 | z0
  · rcases bft (bA (Pk.mk (IntKind.wrap .i64 (↑(UInt8.toNat (ae (aa b).1 0)) : Int)) (eX (Array.toList (ByteArray.data (ByteArray.extract (aa b).1 1 9)))) (eR (ByteArray.extract (aa b).1 9 (ByteArray.size (aa b).1))).1 0 ⟨#[]⟩)) with z1 | z1
    · rcases bft (cd (Pk.mk (IntKind.wrap .i64 (↑(UInt8.toNat (ae (aa b).1 0)) : Int)) (eX (Array.toList (ByteArray.data (ByteArray.extract (aa b).1 1 9)))) (eR (ByteArray.extract (aa b).1 9 (ByteArray.size (aa b).1))).1 0 ⟨#[]⟩) == Prod.fst (aa b)) with z2 | z2
      · exact rt (ec (eT b (show b.size ≤ 1000000 from by omega) (k + 2)) <| en h1 <| eb h2 <| ep (rfl : (9 : Int) = (9 : Int)) <| ep (rfl : (1 : Int) = (1 : Int)) <| ep (show (1 : Nat) ≤ 9 from by decide) <| ep hs <| eg (G.cut 1 9 []) <| ec (jj (ByteArray.extract (aa b).1 1 9) h4 (k + 5)) <| ep (rfl : (0 : Int) = (0 : Int)) <| ep h3 <| eg (G.byte 0 (ae (aa b).1 0)) <| ep (rfl : ByteArray.size (aa b).1 = ByteArray.size (aa b).1) <| ep (rfl : (9 : Int) = (9 : Int)) <| ep hs <| ep (show ByteArray.size (aa b).1 ≤ ByteArray.size (aa b).1 from by omega) <| eg (G.cut 9 (ByteArray.size (aa b).1) []) <| eb h5 <| ec (pl (ByteArray.extract (aa b).1 9 (ByteArray.size (aa b).1)) (k + 1)) <| en z0 <| ec (cj (IntKind.wrap .i64 (↑(UInt8.toNat (ae (aa b).1 0)) : Int)) (k + 6)) <| eb4 h6 <| ef <| ec (cC ((Pk.mk (IntKind.wrap .i64 (↑(UInt8.toNat (ae (aa b).1 0)) : Int)) (eX (Array.toList (ByteArray.data (ByteArray.extract (aa b).1 1 9)))) (eR (ByteArray.extract (aa b).1 9 (ByteArray.size (aa b).1))).1 0 ⟨#[]⟩)) (k + 1)) <| en2 z1 <| ec (dR ((Pk.mk (IntKind.wrap .i64 (↑(UInt8.toNat (ae (aa b).1 0)) : Int)) (eX (Array.toList (ByteArray.data (ByteArray.extract (aa b).1 1 9)))) (eR (ByteArray.extract (aa b).1 9 (ByteArray.size (aa b).1))).1 0 ⟨#[]⟩)) (show ByteArray.size ⟨#[]⟩ ≤ 1000000 from by decide) k) <| en3 z1 <| en z2 <| e0) (by simp only [bc, e7, ng, h1, h2, h5, z0, z1, z2, vq] <;> rfl)
      · exact rt (ec (eT b (show b.size ≤ 1000000 from by omega) (k + 2)) <| en h1 <| eb h2 <| ep (rfl : (9 : Int) = (9 : Int)) <| ep (rfl : (1 : Int) = (1 : Int)) <| ep (show (1 : Nat) ≤ 9 from by decide) <| ep hs <| eg (G.cut 1 9 []) <| ec (jj (ByteArray.extract (aa b).1 1 9) h4 (k + 5)) <| ep (rfl : (0 : Int) = (0 : Int)) <| ep h3 <| eg (G.byte 0 (ae (aa b).1 0)) <| ep (rfl : ByteArray.size (aa b).1 = ByteArray.size (aa b).1) <| ep (rfl : (9 : Int) = (9 : Int)) <| ep hs <| ep (show ByteArray.size (aa b).1 ≤ ByteArray.size (aa b).1 from by omega) <| eg (G.cut 9 (ByteArray.size (aa b).1) []) <| eb h5 <| ec (pl (ByteArray.extract (aa b).1 9 (ByteArray.size (aa b).1)) (k + 1)) <| en z0 <| ec (cj (IntKind.wrap .i64 (↑(UInt8.toNat (ae (aa b).1 0)) : Int)) (k + 6)) <| eb4 h6 <| ef <| ec (cC ((Pk.mk (IntKind.wrap .i64 (↑(UInt8.toNat (ae (aa b).1 0)) : Int)) (eX (Array.toList (ByteArray.data (ByteArray.extract (aa b).1 1 9)))) (eR (ByteArray.extract (aa b).1 9 (ByteArray.size (aa b).1))).1 0 ⟨#[]⟩)) (k + 1)) <| en2 z1 <| ec (dR ((Pk.mk (IntKind.wrap .i64 (↑(UInt8.toNat (ae (aa b).1 0)) : Int)) (eX (Array.toList (ByteArray.data (ByteArray.extract (aa b).1 1 9)))) (eR (ByteArray.extract (aa b).1 9 (ByteArray.size (aa b).1))).1 0 ⟨#[]⟩)) (show ByteArray.size ⟨#[]⟩ ≤ 1000000 from by decide) k) <| en3 z1 <| en z2 <| e0) (by simp only [bc, e7, ng, h1, h2, h5, z0, z1, z2, vq] <;> rfl)
    · exact rt (ec (eT b (show b.size ≤ 1000000 from by omega) (k + 2)) <| en h1 <| eb h2 <| ep (rfl : (9 : Int) = (9 : Int)) <| ep (rfl : (1 : Int) = (1 : Int)) <| ep (show (1 : Nat) ≤ 9 from by decide) <| ep hs <| eg (G.cut 1 9 []) <| ec (jj (ByteArray.extract (aa b).1 1 9) h4 (k + 5)) <| ep (rfl : (0 : Int) = (0 : Int)) <| ep h3 <| eg (G.byte 0 (ae (aa b).1 0)) <| ep (rfl : ByteArray.size (aa b).1 = ByteArray.size (aa b).1) <| ep (rfl : (9 : Int) = (9 : Int)) <| ep hs <| ep (show ByteArray.size (aa b).1 ≤ ByteArray.size (aa b).1 from by omega) <| eg (G.cut 9 (ByteArray.size (aa b).1) []) <| eb h5 <| ec (pl (ByteArray.extract (aa b).1 9 (ByteArray.size (aa b).1)) (k + 1)) <| en z0 <| ec (cj (IntKind.wrap .i64 (↑(UInt8.toNat (ae (aa b).1 0)) : Int)) (k + 6)) <| eb4 h6 <| ef <| ec (cC ((Pk.mk (IntKind.wrap .i64 (↑(UInt8.toNat (ae (aa b).1 0)) : Int)) (eX (Array.toList (ByteArray.data (ByteArray.extract (aa b).1 1 9)))) (eR (ByteArray.extract (aa b).1 9 (ByteArray.size (aa b).1))).1 0 ⟨#[]⟩)) (k + 1)) <| en5 z1 <| et <| e0) (by simp only [bc, e7, ng, h1, h2, h5, z0, z1, vq] <;> rfl)
  · exact rt (ec (eT b (show b.size ≤ 1000000 from by omega) (k + 2)) <| en h1 <| eb h2 <| ep (rfl : (9 : Int) = (9 : Int)) <| ep (rfl : (1 : Int) = (1 : Int)) <| ep (show (1 : Nat) ≤ 9 from by decide) <| ep hs <| eg (G.cut 1 9 []) <| ec (jj (ByteArray.extract (aa b).1 1 9) h4 (k + 5)) <| ep (rfl : (0 : Int) = (0 : Int)) <| ep h3 <| eg (G.byte 0 (ae (aa b).1 0)) <| ep (rfl : ByteArray.size (aa b).1 = ByteArray.size (aa b).1) <| ep (rfl : (9 : Int) = (9 : Int)) <| ep hs <| ep (show ByteArray.size (aa b).1 ≤ ByteArray.size (aa b).1 from by omega) <| eg (G.cut 9 (ByteArray.size (aa b).1) []) <| eb h5 <| ec (pl (ByteArray.extract (aa b).1 9 (ByteArray.size (aa b).1)) (k + 1)) <| en z0 <| e0) (by simp only [bc, e7, ng, h1, h2, h5, z0, vq] <;> rfl)
theorem Dw (b : ByteArray) (hb : b.size ≤ 800000) (h1 : (Prod.snd (aa b) == 0) = true) (h2 : decide ((↑(ByteArray.size (aa b).1) : Int) < 9) = false) (hs : (9 : Nat) ≤ ByteArray.size (aa b).1) (hs2 : ByteArray.size (aa b).1 ≤ 800000) (h3 : (aa b).1[0]? = some (ae (aa b).1 0)) (h4 : ByteArray.size (ByteArray.extract (aa b).1 1 9) = 8) (h5 : (IntKind.wrap .i64 (↑(UInt8.toNat (ae (aa b).1 0)) : Int) == 1) = false) (h6 : bJ (IntKind.wrap .i64 (↑(UInt8.toNat (ae (aa b).1 0)) : Int)) = false) (h7 : ByteArray.size (ByteArray.extract (aa b).1 9 (ByteArray.size (aa b).1)) ≤ 800000) (k : Nat) : aj PP GL XX HH NN (k + 8) 98 [A.c (st b)] [] = some ([Res.agg (Pk.cs (bc b).1), Res.c (ii (bc b).2)], []) := by
  rcases bft (bA (Pk.mk (IntKind.wrap .i64 (↑(UInt8.toNat (ae (aa b).1 0)) : Int)) (eX (Array.toList (ByteArray.data (ByteArray.extract (aa b).1 1 9)))) ((He.mk 0 ((Ve.mk 0 0 0 0)) false false false false (BitVec.ofNat 32 0))) 0 (ByteArray.extract (aa b).1 9 (ByteArray.size (aa b).1)))) with z0 | z0
  · rcases bft (cd (Pk.mk (IntKind.wrap .i64 (↑(UInt8.toNat (ae (aa b).1 0)) : Int)) (eX (Array.toList (ByteArray.data (ByteArray.extract (aa b).1 1 9)))) ((He.mk 0 ((Ve.mk 0 0 0 0)) false false false false (BitVec.ofNat 32 0))) 0 (ByteArray.extract (aa b).1 9 (ByteArray.size (aa b).1))) == Prod.fst (aa b)) with z1 | z1
    · exact rt (ec (eT b (show b.size ≤ 1000000 from by omega) (k + 2)) <| en h1 <| eb h2 <| ep (rfl : (9 : Int) = (9 : Int)) <| ep (rfl : (1 : Int) = (1 : Int)) <| ep (show (1 : Nat) ≤ 9 from by decide) <| ep hs <| eg (G.cut 1 9 []) <| ec (jj (ByteArray.extract (aa b).1 1 9) h4 (k + 5)) <| ep (rfl : (0 : Int) = (0 : Int)) <| ep h3 <| eg (G.byte 0 (ae (aa b).1 0)) <| ep (rfl : ByteArray.size (aa b).1 = ByteArray.size (aa b).1) <| ep (rfl : (9 : Int) = (9 : Int)) <| ep hs <| ep (show ByteArray.size (aa b).1 ≤ ByteArray.size (aa b).1 from by omega) <| eg (G.cut 9 (ByteArray.size (aa b).1) []) <| eb h5 <| ec (cj (IntKind.wrap .i64 (↑(UInt8.toNat (ae (aa b).1 0)) : Int)) (k + 6)) <| eb4 h6 <| ef <| ec (cC ((Pk.mk (IntKind.wrap .i64 (↑(UInt8.toNat (ae (aa b).1 0)) : Int)) (eX (Array.toList (ByteArray.data (ByteArray.extract (aa b).1 1 9)))) ((He.mk 0 ((Ve.mk 0 0 0 0)) false false false false (BitVec.ofNat 32 0))) 0 (ByteArray.extract (aa b).1 9 (ByteArray.size (aa b).1)))) (k + 1)) <| en2 z0 <| ec (dR ((Pk.mk (IntKind.wrap .i64 (↑(UInt8.toNat (ae (aa b).1 0)) : Int)) (eX (Array.toList (ByteArray.data (ByteArray.extract (aa b).1 1 9)))) ((He.mk 0 ((Ve.mk 0 0 0 0)) false false false false (BitVec.ofNat 32 0))) 0 (ByteArray.extract (aa b).1 9 (ByteArray.size (aa b).1)))) (show ByteArray.size (ByteArray.extract (aa b).1 (9 : Nat) (ByteArray.size (aa b).1)) ≤ 1000000 from by first | omega | (simp only [ByteArray.size_append, aq, aJ, aQ, List.size_toArray, ap, az, ar, al, ak, List.length_cons, List.length_nil] at *; omega)) k) <| en3 z0 <| en z1 <| e0) (by simp only [bc, e7, ng, he0, h1, h2, h5, h6, z0, z1, vq] <;> rfl)
    · exact rt (ec (eT b (show b.size ≤ 1000000 from by omega) (k + 2)) <| en h1 <| eb h2 <| ep (rfl : (9 : Int) = (9 : Int)) <| ep (rfl : (1 : Int) = (1 : Int)) <| ep (show (1 : Nat) ≤ 9 from by decide) <| ep hs <| eg (G.cut 1 9 []) <| ec (jj (ByteArray.extract (aa b).1 1 9) h4 (k + 5)) <| ep (rfl : (0 : Int) = (0 : Int)) <| ep h3 <| eg (G.byte 0 (ae (aa b).1 0)) <| ep (rfl : ByteArray.size (aa b).1 = ByteArray.size (aa b).1) <| ep (rfl : (9 : Int) = (9 : Int)) <| ep hs <| ep (show ByteArray.size (aa b).1 ≤ ByteArray.size (aa b).1 from by omega) <| eg (G.cut 9 (ByteArray.size (aa b).1) []) <| eb h5 <| ec (cj (IntKind.wrap .i64 (↑(UInt8.toNat (ae (aa b).1 0)) : Int)) (k + 6)) <| eb4 h6 <| ef <| ec (cC ((Pk.mk (IntKind.wrap .i64 (↑(UInt8.toNat (ae (aa b).1 0)) : Int)) (eX (Array.toList (ByteArray.data (ByteArray.extract (aa b).1 1 9)))) ((He.mk 0 ((Ve.mk 0 0 0 0)) false false false false (BitVec.ofNat 32 0))) 0 (ByteArray.extract (aa b).1 9 (ByteArray.size (aa b).1)))) (k + 1)) <| en2 z0 <| ec (dR ((Pk.mk (IntKind.wrap .i64 (↑(UInt8.toNat (ae (aa b).1 0)) : Int)) (eX (Array.toList (ByteArray.data (ByteArray.extract (aa b).1 1 9)))) ((He.mk 0 ((Ve.mk 0 0 0 0)) false false false false (BitVec.ofNat 32 0))) 0 (ByteArray.extract (aa b).1 9 (ByteArray.size (aa b).1)))) (show ByteArray.size (ByteArray.extract (aa b).1 (9 : Nat) (ByteArray.size (aa b).1)) ≤ 1000000 from by first | omega | (simp only [ByteArray.size_append, aq, aJ, aQ, List.size_toArray, ap, az, ar, al, ak, List.length_cons, List.length_nil] at *; omega)) k) <| en3 z0 <| en z1 <| e0) (by simp only [bc, e7, ng, he0, h1, h2, h5, h6, z0, z1, vq] <;> rfl)
  · exact rt (ec (eT b (show b.size ≤ 1000000 from by omega) (k + 2)) <| en h1 <| eb h2 <| ep (rfl : (9 : Int) = (9 : Int)) <| ep (rfl : (1 : Int) = (1 : Int)) <| ep (show (1 : Nat) ≤ 9 from by decide) <| ep hs <| eg (G.cut 1 9 []) <| ec (jj (ByteArray.extract (aa b).1 1 9) h4 (k + 5)) <| ep (rfl : (0 : Int) = (0 : Int)) <| ep h3 <| eg (G.byte 0 (ae (aa b).1 0)) <| ep (rfl : ByteArray.size (aa b).1 = ByteArray.size (aa b).1) <| ep (rfl : (9 : Int) = (9 : Int)) <| ep hs <| ep (show ByteArray.size (aa b).1 ≤ ByteArray.size (aa b).1 from by omega) <| eg (G.cut 9 (ByteArray.size (aa b).1) []) <| eb h5 <| ec (cj (IntKind.wrap .i64 (↑(UInt8.toNat (ae (aa b).1 0)) : Int)) (k + 6)) <| eb4 h6 <| ef <| ec (cC ((Pk.mk (IntKind.wrap .i64 (↑(UInt8.toNat (ae (aa b).1 0)) : Int)) (eX (Array.toList (ByteArray.data (ByteArray.extract (aa b).1 1 9)))) ((He.mk 0 ((Ve.mk 0 0 0 0)) false false false false (BitVec.ofNat 32 0))) 0 (ByteArray.extract (aa b).1 9 (ByteArray.size (aa b).1)))) (k + 1)) <| en5 z0 <| et <| e0) (by simp only [bc, e7, ng, he0, h1, h2, h5, h6, z0, vq] <;> rfl)
theorem DE (b : ByteArray) (hb : b.size ≤ 800000) (h1 : (Prod.snd (aa b) == 0) = true) (h2 : decide ((↑(ByteArray.size (aa b).1) : Int) < 9) = false) (hs : (9 : Nat) ≤ ByteArray.size (aa b).1) (hs2 : ByteArray.size (aa b).1 ≤ 800000) (h3 : (aa b).1[0]? = some (ae (aa b).1 0)) (h4 : ByteArray.size (ByteArray.extract (aa b).1 1 9) = 8) (h5 : (IntKind.wrap .i64 (↑(UInt8.toNat (ae (aa b).1 0)) : Int) == 1) = false) (h6 : bJ (IntKind.wrap .i64 (↑(UInt8.toNat (ae (aa b).1 0)) : Int)) = true) (h7 : ByteArray.size (ByteArray.extract (aa b).1 9 (ByteArray.size (aa b).1)) ≤ 800000) (h8 : decide ((↑(ByteArray.size (ByteArray.extract (aa b).1 9 (ByteArray.size (aa b).1))) : Int) > 0) = false) (h8r : o6 (aa b).1 = false) (k : Nat) : aj PP GL XX HH NN (k + 8) 98 [A.c (st b)] [] = some ([Res.agg (Pk.cs (bc b).1), Res.c (ii (bc b).2)], []) := by
  rcases bft (bA (Pk.mk (IntKind.wrap .i64 (↑(UInt8.toNat (ae (aa b).1 0)) : Int)) (eX (Array.toList (ByteArray.data (ByteArray.extract (aa b).1 1 9)))) ((He.mk 0 ((Ve.mk 0 0 0 0)) false false false false (BitVec.ofNat 32 0))) 0 (ByteArray.extract (aa b).1 9 (ByteArray.size (aa b).1)))) with z0 | z0
  · rcases bft (cd (Pk.mk (IntKind.wrap .i64 (↑(UInt8.toNat (ae (aa b).1 0)) : Int)) (eX (Array.toList (ByteArray.data (ByteArray.extract (aa b).1 1 9)))) ((He.mk 0 ((Ve.mk 0 0 0 0)) false false false false (BitVec.ofNat 32 0))) 0 (ByteArray.extract (aa b).1 9 (ByteArray.size (aa b).1))) == Prod.fst (aa b)) with z1 | z1
    · exact rt (ec (eT b (show b.size ≤ 1000000 from by omega) (k + 2)) <| en h1 <| eb h2 <| ep (rfl : (9 : Int) = (9 : Int)) <| ep (rfl : (1 : Int) = (1 : Int)) <| ep (show (1 : Nat) ≤ 9 from by decide) <| ep hs <| eg (G.cut 1 9 []) <| ec (jj (ByteArray.extract (aa b).1 1 9) h4 (k + 5)) <| ep (rfl : (0 : Int) = (0 : Int)) <| ep h3 <| eg (G.byte 0 (ae (aa b).1 0)) <| ep (rfl : ByteArray.size (aa b).1 = ByteArray.size (aa b).1) <| ep (rfl : (9 : Int) = (9 : Int)) <| ep hs <| ep (show ByteArray.size (aa b).1 ≤ ByteArray.size (aa b).1 from by omega) <| eg (G.cut 9 (ByteArray.size (aa b).1) []) <| eb h5 <| ec (cj (IntKind.wrap .i64 (↑(UInt8.toNat (ae (aa b).1 0)) : Int)) (k + 6)) <| eb4 h6 <| eb h8 <| ec (cC ((Pk.mk (IntKind.wrap .i64 (↑(UInt8.toNat (ae (aa b).1 0)) : Int)) (eX (Array.toList (ByteArray.data (ByteArray.extract (aa b).1 1 9)))) ((He.mk 0 ((Ve.mk 0 0 0 0)) false false false false (BitVec.ofNat 32 0))) 0 (ByteArray.extract (aa b).1 9 (ByteArray.size (aa b).1)))) (k + 1)) <| en2 z0 <| ec (dR ((Pk.mk (IntKind.wrap .i64 (↑(UInt8.toNat (ae (aa b).1 0)) : Int)) (eX (Array.toList (ByteArray.data (ByteArray.extract (aa b).1 1 9)))) ((He.mk 0 ((Ve.mk 0 0 0 0)) false false false false (BitVec.ofNat 32 0))) 0 (ByteArray.extract (aa b).1 9 (ByteArray.size (aa b).1)))) (show ByteArray.size (ByteArray.extract (aa b).1 (9 : Nat) (ByteArray.size (aa b).1)) ≤ 1000000 from by first | omega | (simp only [ByteArray.size_append, aq, aJ, aQ, List.size_toArray, ap, az, ar, al, ak, List.length_cons, List.length_nil] at *; omega)) k) <| en3 z0 <| en z1 <| e0) (by simp only [bc, e7, ng, he0, h1, h2, h5, h6, h8r, z0, z1, vq] <;> rfl)
    · exact rt (ec (eT b (show b.size ≤ 1000000 from by omega) (k + 2)) <| en h1 <| eb h2 <| ep (rfl : (9 : Int) = (9 : Int)) <| ep (rfl : (1 : Int) = (1 : Int)) <| ep (show (1 : Nat) ≤ 9 from by decide) <| ep hs <| eg (G.cut 1 9 []) <| ec (jj (ByteArray.extract (aa b).1 1 9) h4 (k + 5)) <| ep (rfl : (0 : Int) = (0 : Int)) <| ep h3 <| eg (G.byte 0 (ae (aa b).1 0)) <| ep (rfl : ByteArray.size (aa b).1 = ByteArray.size (aa b).1) <| ep (rfl : (9 : Int) = (9 : Int)) <| ep hs <| ep (show ByteArray.size (aa b).1 ≤ ByteArray.size (aa b).1 from by omega) <| eg (G.cut 9 (ByteArray.size (aa b).1) []) <| eb h5 <| ec (cj (IntKind.wrap .i64 (↑(UInt8.toNat (ae (aa b).1 0)) : Int)) (k + 6)) <| eb4 h6 <| eb h8 <| ec (cC ((Pk.mk (IntKind.wrap .i64 (↑(UInt8.toNat (ae (aa b).1 0)) : Int)) (eX (Array.toList (ByteArray.data (ByteArray.extract (aa b).1 1 9)))) ((He.mk 0 ((Ve.mk 0 0 0 0)) false false false false (BitVec.ofNat 32 0))) 0 (ByteArray.extract (aa b).1 9 (ByteArray.size (aa b).1)))) (k + 1)) <| en2 z0 <| ec (dR ((Pk.mk (IntKind.wrap .i64 (↑(UInt8.toNat (ae (aa b).1 0)) : Int)) (eX (Array.toList (ByteArray.data (ByteArray.extract (aa b).1 1 9)))) ((He.mk 0 ((Ve.mk 0 0 0 0)) false false false false (BitVec.ofNat 32 0))) 0 (ByteArray.extract (aa b).1 9 (ByteArray.size (aa b).1)))) (show ByteArray.size (ByteArray.extract (aa b).1 (9 : Nat) (ByteArray.size (aa b).1)) ≤ 1000000 from by first | omega | (simp only [ByteArray.size_append, aq, aJ, aQ, List.size_toArray, ap, az, ar, al, ak, List.length_cons, List.length_nil] at *; omega)) k) <| en3 z0 <| en z1 <| e0) (by simp only [bc, e7, ng, he0, h1, h2, h5, h6, h8r, z0, z1, vq] <;> rfl)
  · exact rt (ec (eT b (show b.size ≤ 1000000 from by omega) (k + 2)) <| en h1 <| eb h2 <| ep (rfl : (9 : Int) = (9 : Int)) <| ep (rfl : (1 : Int) = (1 : Int)) <| ep (show (1 : Nat) ≤ 9 from by decide) <| ep hs <| eg (G.cut 1 9 []) <| ec (jj (ByteArray.extract (aa b).1 1 9) h4 (k + 5)) <| ep (rfl : (0 : Int) = (0 : Int)) <| ep h3 <| eg (G.byte 0 (ae (aa b).1 0)) <| ep (rfl : ByteArray.size (aa b).1 = ByteArray.size (aa b).1) <| ep (rfl : (9 : Int) = (9 : Int)) <| ep hs <| ep (show ByteArray.size (aa b).1 ≤ ByteArray.size (aa b).1 from by omega) <| eg (G.cut 9 (ByteArray.size (aa b).1) []) <| eb h5 <| ec (cj (IntKind.wrap .i64 (↑(UInt8.toNat (ae (aa b).1 0)) : Int)) (k + 6)) <| eb4 h6 <| eb h8 <| ec (cC ((Pk.mk (IntKind.wrap .i64 (↑(UInt8.toNat (ae (aa b).1 0)) : Int)) (eX (Array.toList (ByteArray.data (ByteArray.extract (aa b).1 1 9)))) ((He.mk 0 ((Ve.mk 0 0 0 0)) false false false false (BitVec.ofNat 32 0))) 0 (ByteArray.extract (aa b).1 9 (ByteArray.size (aa b).1)))) (k + 1)) <| en5 z0 <| et <| e0) (by simp only [bc, e7, ng, he0, h1, h2, h5, h6, h8r, z0, vq] <;> rfl)
theorem Eh (b : ByteArray) (hb : b.size ≤ 800000) (h1 : (Prod.snd (aa b) == 0) = true) (h2 : decide ((↑(ByteArray.size (aa b).1) : Int) < 9) = false) (hs : (9 : Nat) ≤ ByteArray.size (aa b).1) (hs2 : ByteArray.size (aa b).1 ≤ 800000) (h3 : (aa b).1[0]? = some (ae (aa b).1 0)) (h4 : ByteArray.size (ByteArray.extract (aa b).1 1 9) = 8) (h5 : (IntKind.wrap .i64 (↑(UInt8.toNat (ae (aa b).1 0)) : Int) == 1) = false) (h6 : bJ (IntKind.wrap .i64 (↑(UInt8.toNat (ae (aa b).1 0)) : Int)) = true) (h7 : ByteArray.size (ByteArray.extract (aa b).1 9 (ByteArray.size (aa b).1)) ≤ 800000) (h8 : decide ((↑(ByteArray.size (ByteArray.extract (aa b).1 9 (ByteArray.size (aa b).1))) : Int) > 0) = true) (h8r : o6 (aa b).1 = true) (h9 : (ByteArray.extract (aa b).1 9 (ByteArray.size (aa b).1))[0]? = some (ae (ByteArray.extract (aa b).1 9 (ByteArray.size (aa b).1)) 0)) (h10 : (1 : Nat) ≤ ByteArray.size (ByteArray.extract (aa b).1 9 (ByteArray.size (aa b).1))) (h11 : ByteArray.size (ByteArray.extract (ByteArray.extract (aa b).1 9 (ByteArray.size (aa b).1)) 1 (ByteArray.size (ByteArray.extract (aa b).1 9 (ByteArray.size (aa b).1)))) ≤ 800000) (k : Nat) : aj PP GL XX HH NN (k + 8) 98 [A.c (st b)] [] = some ([Res.agg (Pk.cs (bc b).1), Res.c (ii (bc b).2)], []) := by
  rcases bft (bA (Pk.mk (IntKind.wrap .i64 (↑(UInt8.toNat (ae (aa b).1 0)) : Int)) (eX (Array.toList (ByteArray.data (ByteArray.extract (aa b).1 1 9)))) ((He.mk 0 ((Ve.mk 0 0 0 0)) false false false false (BitVec.ofNat 32 0))) (IntKind.wrap .i64 (↑(UInt8.toNat (ae (ByteArray.extract (aa b).1 9 (ByteArray.size (aa b).1)) 0)) : Int)) (ByteArray.extract (ByteArray.extract (aa b).1 9 (ByteArray.size (aa b).1)) 1 (ByteArray.size (ByteArray.extract (aa b).1 9 (ByteArray.size (aa b).1)))))) with z0 | z0
  · rcases bft (cd (Pk.mk (IntKind.wrap .i64 (↑(UInt8.toNat (ae (aa b).1 0)) : Int)) (eX (Array.toList (ByteArray.data (ByteArray.extract (aa b).1 1 9)))) ((He.mk 0 ((Ve.mk 0 0 0 0)) false false false false (BitVec.ofNat 32 0))) (IntKind.wrap .i64 (↑(UInt8.toNat (ae (ByteArray.extract (aa b).1 9 (ByteArray.size (aa b).1)) 0)) : Int)) (ByteArray.extract (ByteArray.extract (aa b).1 9 (ByteArray.size (aa b).1)) 1 (ByteArray.size (ByteArray.extract (aa b).1 9 (ByteArray.size (aa b).1))))) == Prod.fst (aa b)) with z1 | z1
    · exact rt (ec (eT b (show b.size ≤ 1000000 from by omega) (k + 2)) <| en h1 <| eb h2 <| ep (rfl : (9 : Int) = (9 : Int)) <| ep (rfl : (1 : Int) = (1 : Int)) <| ep (show (1 : Nat) ≤ 9 from by decide) <| ep hs <| eg (G.cut 1 9 []) <| ec (jj (ByteArray.extract (aa b).1 1 9) h4 (k + 5)) <| ep (rfl : (0 : Int) = (0 : Int)) <| ep h3 <| eg (G.byte 0 (ae (aa b).1 0)) <| ep (rfl : ByteArray.size (aa b).1 = ByteArray.size (aa b).1) <| ep (rfl : (9 : Int) = (9 : Int)) <| ep hs <| ep (show ByteArray.size (aa b).1 ≤ ByteArray.size (aa b).1 from by omega) <| eg (G.cut 9 (ByteArray.size (aa b).1) []) <| eb h5 <| ec (cj (IntKind.wrap .i64 (↑(UInt8.toNat (ae (aa b).1 0)) : Int)) (k + 6)) <| eb4 h6 <| eb h8 <| ep (rfl : (0 : Int) = (0 : Int)) <| ep h9 <| eg (G.byte 0 (ae (ByteArray.extract (aa b).1 9 (ByteArray.size (aa b).1)) 0)) <| ep (rfl : ByteArray.size (ByteArray.extract (aa b).1 (9 : Nat) (ByteArray.size (aa b).1)) = ByteArray.size (ByteArray.extract (aa b).1 (9 : Nat) (ByteArray.size (aa b).1))) <| ep (rfl : (1 : Int) = (1 : Int)) <| ep h10 <| ep (show ByteArray.size (ByteArray.extract (aa b).1 (9 : Nat) (ByteArray.size (aa b).1)) ≤ ByteArray.size (ByteArray.extract (aa b).1 (9 : Nat) (ByteArray.size (aa b).1)) from by first | omega | (simp only [ByteArray.size_append, aq, aJ, aQ, List.size_toArray, ap, az, ar, al, ak, List.length_cons, List.length_nil] at *; omega)) <| eg (G.cut 1 (ByteArray.size (ByteArray.extract (aa b).1 9 (ByteArray.size (aa b).1))) []) <| ec (cC ((Pk.mk (IntKind.wrap .i64 (↑(UInt8.toNat (ae (aa b).1 0)) : Int)) (eX (Array.toList (ByteArray.data (ByteArray.extract (aa b).1 1 9)))) ((He.mk 0 ((Ve.mk 0 0 0 0)) false false false false (BitVec.ofNat 32 0))) (IntKind.wrap .i64 (↑(UInt8.toNat (ae (ByteArray.extract (aa b).1 9 (ByteArray.size (aa b).1)) 0)) : Int)) (ByteArray.extract (ByteArray.extract (aa b).1 9 (ByteArray.size (aa b).1)) 1 (ByteArray.size (ByteArray.extract (aa b).1 9 (ByteArray.size (aa b).1)))))) (k + 1)) <| en2 z0 <| ec (dR ((Pk.mk (IntKind.wrap .i64 (↑(UInt8.toNat (ae (aa b).1 0)) : Int)) (eX (Array.toList (ByteArray.data (ByteArray.extract (aa b).1 1 9)))) ((He.mk 0 ((Ve.mk 0 0 0 0)) false false false false (BitVec.ofNat 32 0))) (IntKind.wrap .i64 (↑(UInt8.toNat (ae (ByteArray.extract (aa b).1 9 (ByteArray.size (aa b).1)) 0)) : Int)) (ByteArray.extract (ByteArray.extract (aa b).1 9 (ByteArray.size (aa b).1)) 1 (ByteArray.size (ByteArray.extract (aa b).1 9 (ByteArray.size (aa b).1)))))) (show ByteArray.size (ByteArray.extract (ByteArray.extract (aa b).1 (9 : Nat) (ByteArray.size (aa b).1)) (1 : Nat) (ByteArray.size (ByteArray.extract (aa b).1 (9 : Nat) (ByteArray.size (aa b).1)))) ≤ 1000000 from by first | omega | (simp only [ByteArray.size_append, aq, aJ, aQ, List.size_toArray, ap, az, ar, al, ak, List.length_cons, List.length_nil] at *; omega)) k) <| en3 z0 <| en z1 <| e0) (by simp only [bc, e7, ng, he0, h1, h2, h5, h6, h8r, z0, z1, vq] <;> rfl)
    · exact rt (ec (eT b (show b.size ≤ 1000000 from by omega) (k + 2)) <| en h1 <| eb h2 <| ep (rfl : (9 : Int) = (9 : Int)) <| ep (rfl : (1 : Int) = (1 : Int)) <| ep (show (1 : Nat) ≤ 9 from by decide) <| ep hs <| eg (G.cut 1 9 []) <| ec (jj (ByteArray.extract (aa b).1 1 9) h4 (k + 5)) <| ep (rfl : (0 : Int) = (0 : Int)) <| ep h3 <| eg (G.byte 0 (ae (aa b).1 0)) <| ep (rfl : ByteArray.size (aa b).1 = ByteArray.size (aa b).1) <| ep (rfl : (9 : Int) = (9 : Int)) <| ep hs <| ep (show ByteArray.size (aa b).1 ≤ ByteArray.size (aa b).1 from by omega) <| eg (G.cut 9 (ByteArray.size (aa b).1) []) <| eb h5 <| ec (cj (IntKind.wrap .i64 (↑(UInt8.toNat (ae (aa b).1 0)) : Int)) (k + 6)) <| eb4 h6 <| eb h8 <| ep (rfl : (0 : Int) = (0 : Int)) <| ep h9 <| eg (G.byte 0 (ae (ByteArray.extract (aa b).1 9 (ByteArray.size (aa b).1)) 0)) <| ep (rfl : ByteArray.size (ByteArray.extract (aa b).1 (9 : Nat) (ByteArray.size (aa b).1)) = ByteArray.size (ByteArray.extract (aa b).1 (9 : Nat) (ByteArray.size (aa b).1))) <| ep (rfl : (1 : Int) = (1 : Int)) <| ep h10 <| ep (show ByteArray.size (ByteArray.extract (aa b).1 (9 : Nat) (ByteArray.size (aa b).1)) ≤ ByteArray.size (ByteArray.extract (aa b).1 (9 : Nat) (ByteArray.size (aa b).1)) from by first | omega | (simp only [ByteArray.size_append, aq, aJ, aQ, List.size_toArray, ap, az, ar, al, ak, List.length_cons, List.length_nil] at *; omega)) <| eg (G.cut 1 (ByteArray.size (ByteArray.extract (aa b).1 9 (ByteArray.size (aa b).1))) []) <| ec (cC ((Pk.mk (IntKind.wrap .i64 (↑(UInt8.toNat (ae (aa b).1 0)) : Int)) (eX (Array.toList (ByteArray.data (ByteArray.extract (aa b).1 1 9)))) ((He.mk 0 ((Ve.mk 0 0 0 0)) false false false false (BitVec.ofNat 32 0))) (IntKind.wrap .i64 (↑(UInt8.toNat (ae (ByteArray.extract (aa b).1 9 (ByteArray.size (aa b).1)) 0)) : Int)) (ByteArray.extract (ByteArray.extract (aa b).1 9 (ByteArray.size (aa b).1)) 1 (ByteArray.size (ByteArray.extract (aa b).1 9 (ByteArray.size (aa b).1)))))) (k + 1)) <| en2 z0 <| ec (dR ((Pk.mk (IntKind.wrap .i64 (↑(UInt8.toNat (ae (aa b).1 0)) : Int)) (eX (Array.toList (ByteArray.data (ByteArray.extract (aa b).1 1 9)))) ((He.mk 0 ((Ve.mk 0 0 0 0)) false false false false (BitVec.ofNat 32 0))) (IntKind.wrap .i64 (↑(UInt8.toNat (ae (ByteArray.extract (aa b).1 9 (ByteArray.size (aa b).1)) 0)) : Int)) (ByteArray.extract (ByteArray.extract (aa b).1 9 (ByteArray.size (aa b).1)) 1 (ByteArray.size (ByteArray.extract (aa b).1 9 (ByteArray.size (aa b).1)))))) (show ByteArray.size (ByteArray.extract (ByteArray.extract (aa b).1 (9 : Nat) (ByteArray.size (aa b).1)) (1 : Nat) (ByteArray.size (ByteArray.extract (aa b).1 (9 : Nat) (ByteArray.size (aa b).1)))) ≤ 1000000 from by first | omega | (simp only [ByteArray.size_append, aq, aJ, aQ, List.size_toArray, ap, az, ar, al, ak, List.length_cons, List.length_nil] at *; omega)) k) <| en3 z0 <| en z1 <| e0) (by simp only [bc, e7, ng, he0, h1, h2, h5, h6, h8r, z0, z1, vq] <;> rfl)
  · exact rt (ec (eT b (show b.size ≤ 1000000 from by omega) (k + 2)) <| en h1 <| eb h2 <| ep (rfl : (9 : Int) = (9 : Int)) <| ep (rfl : (1 : Int) = (1 : Int)) <| ep (show (1 : Nat) ≤ 9 from by decide) <| ep hs <| eg (G.cut 1 9 []) <| ec (jj (ByteArray.extract (aa b).1 1 9) h4 (k + 5)) <| ep (rfl : (0 : Int) = (0 : Int)) <| ep h3 <| eg (G.byte 0 (ae (aa b).1 0)) <| ep (rfl : ByteArray.size (aa b).1 = ByteArray.size (aa b).1) <| ep (rfl : (9 : Int) = (9 : Int)) <| ep hs <| ep (show ByteArray.size (aa b).1 ≤ ByteArray.size (aa b).1 from by omega) <| eg (G.cut 9 (ByteArray.size (aa b).1) []) <| eb h5 <| ec (cj (IntKind.wrap .i64 (↑(UInt8.toNat (ae (aa b).1 0)) : Int)) (k + 6)) <| eb4 h6 <| eb h8 <| ep (rfl : (0 : Int) = (0 : Int)) <| ep h9 <| eg (G.byte 0 (ae (ByteArray.extract (aa b).1 9 (ByteArray.size (aa b).1)) 0)) <| ep (rfl : ByteArray.size (ByteArray.extract (aa b).1 (9 : Nat) (ByteArray.size (aa b).1)) = ByteArray.size (ByteArray.extract (aa b).1 (9 : Nat) (ByteArray.size (aa b).1))) <| ep (rfl : (1 : Int) = (1 : Int)) <| ep h10 <| ep (show ByteArray.size (ByteArray.extract (aa b).1 (9 : Nat) (ByteArray.size (aa b).1)) ≤ ByteArray.size (ByteArray.extract (aa b).1 (9 : Nat) (ByteArray.size (aa b).1)) from by first | omega | (simp only [ByteArray.size_append, aq, aJ, aQ, List.size_toArray, ap, az, ar, al, ak, List.length_cons, List.length_nil] at *; omega)) <| eg (G.cut 1 (ByteArray.size (ByteArray.extract (aa b).1 9 (ByteArray.size (aa b).1))) []) <| ec (cC ((Pk.mk (IntKind.wrap .i64 (↑(UInt8.toNat (ae (aa b).1 0)) : Int)) (eX (Array.toList (ByteArray.data (ByteArray.extract (aa b).1 1 9)))) ((He.mk 0 ((Ve.mk 0 0 0 0)) false false false false (BitVec.ofNat 32 0))) (IntKind.wrap .i64 (↑(UInt8.toNat (ae (ByteArray.extract (aa b).1 9 (ByteArray.size (aa b).1)) 0)) : Int)) (ByteArray.extract (ByteArray.extract (aa b).1 9 (ByteArray.size (aa b).1)) 1 (ByteArray.size (ByteArray.extract (aa b).1 9 (ByteArray.size (aa b).1)))))) (k + 1)) <| en5 z0 <| et <| e0) (by simp only [bc, e7, ng, he0, h1, h2, h5, h6, h8r, z0, vq] <;> rfl)
theorem vd (b : ByteArray) : (aa b).1.size ≤ b.size := by
  unfold aa
  cases decide ((b.size : Int) < 4)
  · cases bK (b.extract 0 (b.size - 4)) == b
    · exact Nat.zero_le _
    · show (b.extract 0 (b.size - 4)).size ≤ _
      rw [ByteArray.size_extract]; omega
  · exact Nat.zero_le _
theorem sf (b : ByteArray) (hb : b.size ≤ 800000) (k : Nat) : aj PP GL XX HH NN (k + 8) 98 [.c (st b)] [] = some ([.agg (bc b).1.cs, .c (ii (bc b).2)], []) := by
  cases h1 : (aa b).2 == 0 with
  | false => exact Eu b hb h1 k
  | true =>
    cases h2 : decide (((aa b).1.size : Int) < 9) with
    | true => exact C6 b hb h1 h2 k
    | false =>
      have h2' := of_decide_eq_false h2
      have hs := vd b
      have h3 := ft (s := (aa b).1) (i := 0) (by omega)
      have h4 : ((aa b).1.extract 1 9).size = 8 := by rw [ByteArray.size_extract]; omega
      have h7 : ((aa b).1.extract 9 (aa b).1.size).size ≤ 800000 := by rw [ByteArray.size_extract]; omega
      cases h5 : IntKind.wrap .i64 ((ae (aa b).1 0).toNat : Int) == 1 with
      | true => exact D1 b hb h1 h2 (by omega) (by omega) h3 h4 h5 (by rw [eq_of_beq h5]; rfl) k
      | false =>
        cases h6 : bJ (IntKind.wrap .i64 ((ae (aa b).1 0).toNat : Int)) with
        | false => exact Dw b hb h1 h2 (by omega) (by omega) h3 h4 h5 h6 h7 k
        | true =>
          cases h8 : decide ((((aa b).1.extract 9 (aa b).1.size).size : Int) > 0) with
          | false => exact DE b hb h1 h2 (by omega) (by omega) h3 h4 h5 h6 h7 h8 h8 k
          | true =>
            have h8' := of_decide_eq_true h8
            exact Eh b hb h1 h2 (by omega) (by omega) h3 h4 h5 h6 h7 h8 h8 (ft (by omega)) (by omega) (by rw [ByteArray.size_extract]; omega) k
theorem cV (b : ByteArray) (ses : Int) (hb : b.size ≤ 800000) (k : Nat) : aj PP GL XX HH NN (k + 9) 68 [A.c (st b), A.c (u ses)] [] = some ([Res.agg (Pk.cs (aA b ses).1), Res.c (ii (aA b ses).2)], []) := by
  rcases bft (Prod.snd (bc b) == 0) with z0 | z0
  · rcases bft (Pk.ses (bc b).1 == ses) with z1 | z1
    · exact rt (ec (sf b hb k) <| en z0 <| en z1 <| e0) (by simp only [aA, pk0, he0, z0, z1, vq] <;> rfl)
    · exact rt (ec (sf b hb k) <| en z0 <| en z1 <| e0) (by simp only [aA, pk0, he0, z0, z1, vq] <;> rfl)
  · exact rt (ec (sf b hb k) <| en z0 <| e0) (by simp only [aA, pk0, he0, z0, vq] <;> rfl)
end Go.Dm
namespace Go.Dm
open Go
theorem v4 (l : Lk) (k : Nat) : aj PP GL XX HH NN (k + 1) 80 [A.agg (Lk.cs l)] [] = some ([Res.agg (Lk.cs (cL l))], []) := by
  exact rt (e0) (by simp only [cL, vq] <;> rfl)
theorem tl (l : Lk) (k : Nat) : aj PP GL XX HH NN (k + 1) 82 [A.agg (Lk.cs l)] [] = some ([Res.agg (Lk.cs (bi l))], []) := by
  exact rt (e0) (by simp only [bi, vq] <;> rfl)
theorem Bm (l : Lk) (to : Int) (ps : List ByteArray) (h0 : l.to0.length + ps.length ≤ 1000000) (h1 : l.to1.length + ps.length ≤ 1000000) (k : Nat) : aj PP GL XX HH NN (k + 1) 99 [A.agg (Lk.cs l), A.c (ii to), A.c (C.slice 1 (List.map eS ps))] [] = some ([Res.agg (Lk.cs (cp l to ps).1), Res.c (ii (cp l to ps).2)], []) := by
  rcases bft (to == 0) with z0 | z0
  · rcases bft l.up with z1 | z1
    · exact rt (en3 z0 <| ef <| en z1 <| ep (eq_of_beq z0) <| eg (G.at 0) <| ep (bQ (List.map eS l.to0)) <| ep (aP (eS) (l := Lk.to0 l) (n := 1073741824) (by omega)) <| eg (G.app (List.map eS l.to0)) <| ep (bD (eS) l.to0 (ps)) <| ep (aP (eS) (l := Lk.to0 l ++ ps) (n := 1073741824) (by simp only [vr]; omega)) <| ep (Eq.refl (List.length (List.map eS l.to0))) <| eg (G.app (List.map eS (Lk.to0 l ++ ps))) <| ep (eq_of_beq z0) <| eg (G.at 0) <| e0) (rs := [Res.agg (Lk.cs ({ l with to0 := Lk.to0 l ++ ps } : Lk)), Res.c (ii 0)]) (by simp only [cp, z0, z1, vq] <;> rfl)
    · exact rt (en3 z0 <| ef <| en z1 <| e0) (rs := [Res.agg (Lk.cs l), Res.c (ii 7)]) (by simp only [cp, z0, z1, vq] <;> rfl)
  · rcases bft (to == 1) with z1 | z1
    · rcases bft l.up with z2 | z2
      · exact rt (en3 z0 <| en z1 <| en z2 <| ep (eq_of_beq z1) <| eg (G.at 1) <| ep (bQ (List.map eS l.to1)) <| ep (aP (eS) (l := Lk.to1 l) (n := 1073741824) (by omega)) <| eg (G.app (List.map eS l.to1)) <| ep (bD (eS) l.to1 (ps)) <| ep (aP (eS) (l := Lk.to1 l ++ ps) (n := 1073741824) (by simp only [vr]; omega)) <| ep (Eq.refl (List.length (List.map eS l.to1))) <| eg (G.app (List.map eS (Lk.to1 l ++ ps))) <| ep (eq_of_beq z1) <| eg (G.at 1) <| e0) (rs := [Res.agg (Lk.cs ({ l with to1 := Lk.to1 l ++ ps } : Lk)), Res.c (ii 0)]) (by simp only [cp, z0, z1, z2, vq] <;> rfl)
      · exact rt (en3 z0 <| en z1 <| en z2 <| e0) (rs := [Res.agg (Lk.cs l), Res.c (ii 7)]) (by simp only [cp, z0, z1, z2, vq] <;> rfl)
    · exact rt (en3 z0 <| en z1 <| e0) (rs := [Res.agg (Lk.cs l), Res.c (ii 1)]) (by simp only [cp, z0, z1, vq] <;> rfl)
theorem Gb (l : Lk) (he : Lk.to0 l = []) (k : Nat) : aj PP GL XX HH NN (k + 2) 62 [A.agg [bo l.up, u l.ses, C.slice 1 [], C.slice 1 (vz l.to1)], A.c (ii 0)] [] = some ([Res.c (st ByteArray.empty), Res.agg [bo l.up, u l.ses, C.slice 1 [], C.slice 1 (vz l.to1)], Res.c (bo false)], []) := by
  exact rt (ef8 <| ep (rfl : (0 : Int) = 0) <| eg (G.at 0) <| ef2 <| ep (rfl : (0 : Nat) = (0 : Nat)) <| eg (G.len 0) <| ef2 <| et <| e0) rfl
theorem E5 (l : Lk) (he : Lk.to1 l = []) (k : Nat) : aj PP GL XX HH NN (k + 2) 62 [A.agg [bo l.up, u l.ses, C.slice 1 (vz l.to0), C.slice 1 []], A.c (ii 1)] [] = some ([Res.c (st ByteArray.empty), Res.agg [bo l.up, u l.ses, C.slice 1 (vz l.to0), C.slice 1 []], Res.c (bo false)], []) := by
  exact rt (et3 <| ef5 <| ep (rfl : (1 : Int) = 1) <| eg (G.at 1) <| ef2 <| ep (rfl : (0 : Nat) = (0 : Nat)) <| eg (G.len 0) <| ef2 <| et <| e0) rfl
theorem Fn (l : Lk) (x : ByteArray) (r : List ByteArray) (hr : r.length ≤ 1000000) (k : Nat) : aj PP GL XX HH NN (k + 2) 62 [A.agg [bo l.up, u l.ses, C.slice 1 (vz (x :: r)), C.slice 1 (vz l.to1)], A.c (ii 0)] [] = some ([Res.c (st x), Res.agg [bo l.up, u l.ses, C.slice 1 (vz r), C.slice 1 (vz l.to1)], Res.c (bo true)], []) := by
  exact rt (ef8 <| ep (rfl : (0 : Int) = 0) <| eg (G.at 0) <| ef2 <| ep (av (eS) (x :: r)) <| eg (G.len (List.length (x :: r))) <| ef3 <| ep (rfl : (0 : Int) = 0) <| eg (G.at 0) <| ep (rfl : (0 : Int) = (0 : Int)) <| ep (aB (f := eS) (l := x :: r) (i := 0) (x := x) rfl) <| eg (G.idx 0 [st x]) <| ep (rfl : (0 : Int) = 0) <| eg (G.at 0) <| ep (av (eS) (x :: r)).symm <| ep (rfl : (1 : Int) = (1 : Int)) <| ep (show (1 : Nat) ≤ List.length (x :: r) from by simp only [vr]; omega) <| ep (Nat.le_of_eq (av (eS) (x :: r)).symm) <| ep (mj (eS) (x :: r) 1) <| eg (G.cut 1 (List.length (x :: r)) (List.map eS r)) <| ep (bQ (List.map eS r)) <| ep (aP (eS) (l := r) (n := 1073741824) (by omega)) <| eg (G.app (List.map eS r)) <| ep (rfl : (0 : Int) = 0) <| eg (G.at 0) <| e0) rfl
theorem Fa (l : Lk) (x : ByteArray) (r : List ByteArray) (hr : r.length ≤ 1000000) (k : Nat) : aj PP GL XX HH NN (k + 2) 62 [A.agg [bo l.up, u l.ses, C.slice 1 (vz l.to0), C.slice 1 (vz (x :: r))], A.c (ii 1)] [] = some ([Res.c (st x), Res.agg [bo l.up, u l.ses, C.slice 1 (vz l.to0), C.slice 1 (vz r)], Res.c (bo true)], []) := by
  exact rt (et3 <| ef5 <| ep (rfl : (1 : Int) = 1) <| eg (G.at 1) <| ef2 <| ep (av (eS) (x :: r)) <| eg (G.len (List.length (x :: r))) <| ef3 <| ep (rfl : (1 : Int) = 1) <| eg (G.at 1) <| ep (rfl : (0 : Int) = (0 : Int)) <| ep (aB (f := eS) (l := x :: r) (i := 0) (x := x) rfl) <| eg (G.idx 0 [st x]) <| ep (rfl : (1 : Int) = 1) <| eg (G.at 1) <| ep (av (eS) (x :: r)).symm <| ep (rfl : (1 : Int) = (1 : Int)) <| ep (show (1 : Nat) ≤ List.length (x :: r) from by simp only [vr]; omega) <| ep (Nat.le_of_eq (av (eS) (x :: r)).symm) <| ep (mj (eS) (x :: r) 1) <| eg (G.cut 1 (List.length (x :: r)) (List.map eS r)) <| ep (bQ (List.map eS r)) <| ep (aP (eS) (l := r) (n := 1073741824) (by omega)) <| eg (G.app (List.map eS r)) <| ep (rfl : (1 : Int) = 1) <| eg (G.at 1) <| e0) rfl
theorem G9 (l : Lk) (to : Int) (t0 : (to == 0) = false) (t1 : (to == 1) = false) (k : Nat) : aj PP GL XX HH NN (k + 2) 62 [A.agg (Lk.cs l), A.c (ii to)] [] = some ([Res.c (st ByteArray.empty), Res.agg (Lk.cs l), Res.c (bo false)], []) := by
  exact rt (en3 t0 <| en9 t1 <| et <| e0) rfl
theorem pR (to : Int) : to = 0 ∨ to = 1 ∨ ((to == 0) = false ∧ (to == 1) = false) := by
  by_cases h0 : to = 0
  · exact .inl h0
  · by_cases h1 : to = 1
    · exact .inr (.inl h1)
    · exact .inr (.inr ⟨beq_false_of_ne h0, beq_false_of_ne h1⟩)
theorem wa (l : Lk) (to : Int) (h0 : l.to0.length ≤ 1000000) (h1 : l.to1.length ≤ 1000000) (k : Nat) : aj PP GL XX HH NN (k + 2) 62 [.agg l.cs, .c (ii to)] [] = some ([.c (st (dk l to).1), .agg (dk l to).2.1.cs, .c (bo (dk l to).2.2)], []) := by
  obtain ⟨up, ses, to0, to1⟩ := l
  rcases pR to with rfl | rfl | ⟨t0, t1⟩
  · cases to0 with
    | nil => exact Gb ⟨up, ses, [], to1⟩ rfl k
    | cons x r => exact Fn ⟨up, ses, [], to1⟩ x r (by simp at h0; omega) k
  · cases to1 with
    | nil => exact E5 ⟨up, ses, to0, []⟩ rfl k
    | cons x r => exact Fa ⟨up, ses, to0, []⟩ x r (by simp at h1; omega) k
  · have := G9 ⟨up, ses, to0, to1⟩ to t0 t1 k
    simp only [dk, t0, t1, cond]
    exact this
theorem bE (k : Nat) : aj PP GL XX HH NN (k + 1) 43 [] [] = some ([Res.agg (Vd.cs ay)], []) := by
  exact rt (e0) (by simp only [ay, vq] <;> rfl)
theorem bW (kd : Int) (src : Int) (t : He) (k : Nat) : aj PP GL XX HH NN (k + 2) 44 [A.c (ii kd), A.c (ii src), A.agg (He.cs t)] [] = some ([Res.agg (Vd.cs (aO kd src t))], []) := by
  rcases bft t.pri with z0 | z0
  · exact rt (eb3 z0 <| et <| ec (bE k) <| e0) (by simp only [aO, ay, z0, vq] <;> rfl)
  · rcases bft (kd == 4) with z1 | z1
    · exact rt (eb3 z0 <| eb z1 <| ec (bE k) <| e0) (by simp only [aO, ay, z0, z1, vq] <;> rfl)
    · exact rt (eb3 z0 <| eb z1 <| e0) (by simp only [aO, ay, z0, z1, vq] <;> rfl)
theorem kY (s : He) (t : He) (k : Nat) : aj PP GL XX HH NN (k + 2) 45 [A.agg (He.cs s), A.agg (He.cs t)] [] = some ([Res.c (ii (ee s t))], []) := by
  rcases bft s.dis with z0 | z0
  · exact rt (eb z0 <| e0) (by simp only [ee, z0, vq] <;> rfl)
  · rcases bft (decide (aL s.v t.v.bit ≥ 0)) with z1 | z1
    · exact rt (eb z0 <| ec (bj s.v t.v.bit k) <| eb z1 <| e0) (by simp only [ee, z0, z1, vq] <;> rfl)
    · rcases bft t.dis with z2 | z2
      · exact rt (eb z0 <| ec (bj s.v t.v.bit k) <| eb z1 <| eb z2 <| e0) (by simp only [ee, z0, z1, z2, vq] <;> rfl)
      · rcases bft (decide (aL s.v t.v.cur < 0)) with z3 | z3
        · exact rt (eb z0 <| ec (bj s.v t.v.bit k) <| eb z1 <| eb z2 <| ec (bj s.v t.v.cur k) <| eb z3 <| e0) (by simp only [ee, z0, z1, z2, z3, vq] <;> rfl)
        · rcases bft (decide (aL s.v t.v.cur ≤ 1)) with z4 | z4
          · exact rt (eb z0 <| ec (bj s.v t.v.bit k) <| eb z1 <| eb z2 <| ec (bj s.v t.v.cur k) <| eb z3 <| eb z4 <| e0) (by simp only [ee, z0, z1, z2, z3, z4, vq] <;> rfl)
          · exact rt (eb z0 <| ec (bj s.v t.v.bit k) <| eb z1 <| eb z2 <| ec (bj s.v t.v.cur k) <| eb z3 <| eb z4 <| e0) (by simp only [ee, z0, z1, z2, z3, z4, vq] <;> rfl)
end Go.Dm
namespace Go.Dm
open Go
theorem lm (v : Ve) (g : Int) : aL v g = -1 ∨ aL v g = ((0 : Nat) : Int) ∨ aL v g = ((1 : Nat) : Int) ∨ aL v g = ((2 : Nat) : Int) ∨ aL v g = ((3 : Nat) : Int) := by
  unfold aL
  cases g == 0 <;> cases v.cur == g <;> cases v.bit == g <;> cases v.o0 == g <;> cases v.o1 == g <;> simp
theorem G4 (x : He) (y : He) (c0 : (He.blocks x == He.blocks y) = false) (k : Nat) : aj PP GL XX HH NN (k + 4) 25 [A.agg (He.cs x), A.agg (He.cs y)] [] = some ([Res.agg (Vd.cs (ag x y))], []) := by
  exact rt (en5 c0 <| Ez <| ec (bE (k + 2)) <| e0) (by simp only [ag, aO, ay, c0, vq] <;> rfl)
theorem Hh (x : He) (y : He) (c0 : (He.blocks x == He.blocks y) = true) (c1 : He.inc x = true) (k : Nat) : aj PP GL XX HH NN (k + 4) 25 [A.agg (He.cs x), A.agg (He.cs y)] [] = some ([Res.agg (Vd.cs (ag x y))], []) := by
  rcases bft x.pri with z0 | z0
  · rcases bft y.pri with z1 | z1
    · exact rt (en3 c0 <| eb2 z0 <| en c0 <| eb z0 <| en c0 <| eb5 z1 <| et6 <| ec (bE (k + 2)) <| e0) (rs := [Res.agg (Vd.cs (Vd.mk 4 ((-1 : Int))))]) (by simp only [ag, aO, ay, c0, c1, z0, z1, vq] <;> rfl)
    · rcases bft y.inc with z2 | z2
      · exact rt (en3 c0 <| eb2 z0 <| en c0 <| eb z0 <| en c0 <| eb3 z1 <| eb2 c1 <| eb z1 <| eb c1 <| eb z1 <| eb5 z2 <| et <| ec (bE (k + 2)) <| e0) (rs := [Res.agg (Vd.cs (Vd.mk 4 ((-1 : Int))))]) (by simp only [ag, aO, ay, c0, c1, z0, z1, z2, vq] <;> rfl)
      · rcases bft x.dis with z3 | z3
        · rcases bft y.dis with z4 | z4
          · exact rt (en3 c0 <| eb2 z0 <| en c0 <| eb z0 <| en c0 <| eb3 z1 <| eb2 c1 <| eb z1 <| eb c1 <| eb z1 <| eb3 z2 <| eb2 z3 <| eb z2 <| eb z3 <| eb z2 <| eb z4 <| ec (bE (k + 2)) <| e0) (rs := [Res.agg (Vd.cs (Vd.mk 4 ((-1 : Int))))]) (by simp only [ag, aO, ay, c0, c1, z0, z1, z2, z3, z4, vq] <;> rfl)
          · exact rt (en3 c0 <| eb2 z0 <| en c0 <| eb z0 <| en c0 <| eb3 z1 <| eb2 c1 <| eb z1 <| eb c1 <| eb z1 <| eb3 z2 <| eb2 z3 <| eb z2 <| eb z3 <| eb z2 <| eb z4 <| eb c1 <| ec (kY y x (k + 1)) <| ec (bW (ee y x) 1 x (k + 1)) <| e0) (rs := [Res.agg (Vd.cs (aO (ee y x) 1 x))]) (by simp only [ag, aO, ay, c0, c1, z0, z1, z2, z3, z4, vq] <;> rfl)
        · exact rt (en3 c0 <| eb2 z0 <| en c0 <| eb z0 <| en c0 <| eb3 z1 <| eb2 c1 <| eb z1 <| eb c1 <| eb z1 <| eb3 z2 <| eb2 z3 <| eb z2 <| eb z3 <| eb z2 <| ef <| eb c1 <| ec (kY y x (k + 1)) <| ec (bW (ee y x) 1 x (k + 1)) <| e0) (rs := [Res.agg (Vd.cs (aO (ee y x) 1 x))]) (by simp only [ag, aO, ay, c0, c1, z0, z1, z2, z3, vq] <;> rfl)
  · rcases bft y.inc with z1 | z1
    · exact rt (en3 c0 <| eb2 z0 <| en c0 <| eb z0 <| en c0 <| ef3 <| eb2 c1 <| ef <| eb c1 <| ef <| eb5 z1 <| et <| ec (bE (k + 2)) <| e0) (rs := [Res.agg (Vd.cs (Vd.mk 4 ((-1 : Int))))]) (by simp only [ag, aO, ay, c0, c1, z0, z1, vq] <;> rfl)
    · rcases bft x.dis with z2 | z2
      · rcases bft y.dis with z3 | z3
        · exact rt (en3 c0 <| eb2 z0 <| en c0 <| eb z0 <| en c0 <| ef3 <| eb2 c1 <| ef <| eb c1 <| ef <| eb3 z1 <| eb2 z2 <| eb z1 <| eb z2 <| eb z1 <| eb z3 <| ec (bE (k + 2)) <| e0) (rs := [Res.agg (Vd.cs (Vd.mk 4 ((-1 : Int))))]) (by simp only [ag, aO, ay, c0, c1, z0, z1, z2, z3, vq] <;> rfl)
        · exact rt (en3 c0 <| eb2 z0 <| en c0 <| eb z0 <| en c0 <| ef3 <| eb2 c1 <| ef <| eb c1 <| ef <| eb3 z1 <| eb2 z2 <| eb z1 <| eb z2 <| eb z1 <| eb z3 <| eb c1 <| ec (kY y x (k + 1)) <| ec (bW (ee y x) 1 x (k + 1)) <| e0) (rs := [Res.agg (Vd.cs (aO (ee y x) 1 x))]) (by simp only [ag, aO, ay, c0, c1, z0, z1, z2, z3, vq] <;> rfl)
      · exact rt (en3 c0 <| eb2 z0 <| en c0 <| eb z0 <| en c0 <| ef3 <| eb2 c1 <| ef <| eb c1 <| ef <| eb3 z1 <| eb2 z2 <| eb z1 <| eb z2 <| eb z1 <| ef <| eb c1 <| ec (kY y x (k + 1)) <| ec (bW (ee y x) 1 x (k + 1)) <| e0) (rs := [Res.agg (Vd.cs (aO (ee y x) 1 x))]) (by simp only [ag, aO, ay, c0, c1, z0, z1, z2, vq] <;> rfl)
theorem Hw (x : He) (y : He) (c0 : (He.blocks x == He.blocks y) = true) (c1 : He.inc x = false) (c2 : He.inc y = true) (k : Nat) : aj PP GL XX HH NN (k + 4) 25 [A.agg (He.cs x), A.agg (He.cs y)] [] = some ([Res.agg (Vd.cs (ag x y))], []) := by
  rcases bft x.pri with z0 | z0
  · rcases bft y.pri with z1 | z1
    · exact rt (en3 c0 <| eb2 z0 <| en c0 <| eb z0 <| en c0 <| eb5 z1 <| et6 <| ec (bE (k + 2)) <| e0) (rs := [Res.agg (Vd.cs (Vd.mk 4 ((-1 : Int))))]) (by simp only [ag, aO, ay, c0, c1, c2, z0, z1, vq] <;> rfl)
    · rcases bft x.dis with z2 | z2
      · rcases bft y.dis with z3 | z3
        · exact rt (en3 c0 <| eb2 z0 <| en c0 <| eb z0 <| en c0 <| eb3 z1 <| eb2 c1 <| eb z1 <| eb c1 <| eb z1 <| ef3 <| eb2 z2 <| ef <| eb z2 <| ef <| eb z3 <| ec (bE (k + 2)) <| e0) (rs := [Res.agg (Vd.cs (Vd.mk 4 ((-1 : Int))))]) (by simp only [ag, aO, ay, c0, c1, c2, z0, z1, z2, z3, vq] <;> rfl)
        · exact rt (en3 c0 <| eb2 z0 <| en c0 <| eb z0 <| en c0 <| eb3 z1 <| eb2 c1 <| eb z1 <| eb c1 <| eb z1 <| ef3 <| eb2 z2 <| ef <| eb z2 <| ef <| eb z3 <| eb c1 <| eb c2 <| ec (kY x y (k + 1)) <| ec (bW (ee x y) 0 y (k + 1)) <| e0) (rs := [Res.agg (Vd.cs (aO (ee x y) 0 y))]) (by simp only [ag, aO, ay, c0, c1, c2, z0, z1, z2, z3, vq] <;> rfl)
      · exact rt (en3 c0 <| eb2 z0 <| en c0 <| eb z0 <| en c0 <| eb3 z1 <| eb2 c1 <| eb z1 <| eb c1 <| eb z1 <| ef3 <| eb2 z2 <| ef <| eb z2 <| ef2 <| eb c1 <| eb c2 <| ec (kY x y (k + 1)) <| ec (bW (ee x y) 0 y (k + 1)) <| e0) (rs := [Res.agg (Vd.cs (aO (ee x y) 0 y))]) (by simp only [ag, aO, ay, c0, c1, c2, z0, z1, z2, vq] <;> rfl)
  · rcases bft x.dis with z1 | z1
    · rcases bft y.dis with z2 | z2
      · exact rt (en3 c0 <| eb2 z0 <| en c0 <| eb z0 <| en c0 <| ef3 <| eb2 c1 <| ef <| eb c1 <| ef4 <| eb2 z1 <| ef <| eb z1 <| ef <| eb z2 <| ec (bE (k + 2)) <| e0) (rs := [Res.agg (Vd.cs (Vd.mk 4 ((-1 : Int))))]) (by simp only [ag, aO, ay, c0, c1, c2, z0, z1, z2, vq] <;> rfl)
      · exact rt (en3 c0 <| eb2 z0 <| en c0 <| eb z0 <| en c0 <| ef3 <| eb2 c1 <| ef <| eb c1 <| ef4 <| eb2 z1 <| ef <| eb z1 <| ef <| eb z2 <| eb c1 <| eb c2 <| ec (kY x y (k + 1)) <| ec (bW (ee x y) 0 y (k + 1)) <| e0) (rs := [Res.agg (Vd.cs (aO (ee x y) 0 y))]) (by simp only [ag, aO, ay, c0, c1, c2, z0, z1, z2, vq] <;> rfl)
    · exact rt (en3 c0 <| eb2 z0 <| en c0 <| eb z0 <| en c0 <| ef3 <| eb2 c1 <| ef <| eb c1 <| ef4 <| eb2 z1 <| ef <| eb z1 <| ef2 <| eb c1 <| eb c2 <| ec (kY x y (k + 1)) <| ec (bW (ee x y) 0 y (k + 1)) <| e0) (rs := [Res.agg (Vd.cs (aO (ee x y) 0 y))]) (by simp only [ag, aO, ay, c0, c1, c2, z0, z1, vq] <;> rfl)
theorem Ho (x : He) (y : He) (c0 : (He.blocks x == He.blocks y) = true) (c1 : He.inc x = false) (c2 : He.inc y = false) (c3 : He.dis x = true) (k : Nat) : aj PP GL XX HH NN (k + 4) 25 [A.agg (He.cs x), A.agg (He.cs y)] [] = some ([Res.agg (Vd.cs (ag x y))], []) := by
  rcases bft x.pri with z0 | z0
  · rcases bft y.pri with z1 | z1
    · exact rt (en3 c0 <| eb2 z0 <| en c0 <| eb z0 <| en c0 <| eb5 z1 <| et6 <| ec (bE (k + 2)) <| e0) (rs := [Res.agg (Vd.cs (Vd.mk 4 ((-1 : Int))))]) (by simp only [ag, aO, ay, c0, c1, c2, c3, z0, z1, vq] <;> rfl)
    · rcases bft y.dis with z2 | z2
      · exact rt (en3 c0 <| eb2 z0 <| en c0 <| eb z0 <| en c0 <| eb3 z1 <| eb2 c1 <| eb z1 <| eb c1 <| eb z1 <| ef3 <| eb2 c3 <| ef <| eb c3 <| ef <| eb z2 <| ec (bE (k + 2)) <| e0) (rs := [Res.agg (Vd.cs (Vd.mk 4 ((-1 : Int))))]) (by simp only [ag, aO, ay, c0, c1, c2, c3, z0, z1, z2, vq] <;> rfl)
      · exact rt (en3 c0 <| eb2 z0 <| en c0 <| eb z0 <| en c0 <| eb3 z1 <| eb2 c1 <| eb z1 <| eb c1 <| eb z1 <| ef3 <| eb2 c3 <| ef <| eb c3 <| ef <| eb z2 <| eb c1 <| eb c2 <| eb c3 <| ec (bW 3 1 x (k + 1)) <| e0) (rs := [Res.agg (Vd.cs (aO 3 1 x))]) (by simp only [ag, aO, ay, c0, c1, c2, c3, z0, z1, z2, vq] <;> rfl)
  · rcases bft y.dis with z1 | z1
    · exact rt (en3 c0 <| eb2 z0 <| en c0 <| eb z0 <| en c0 <| ef3 <| eb2 c1 <| ef <| eb c1 <| ef4 <| eb2 c3 <| ef <| eb c3 <| ef <| eb z1 <| ec (bE (k + 2)) <| e0) (rs := [Res.agg (Vd.cs (Vd.mk 4 ((-1 : Int))))]) (by simp only [ag, aO, ay, c0, c1, c2, c3, z0, z1, vq] <;> rfl)
    · exact rt (en3 c0 <| eb2 z0 <| en c0 <| eb z0 <| en c0 <| ef3 <| eb2 c1 <| ef <| eb c1 <| ef4 <| eb2 c3 <| ef <| eb c3 <| ef <| eb z1 <| eb c1 <| eb c2 <| eb c3 <| ec (bW 3 1 x (k + 1)) <| e0) (rs := [Res.agg (Vd.cs (aO 3 1 x))]) (by simp only [ag, aO, ay, c0, c1, c2, c3, z0, z1, vq] <;> rfl)
theorem Hv (x : He) (y : He) (c0 : (He.blocks x == He.blocks y) = true) (c1 : He.inc x = false) (c2 : He.inc y = false) (c3 : He.dis x = false) (c4 : He.dis y = true) (k : Nat) : aj PP GL XX HH NN (k + 4) 25 [A.agg (He.cs x), A.agg (He.cs y)] [] = some ([Res.agg (Vd.cs (ag x y))], []) := by
  rcases bft x.pri with z0 | z0
  · rcases bft y.pri with z1 | z1
    · exact rt (en3 c0 <| eb2 z0 <| en c0 <| eb z0 <| en c0 <| eb5 z1 <| et6 <| ec (bE (k + 2)) <| e0) (rs := [Res.agg (Vd.cs (Vd.mk 4 ((-1 : Int))))]) (by simp only [ag, aO, ay, c0, c1, c2, c3, c4, z0, z1, vq] <;> rfl)
    · exact rt (en3 c0 <| eb2 z0 <| en c0 <| eb z0 <| en c0 <| eb3 z1 <| eb2 c1 <| eb z1 <| eb c1 <| eb z1 <| ef3 <| eb2 c3 <| ef <| eb c3 <| ef2 <| eb c1 <| eb c2 <| eb c3 <| eb c4 <| ec (bW 3 0 y (k + 1)) <| e0) (rs := [Res.agg (Vd.cs (aO 3 0 y))]) (by simp only [ag, aO, ay, c0, c1, c2, c3, c4, z0, z1, vq] <;> rfl)
  · exact rt (en3 c0 <| eb2 z0 <| en c0 <| eb z0 <| en c0 <| ef3 <| eb2 c1 <| ef <| eb c1 <| ef4 <| eb2 c3 <| ef <| eb c3 <| ef2 <| eb c1 <| eb c2 <| eb c3 <| eb c4 <| ec (bW 3 0 y (k + 1)) <| e0) (rs := [Res.agg (Vd.cs (aO 3 0 y))]) (by simp only [ag, aO, ay, c0, c1, c2, c3, c4, z0, vq] <;> rfl)
theorem HD (x : He) (y : He) (c0 : (He.blocks x == He.blocks y) = true) (c1 : He.inc x = false) (c2 : He.inc y = false) (c3 : He.dis x = false) (c4 : He.dis y = false) (c5 : (Ve.cur x.v == Ve.cur y.v) = true) (k : Nat) : aj PP GL XX HH NN (k + 4) 25 [A.agg (He.cs x), A.agg (He.cs y)] [] = some ([Res.agg (Vd.cs (ag x y))], []) := by
  rcases bft x.pri with z0 | z0
  · rcases bft y.pri with z1 | z1
    · exact rt (en3 c0 <| eb2 z0 <| en c0 <| eb z0 <| en c0 <| eb5 z1 <| et6 <| ec (bE (k + 2)) <| e0) (rs := [Res.agg (Vd.cs (Vd.mk 4 ((-1 : Int))))]) (by simp only [ag, aO, ay, c0, c1, c2, c3, c4, c5, z0, z1, vq] <;> rfl)
    · rcases bft (mi x.mask == 0) with z2 | z2
      · rcases bft (mi y.mask == 0) with z3 | z3
        · exact rt (en3 c0 <| eb2 z0 <| en c0 <| eb z0 <| en c0 <| eb3 z1 <| eb2 c1 <| eb z1 <| eb c1 <| eb z1 <| ef3 <| eb2 c3 <| ef <| eb c3 <| ef2 <| eb c1 <| eb c2 <| eb c3 <| eb c4 <| eb c5 <| eb4 z2 <| eb z3 <| e0) (rs := [Res.agg (Vd.cs (Vd.mk 1 ((-1 : Int))))]) (by simp only [ag, aO, ay, c0, c1, c2, c3, c4, c5, z0, z1, z2, z3, vq] <;> rfl)
        · exact rt (en3 c0 <| eb2 z0 <| en c0 <| eb z0 <| en c0 <| eb3 z1 <| eb2 c1 <| eb z1 <| eb c1 <| eb z1 <| ef3 <| eb2 c3 <| ef <| eb c3 <| ef2 <| eb c1 <| eb c2 <| eb c3 <| eb c4 <| eb c5 <| eb4 z2 <| eb z3 <| eb4 z1 <| en2 z0 <| eb z1 <| en z0 <| eb z1 <| ef3 <| eb z1 <| ef <| eb z1 <| ef <| ec (bW 2 0 y (k + 1)) <| e0) (rs := [Res.agg (Vd.cs (aO 2 0 y))]) (by simp only [ag, aO, ay, c0, c1, c2, c3, c4, c5, z0, z1, z2, z3, vq] <;> rfl)
      · exact rt (en3 c0 <| eb2 z0 <| en c0 <| eb z0 <| en c0 <| eb3 z1 <| eb2 c1 <| eb z1 <| eb c1 <| eb z1 <| ef3 <| eb2 c3 <| ef <| eb c3 <| ef2 <| eb c1 <| eb c2 <| eb c3 <| eb c4 <| eb c5 <| eb4 z2 <| ef <| eb4 z1 <| en2 z0 <| eb z1 <| en z0 <| eb z1 <| ef3 <| eb z1 <| ef <| eb z1 <| ef <| ec (bW 2 0 y (k + 1)) <| e0) (rs := [Res.agg (Vd.cs (aO 2 0 y))]) (by simp only [ag, aO, ay, c0, c1, c2, c3, c4, c5, z0, z1, z2, vq] <;> rfl)
  · rcases bft (mi x.mask == 0) with z1 | z1
    · rcases bft (mi y.mask == 0) with z2 | z2
      · exact rt (en3 c0 <| eb2 z0 <| en c0 <| eb z0 <| en c0 <| ef3 <| eb2 c1 <| ef <| eb c1 <| ef4 <| eb2 c3 <| ef <| eb c3 <| ef2 <| eb c1 <| eb c2 <| eb c3 <| eb c4 <| eb c5 <| eb4 z1 <| eb z2 <| e0) (rs := [Res.agg (Vd.cs (Vd.mk 1 ((-1 : Int))))]) (by simp only [ag, aO, ay, c0, c1, c2, c3, c4, c5, z0, z1, z2, vq] <;> rfl)
      · rcases bft y.pri with z3 | z3
        · exact rt (en3 c0 <| eb2 z0 <| en c0 <| eb z0 <| en c0 <| ef3 <| eb2 c1 <| ef <| eb c1 <| ef4 <| eb2 c3 <| ef <| eb c3 <| ef2 <| eb c1 <| eb c2 <| eb c3 <| eb c4 <| eb c5 <| eb4 z1 <| eb z2 <| eb8 z3 <| et <| ec (bW 2 1 x (k + 1)) <| e0) (rs := [Res.agg (Vd.cs (aO 2 1 x))]) (by simp only [ag, aO, ay, c0, c1, c2, c3, c4, c5, z0, z1, z2, z3, vq] <;> rfl)
        · rcases bft y.was with z4 | z4
          · rcases bft x.was with z5 | z5
            · exact rt (en3 c0 <| eb2 z0 <| en c0 <| eb z0 <| en c0 <| ef3 <| eb2 c1 <| ef <| eb c1 <| ef4 <| eb2 c3 <| ef <| eb c3 <| ef2 <| eb c1 <| eb c2 <| eb c3 <| eb c4 <| eb c5 <| eb4 z1 <| eb z2 <| eb4 z3 <| en2 z0 <| eb z3 <| en z0 <| eb z3 <| eb3 z4 <| eb z3 <| eb z4 <| eb z3 <| en z5 <| ec (bW 2 0 y (k + 1)) <| e0) (rs := [Res.agg (Vd.cs (aO 2 0 y))]) (by simp only [ag, aO, ay, c0, c1, c2, c3, c4, c5, z0, z1, z2, z3, z4, z5, vq] <;> rfl)
            · exact rt (en3 c0 <| eb2 z0 <| en c0 <| eb z0 <| en c0 <| ef3 <| eb2 c1 <| ef <| eb c1 <| ef4 <| eb2 c3 <| ef <| eb c3 <| ef2 <| eb c1 <| eb c2 <| eb c3 <| eb c4 <| eb c5 <| eb4 z1 <| eb z2 <| eb4 z3 <| en2 z0 <| eb z3 <| en z0 <| eb z3 <| eb3 z4 <| eb z3 <| eb z4 <| eb z3 <| en z5 <| ec (bW 2 1 x (k + 1)) <| e0) (rs := [Res.agg (Vd.cs (aO 2 1 x))]) (by simp only [ag, aO, ay, c0, c1, c2, c3, c4, c5, z0, z1, z2, z3, z4, z5, vq] <;> rfl)
          · exact rt (en3 c0 <| eb2 z0 <| en c0 <| eb z0 <| en c0 <| ef3 <| eb2 c1 <| ef <| eb c1 <| ef4 <| eb2 c3 <| ef <| eb c3 <| ef2 <| eb c1 <| eb c2 <| eb c3 <| eb c4 <| eb c5 <| eb4 z1 <| eb z2 <| eb4 z3 <| en2 z0 <| eb z3 <| en z0 <| eb z3 <| eb3 z4 <| eb z3 <| eb z4 <| eb z3 <| ef <| ec (bW 2 0 y (k + 1)) <| e0) (rs := [Res.agg (Vd.cs (aO 2 0 y))]) (by simp only [ag, aO, ay, c0, c1, c2, c3, c4, c5, z0, z1, z2, z3, z4, vq] <;> rfl)
    · rcases bft y.pri with z2 | z2
      · exact rt (en3 c0 <| eb2 z0 <| en c0 <| eb z0 <| en c0 <| ef3 <| eb2 c1 <| ef <| eb c1 <| ef4 <| eb2 c3 <| ef <| eb c3 <| ef2 <| eb c1 <| eb c2 <| eb c3 <| eb c4 <| eb c5 <| eb4 z1 <| ef <| eb8 z2 <| et <| ec (bW 2 1 x (k + 1)) <| e0) (rs := [Res.agg (Vd.cs (aO 2 1 x))]) (by simp only [ag, aO, ay, c0, c1, c2, c3, c4, c5, z0, z1, z2, vq] <;> rfl)
      · rcases bft y.was with z3 | z3
        · rcases bft x.was with z4 | z4
          · exact rt (en3 c0 <| eb2 z0 <| en c0 <| eb z0 <| en c0 <| ef3 <| eb2 c1 <| ef <| eb c1 <| ef4 <| eb2 c3 <| ef <| eb c3 <| ef2 <| eb c1 <| eb c2 <| eb c3 <| eb c4 <| eb c5 <| eb4 z1 <| ef <| eb4 z2 <| en2 z0 <| eb z2 <| en z0 <| eb z2 <| eb3 z3 <| eb z2 <| eb z3 <| eb z2 <| en z4 <| ec (bW 2 0 y (k + 1)) <| e0) (rs := [Res.agg (Vd.cs (aO 2 0 y))]) (by simp only [ag, aO, ay, c0, c1, c2, c3, c4, c5, z0, z1, z2, z3, z4, vq] <;> rfl)
          · exact rt (en3 c0 <| eb2 z0 <| en c0 <| eb z0 <| en c0 <| ef3 <| eb2 c1 <| ef <| eb c1 <| ef4 <| eb2 c3 <| ef <| eb c3 <| ef2 <| eb c1 <| eb c2 <| eb c3 <| eb c4 <| eb c5 <| eb4 z1 <| ef <| eb4 z2 <| en2 z0 <| eb z2 <| en z0 <| eb z2 <| eb3 z3 <| eb z2 <| eb z3 <| eb z2 <| en z4 <| ec (bW 2 1 x (k + 1)) <| e0) (rs := [Res.agg (Vd.cs (aO 2 1 x))]) (by simp only [ag, aO, ay, c0, c1, c2, c3, c4, c5, z0, z1, z2, z3, z4, vq] <;> rfl)
        · exact rt (en3 c0 <| eb2 z0 <| en c0 <| eb z0 <| en c0 <| ef3 <| eb2 c1 <| ef <| eb c1 <| ef4 <| eb2 c3 <| ef <| eb c3 <| ef2 <| eb c1 <| eb c2 <| eb c3 <| eb c4 <| eb c5 <| eb4 z1 <| ef <| eb4 z2 <| en2 z0 <| eb z2 <| en z0 <| eb z2 <| eb3 z3 <| eb z2 <| eb z3 <| eb z2 <| ef <| ec (bW 2 0 y (k + 1)) <| e0) (rs := [Res.agg (Vd.cs (aO 2 0 y))]) (by simp only [ag, aO, ay, c0, c1, c2, c3, c4, c5, z0, z1, z2, z3, vq] <;> rfl)
theorem GN (x : He) (y : He) (c0 : (He.blocks x == He.blocks y) = true) (c1 : He.inc x = false) (c2 : He.inc y = false) (c3 : He.dis x = false) (c4 : He.dis y = false) (c5 : (Ve.cur x.v == Ve.cur y.v) = false) (g1 : decide (aL x.v y.v.cur > 0) = false) (g2 : decide (aL y.v x.v.cur > 0) = false) (k : Nat) : aj PP GL XX HH NN (k + 4) 25 [A.agg (He.cs x), A.agg (He.cs y)] [] = some ([Res.agg (Vd.cs (ag x y))], []) := by
  rcases bft x.pri with z0 | z0
  · rcases bft y.pri with z1 | z1
    · exact rt (en3 c0 <| eb2 z0 <| en c0 <| eb z0 <| en c0 <| eb5 z1 <| et6 <| ec (bE (k + 2)) <| e0) (by simp only [ag, aO, ay, c0, c1, c2, c3, c4, c5, g1, g2, z0, z1, vq] <;> rfl)
    · exact rt (en3 c0 <| eb2 z0 <| en c0 <| eb z0 <| en c0 <| eb3 z1 <| eb2 c1 <| eb z1 <| eb c1 <| eb z1 <| ef3 <| eb2 c3 <| ef <| eb c3 <| ef2 <| eb c1 <| eb c2 <| eb c3 <| eb c4 <| eb c5 <| ec (bj x.v y.v.cur (k + 2)) <| ec (bj y.v x.v.cur (k + 2)) <| eb3 g1 <| ef <| eb3 g2 <| ef <| ec (bE (k + 2)) <| e0) (by simp only [ag, aO, ay, c0, c1, c2, c3, c4, c5, g1, g2, z0, z1, vq] <;> rfl)
  · exact rt (en3 c0 <| eb2 z0 <| en c0 <| eb z0 <| en c0 <| ef3 <| eb2 c1 <| ef <| eb c1 <| ef4 <| eb2 c3 <| ef <| eb c3 <| ef2 <| eb c1 <| eb c2 <| eb c3 <| eb c4 <| eb c5 <| ec (bj x.v y.v.cur (k + 2)) <| ec (bj y.v x.v.cur (k + 2)) <| eb3 g1 <| ef <| eb3 g2 <| ef <| ec (bE (k + 2)) <| e0) (by simp only [ag, aO, ay, c0, c1, c2, c3, c4, c5, g1, g2, z0, vq] <;> rfl)
theorem EH (x : He) (y : He) (c0 : (He.blocks x == He.blocks y) = true) (c1 : He.inc x = false) (c2 : He.inc y = false) (c3 : He.dis x = false) (c4 : He.dis y = false) (c5 : (Ve.cur x.v == Ve.cur y.v) = false) (p1 : (0 : Int) ≤ aL x.v y.v.cur) (p2 : aL x.v y.v.cur ≤ 3) (g1 : decide (aL x.v y.v.cur > 0) = true) (g3 : decide (aL x.v y.v.cur < 0) = false) (k : Nat) : aj PP GL XX HH NN (k + 4) 25 [A.agg (He.cs x), A.agg (He.cs y)] [] = some ([Res.agg (Vd.cs (ag x y))], []) := by
  rcases bft x.pri with z0 | z0
  · rcases bft y.pri with z1 | z1
    · exact rt (en3 c0 <| eb2 z0 <| en c0 <| eb z0 <| en c0 <| eb5 z1 <| et6 <| ec (bE (k + 2)) <| e0) (rs := [Res.agg (Vd.cs (Vd.mk 4 ((-1 : Int))))]) (by simp only [ag, aO, ay, c0, c1, c2, c3, c4, c5, g1, g3, cl, z0, z1, vq] <;> rfl)
    · rcases bft (decide (aL y.v x.v.cur < 0)) with z2 | z2
      · rcases bft (aL x.v y.v.cur == 0) with z3 | z3
        · exact rt (en3 c0 <| eb2 z0 <| en c0 <| eb z0 <| en c0 <| eb3 z1 <| eb2 c1 <| eb z1 <| eb c1 <| eb z1 <| ef3 <| eb2 c3 <| ef <| eb c3 <| ef2 <| eb c1 <| eb c2 <| eb c3 <| eb c4 <| eb c5 <| ec (bj x.v y.v.cur (k + 2)) <| ec (bj y.v x.v.cur (k + 2)) <| eb3 g1 <| eb z2 <| ep (eq_of_beq z3) <| eg (G.at 0) <| ec (bW 4 0 y (k + 1)) <| e0) (rs := [Res.agg (Vd.cs (aO 4 0 y))]) (by simp only [ag, aO, ay, c0, c1, c2, c3, c4, c5, g1, g3, cl, z0, z1, z2, z3, vq] <;> rfl)
        · rcases bft (aL x.v y.v.cur == 1) with z4 | z4
          · exact rt (en3 c0 <| eb2 z0 <| en c0 <| eb z0 <| en c0 <| eb3 z1 <| eb2 c1 <| eb z1 <| eb c1 <| eb z1 <| ef3 <| eb2 c3 <| ef <| eb c3 <| ef2 <| eb c1 <| eb c2 <| eb c3 <| eb c4 <| eb c5 <| ec (bj x.v y.v.cur (k + 2)) <| ec (bj y.v x.v.cur (k + 2)) <| eb3 g1 <| eb z2 <| ep (eq_of_beq z4) <| eg (G.at 1) <| ec (bW 2 0 y (k + 1)) <| e0) (rs := [Res.agg (Vd.cs (aO 2 0 y))]) (by simp only [ag, aO, ay, c0, c1, c2, c3, c4, c5, g1, g3, cl, z0, z1, z2, z3, z4, vq] <;> rfl)
          · rcases bft (aL x.v y.v.cur == 2) with z5 | z5
            · exact rt (en3 c0 <| eb2 z0 <| en c0 <| eb z0 <| en c0 <| eb3 z1 <| eb2 c1 <| eb z1 <| eb c1 <| eb z1 <| ef3 <| eb2 c3 <| ef <| eb c3 <| ef2 <| eb c1 <| eb c2 <| eb c3 <| eb c4 <| eb c5 <| ec (bj x.v y.v.cur (k + 2)) <| ec (bj y.v x.v.cur (k + 2)) <| eb3 g1 <| eb z2 <| ep (eq_of_beq z5) <| eg (G.at 2) <| ec (bW 3 0 y (k + 1)) <| e0) (rs := [Res.agg (Vd.cs (aO 3 0 y))]) (by simp only [ag, aO, ay, c0, c1, c2, c3, c4, c5, g1, g3, cl, z0, z1, z2, z3, z4, z5, vq] <;> rfl)
            · exact rt (en3 c0 <| eb2 z0 <| en c0 <| eb z0 <| en c0 <| eb3 z1 <| eb2 c1 <| eb z1 <| eb c1 <| eb z1 <| ef3 <| eb2 c3 <| ef <| eb c3 <| ef2 <| eb c1 <| eb c2 <| eb c3 <| eb c4 <| eb c5 <| ec (bj x.v y.v.cur (k + 2)) <| ec (bj y.v x.v.cur (k + 2)) <| eb3 g1 <| eb z2 <| ep (show aL x.v y.v.cur = 3 from by first | omega | (simp only [beq_eq_false_iff_ne, ne_eq] at *; omega) | simp_all) <| eg (G.at 3) <| ec (bW 3 0 y (k + 1)) <| e0) (rs := [Res.agg (Vd.cs (aO 3 0 y))]) (by simp only [ag, aO, ay, c0, c1, c2, c3, c4, c5, g1, g3, cl, z0, z1, z2, z3, z4, z5, vq] <;> rfl)
      · rcases bft (decide (aL y.v x.v.cur > 0)) with z3 | z3
        · exact rt (en3 c0 <| eb2 z0 <| en c0 <| eb z0 <| en c0 <| eb3 z1 <| eb2 c1 <| eb z1 <| eb c1 <| eb z1 <| ef3 <| eb2 c3 <| ef <| eb c3 <| ef2 <| eb c1 <| eb c2 <| eb c3 <| eb c4 <| eb c5 <| ec (bj x.v y.v.cur (k + 2)) <| ec (bj y.v x.v.cur (k + 2)) <| eb3 g1 <| eb z2 <| eb3 z3 <| eb g3 <| ec (bE (k + 2)) <| e0) (rs := [Res.agg (Vd.cs (Vd.mk 4 ((-1 : Int))))]) (by simp only [ag, aO, ay, c0, c1, c2, c3, c4, c5, g1, g3, cl, z0, z1, z2, z3, vq] <;> rfl)
        · exact rt (en3 c0 <| eb2 z0 <| en c0 <| eb z0 <| en c0 <| eb3 z1 <| eb2 c1 <| eb z1 <| eb c1 <| eb z1 <| ef3 <| eb2 c3 <| ef <| eb c3 <| ef2 <| eb c1 <| eb c2 <| eb c3 <| eb c4 <| eb c5 <| ec (bj x.v y.v.cur (k + 2)) <| ec (bj y.v x.v.cur (k + 2)) <| eb3 g1 <| eb z2 <| eb3 z3 <| ef <| ec (bE (k + 2)) <| e0) (rs := [Res.agg (Vd.cs (Vd.mk 4 ((-1 : Int))))]) (by simp only [ag, aO, ay, c0, c1, c2, c3, c4, c5, g1, g3, cl, z0, z1, z2, z3, vq] <;> rfl)
  · rcases bft (decide (aL y.v x.v.cur < 0)) with z1 | z1
    · rcases bft (aL x.v y.v.cur == 0) with z2 | z2
      · exact rt (en3 c0 <| eb2 z0 <| en c0 <| eb z0 <| en c0 <| ef3 <| eb2 c1 <| ef <| eb c1 <| ef4 <| eb2 c3 <| ef <| eb c3 <| ef2 <| eb c1 <| eb c2 <| eb c3 <| eb c4 <| eb c5 <| ec (bj x.v y.v.cur (k + 2)) <| ec (bj y.v x.v.cur (k + 2)) <| eb3 g1 <| eb z1 <| ep (eq_of_beq z2) <| eg (G.at 0) <| ec (bW 4 0 y (k + 1)) <| e0) (rs := [Res.agg (Vd.cs (aO 4 0 y))]) (by simp only [ag, aO, ay, c0, c1, c2, c3, c4, c5, g1, g3, cl, z0, z1, z2, vq] <;> rfl)
      · rcases bft (aL x.v y.v.cur == 1) with z3 | z3
        · exact rt (en3 c0 <| eb2 z0 <| en c0 <| eb z0 <| en c0 <| ef3 <| eb2 c1 <| ef <| eb c1 <| ef4 <| eb2 c3 <| ef <| eb c3 <| ef2 <| eb c1 <| eb c2 <| eb c3 <| eb c4 <| eb c5 <| ec (bj x.v y.v.cur (k + 2)) <| ec (bj y.v x.v.cur (k + 2)) <| eb3 g1 <| eb z1 <| ep (eq_of_beq z3) <| eg (G.at 1) <| ec (bW 2 0 y (k + 1)) <| e0) (rs := [Res.agg (Vd.cs (aO 2 0 y))]) (by simp only [ag, aO, ay, c0, c1, c2, c3, c4, c5, g1, g3, cl, z0, z1, z2, z3, vq] <;> rfl)
        · rcases bft (aL x.v y.v.cur == 2) with z4 | z4
          · exact rt (en3 c0 <| eb2 z0 <| en c0 <| eb z0 <| en c0 <| ef3 <| eb2 c1 <| ef <| eb c1 <| ef4 <| eb2 c3 <| ef <| eb c3 <| ef2 <| eb c1 <| eb c2 <| eb c3 <| eb c4 <| eb c5 <| ec (bj x.v y.v.cur (k + 2)) <| ec (bj y.v x.v.cur (k + 2)) <| eb3 g1 <| eb z1 <| ep (eq_of_beq z4) <| eg (G.at 2) <| ec (bW 3 0 y (k + 1)) <| e0) (rs := [Res.agg (Vd.cs (aO 3 0 y))]) (by simp only [ag, aO, ay, c0, c1, c2, c3, c4, c5, g1, g3, cl, z0, z1, z2, z3, z4, vq] <;> rfl)
          · exact rt (en3 c0 <| eb2 z0 <| en c0 <| eb z0 <| en c0 <| ef3 <| eb2 c1 <| ef <| eb c1 <| ef4 <| eb2 c3 <| ef <| eb c3 <| ef2 <| eb c1 <| eb c2 <| eb c3 <| eb c4 <| eb c5 <| ec (bj x.v y.v.cur (k + 2)) <| ec (bj y.v x.v.cur (k + 2)) <| eb3 g1 <| eb z1 <| ep (show aL x.v y.v.cur = 3 from by first | omega | (simp only [beq_eq_false_iff_ne, ne_eq] at *; omega) | simp_all) <| eg (G.at 3) <| ec (bW 3 0 y (k + 1)) <| e0) (rs := [Res.agg (Vd.cs (aO 3 0 y))]) (by simp only [ag, aO, ay, c0, c1, c2, c3, c4, c5, g1, g3, cl, z0, z1, z2, z3, z4, vq] <;> rfl)
    · rcases bft (decide (aL y.v x.v.cur > 0)) with z2 | z2
      · exact rt (en3 c0 <| eb2 z0 <| en c0 <| eb z0 <| en c0 <| ef3 <| eb2 c1 <| ef <| eb c1 <| ef4 <| eb2 c3 <| ef <| eb c3 <| ef2 <| eb c1 <| eb c2 <| eb c3 <| eb c4 <| eb c5 <| ec (bj x.v y.v.cur (k + 2)) <| ec (bj y.v x.v.cur (k + 2)) <| eb3 g1 <| eb z1 <| eb3 z2 <| eb g3 <| ec (bE (k + 2)) <| e0) (rs := [Res.agg (Vd.cs (Vd.mk 4 ((-1 : Int))))]) (by simp only [ag, aO, ay, c0, c1, c2, c3, c4, c5, g1, g3, cl, z0, z1, z2, vq] <;> rfl)
      · exact rt (en3 c0 <| eb2 z0 <| en c0 <| eb z0 <| en c0 <| ef3 <| eb2 c1 <| ef <| eb c1 <| ef4 <| eb2 c3 <| ef <| eb c3 <| ef2 <| eb c1 <| eb c2 <| eb c3 <| eb c4 <| eb c5 <| ec (bj x.v y.v.cur (k + 2)) <| ec (bj y.v x.v.cur (k + 2)) <| eb3 g1 <| eb z1 <| eb3 z2 <| ef <| ec (bE (k + 2)) <| e0) (rs := [Res.agg (Vd.cs (Vd.mk 4 ((-1 : Int))))]) (by simp only [ag, aO, ay, c0, c1, c2, c3, c4, c5, g1, g3, cl, z0, z1, z2, vq] <;> rfl)
theorem EQ (x : He) (y : He) (c0 : (He.blocks x == He.blocks y) = true) (c1 : He.inc x = false) (c2 : He.inc y = false) (c3 : He.dis x = false) (c4 : He.dis y = false) (c5 : (Ve.cur x.v == Ve.cur y.v) = false) (p1 : (0 : Int) ≤ aL y.v x.v.cur) (p2 : aL y.v x.v.cur ≤ 3) (g1 : decide (aL x.v y.v.cur > 0) = false) (g2 : decide (aL y.v x.v.cur > 0) = true) (k : Nat) : aj PP GL XX HH NN (k + 4) 25 [A.agg (He.cs x), A.agg (He.cs y)] [] = some ([Res.agg (Vd.cs (ag x y))], []) := by
  rcases bft x.pri with z0 | z0
  · rcases bft y.pri with z1 | z1
    · exact rt (en3 c0 <| eb2 z0 <| en c0 <| eb z0 <| en c0 <| eb5 z1 <| et6 <| ec (bE (k + 2)) <| e0) (rs := [Res.agg (Vd.cs (Vd.mk 4 ((-1 : Int))))]) (by simp only [ag, aO, ay, c0, c1, c2, c3, c4, c5, g1, g2, cl, z0, z1, vq] <;> rfl)
    · rcases bft (decide (aL x.v y.v.cur < 0)) with z2 | z2
      · rcases bft (aL y.v x.v.cur == 0) with z3 | z3
        · exact rt (en3 c0 <| eb2 z0 <| en c0 <| eb z0 <| en c0 <| eb3 z1 <| eb2 c1 <| eb z1 <| eb c1 <| eb z1 <| ef3 <| eb2 c3 <| ef <| eb c3 <| ef2 <| eb c1 <| eb c2 <| eb c3 <| eb c4 <| eb c5 <| ec (bj x.v y.v.cur (k + 2)) <| ec (bj y.v x.v.cur (k + 2)) <| eb3 g1 <| ef <| eb3 g2 <| eb z2 <| ep (eq_of_beq z3) <| eg (G.at 0) <| ec (bW 4 1 x (k + 1)) <| e0) (rs := [Res.agg (Vd.cs (aO 4 1 x))]) (by simp only [ag, aO, ay, c0, c1, c2, c3, c4, c5, g1, g2, cl, z0, z1, z2, z3, vq] <;> rfl)
        · rcases bft (aL y.v x.v.cur == 1) with z4 | z4
          · exact rt (en3 c0 <| eb2 z0 <| en c0 <| eb z0 <| en c0 <| eb3 z1 <| eb2 c1 <| eb z1 <| eb c1 <| eb z1 <| ef3 <| eb2 c3 <| ef <| eb c3 <| ef2 <| eb c1 <| eb c2 <| eb c3 <| eb c4 <| eb c5 <| ec (bj x.v y.v.cur (k + 2)) <| ec (bj y.v x.v.cur (k + 2)) <| eb3 g1 <| ef <| eb3 g2 <| eb z2 <| ep (eq_of_beq z4) <| eg (G.at 1) <| ec (bW 2 1 x (k + 1)) <| e0) (rs := [Res.agg (Vd.cs (aO 2 1 x))]) (by simp only [ag, aO, ay, c0, c1, c2, c3, c4, c5, g1, g2, cl, z0, z1, z2, z3, z4, vq] <;> rfl)
          · rcases bft (aL y.v x.v.cur == 2) with z5 | z5
            · exact rt (en3 c0 <| eb2 z0 <| en c0 <| eb z0 <| en c0 <| eb3 z1 <| eb2 c1 <| eb z1 <| eb c1 <| eb z1 <| ef3 <| eb2 c3 <| ef <| eb c3 <| ef2 <| eb c1 <| eb c2 <| eb c3 <| eb c4 <| eb c5 <| ec (bj x.v y.v.cur (k + 2)) <| ec (bj y.v x.v.cur (k + 2)) <| eb3 g1 <| ef <| eb3 g2 <| eb z2 <| ep (eq_of_beq z5) <| eg (G.at 2) <| ec (bW 3 1 x (k + 1)) <| e0) (rs := [Res.agg (Vd.cs (aO 3 1 x))]) (by simp only [ag, aO, ay, c0, c1, c2, c3, c4, c5, g1, g2, cl, z0, z1, z2, z3, z4, z5, vq] <;> rfl)
            · exact rt (en3 c0 <| eb2 z0 <| en c0 <| eb z0 <| en c0 <| eb3 z1 <| eb2 c1 <| eb z1 <| eb c1 <| eb z1 <| ef3 <| eb2 c3 <| ef <| eb c3 <| ef2 <| eb c1 <| eb c2 <| eb c3 <| eb c4 <| eb c5 <| ec (bj x.v y.v.cur (k + 2)) <| ec (bj y.v x.v.cur (k + 2)) <| eb3 g1 <| ef <| eb3 g2 <| eb z2 <| ep (show aL y.v x.v.cur = 3 from by first | omega | (simp only [beq_eq_false_iff_ne, ne_eq] at *; omega) | simp_all) <| eg (G.at 3) <| ec (bW 3 1 x (k + 1)) <| e0) (rs := [Res.agg (Vd.cs (aO 3 1 x))]) (by simp only [ag, aO, ay, c0, c1, c2, c3, c4, c5, g1, g2, cl, z0, z1, z2, z3, z4, z5, vq] <;> rfl)
      · exact rt (en3 c0 <| eb2 z0 <| en c0 <| eb z0 <| en c0 <| eb3 z1 <| eb2 c1 <| eb z1 <| eb c1 <| eb z1 <| ef3 <| eb2 c3 <| ef <| eb c3 <| ef2 <| eb c1 <| eb c2 <| eb c3 <| eb c4 <| eb c5 <| ec (bj x.v y.v.cur (k + 2)) <| ec (bj y.v x.v.cur (k + 2)) <| eb3 g1 <| ef <| eb3 g2 <| eb z2 <| ec (bE (k + 2)) <| e0) (rs := [Res.agg (Vd.cs (Vd.mk 4 ((-1 : Int))))]) (by simp only [ag, aO, ay, c0, c1, c2, c3, c4, c5, g1, g2, cl, z0, z1, z2, vq] <;> rfl)
  · rcases bft (decide (aL x.v y.v.cur < 0)) with z1 | z1
    · rcases bft (aL y.v x.v.cur == 0) with z2 | z2
      · exact rt (en3 c0 <| eb2 z0 <| en c0 <| eb z0 <| en c0 <| ef3 <| eb2 c1 <| ef <| eb c1 <| ef4 <| eb2 c3 <| ef <| eb c3 <| ef2 <| eb c1 <| eb c2 <| eb c3 <| eb c4 <| eb c5 <| ec (bj x.v y.v.cur (k + 2)) <| ec (bj y.v x.v.cur (k + 2)) <| eb3 g1 <| ef <| eb3 g2 <| eb z1 <| ep (eq_of_beq z2) <| eg (G.at 0) <| ec (bW 4 1 x (k + 1)) <| e0) (rs := [Res.agg (Vd.cs (aO 4 1 x))]) (by simp only [ag, aO, ay, c0, c1, c2, c3, c4, c5, g1, g2, cl, z0, z1, z2, vq] <;> rfl)
      · rcases bft (aL y.v x.v.cur == 1) with z3 | z3
        · exact rt (en3 c0 <| eb2 z0 <| en c0 <| eb z0 <| en c0 <| ef3 <| eb2 c1 <| ef <| eb c1 <| ef4 <| eb2 c3 <| ef <| eb c3 <| ef2 <| eb c1 <| eb c2 <| eb c3 <| eb c4 <| eb c5 <| ec (bj x.v y.v.cur (k + 2)) <| ec (bj y.v x.v.cur (k + 2)) <| eb3 g1 <| ef <| eb3 g2 <| eb z1 <| ep (eq_of_beq z3) <| eg (G.at 1) <| ec (bW 2 1 x (k + 1)) <| e0) (rs := [Res.agg (Vd.cs (aO 2 1 x))]) (by simp only [ag, aO, ay, c0, c1, c2, c3, c4, c5, g1, g2, cl, z0, z1, z2, z3, vq] <;> rfl)
        · rcases bft (aL y.v x.v.cur == 2) with z4 | z4
          · exact rt (en3 c0 <| eb2 z0 <| en c0 <| eb z0 <| en c0 <| ef3 <| eb2 c1 <| ef <| eb c1 <| ef4 <| eb2 c3 <| ef <| eb c3 <| ef2 <| eb c1 <| eb c2 <| eb c3 <| eb c4 <| eb c5 <| ec (bj x.v y.v.cur (k + 2)) <| ec (bj y.v x.v.cur (k + 2)) <| eb3 g1 <| ef <| eb3 g2 <| eb z1 <| ep (eq_of_beq z4) <| eg (G.at 2) <| ec (bW 3 1 x (k + 1)) <| e0) (rs := [Res.agg (Vd.cs (aO 3 1 x))]) (by simp only [ag, aO, ay, c0, c1, c2, c3, c4, c5, g1, g2, cl, z0, z1, z2, z3, z4, vq] <;> rfl)
          · exact rt (en3 c0 <| eb2 z0 <| en c0 <| eb z0 <| en c0 <| ef3 <| eb2 c1 <| ef <| eb c1 <| ef4 <| eb2 c3 <| ef <| eb c3 <| ef2 <| eb c1 <| eb c2 <| eb c3 <| eb c4 <| eb c5 <| ec (bj x.v y.v.cur (k + 2)) <| ec (bj y.v x.v.cur (k + 2)) <| eb3 g1 <| ef <| eb3 g2 <| eb z1 <| ep (show aL y.v x.v.cur = 3 from by first | omega | (simp only [beq_eq_false_iff_ne, ne_eq] at *; omega) | simp_all) <| eg (G.at 3) <| ec (bW 3 1 x (k + 1)) <| e0) (rs := [Res.agg (Vd.cs (aO 3 1 x))]) (by simp only [ag, aO, ay, c0, c1, c2, c3, c4, c5, g1, g2, cl, z0, z1, z2, z3, z4, vq] <;> rfl)
    · exact rt (en3 c0 <| eb2 z0 <| en c0 <| eb z0 <| en c0 <| ef3 <| eb2 c1 <| ef <| eb c1 <| ef4 <| eb2 c3 <| ef <| eb c3 <| ef2 <| eb c1 <| eb c2 <| eb c3 <| eb c4 <| eb c5 <| ec (bj x.v y.v.cur (k + 2)) <| ec (bj y.v x.v.cur (k + 2)) <| eb3 g1 <| ef <| eb3 g2 <| eb z1 <| ec (bE (k + 2)) <| e0) (rs := [Res.agg (Vd.cs (Vd.mk 4 ((-1 : Int))))]) (by simp only [ag, aO, ay, c0, c1, c2, c3, c4, c5, g1, g2, cl, z0, z1, vq] <;> rfl)
theorem cm (x y : He) (k : Nat) : aj PP GL XX HH NN (k + 4) 25 [.agg x.cs, .agg y.cs] [] = some ([.agg (ag x y).cs], []) := by
  cases c0 : x.blocks == y.blocks with
  | false => exact G4 x y c0 k
  | true =>
    cases c1 : x.inc with
    | true => exact Hh x y c0 c1 k
    | false =>
      cases c2 : y.inc with
      | true => exact Hw x y c0 c1 c2 k
      | false =>
        cases c3 : x.dis with
        | true => exact Ho x y c0 c1 c2 c3 k
        | false =>
          cases c4 : y.dis with
          | true => exact Hv x y c0 c1 c2 c3 c4 k
          | false =>
            cases c5 : x.v.cur == y.v.cur with
            | true => exact HD x y c0 c1 c2 c3 c4 c5 k
            | false =>
              rcases lm x.v y.v.cur with h | h | h | h | h
              case inr.inr.inl => exact EH x y c0 c1 c2 c3 c4 c5 (by rw [h]; decide) (by rw [h]; decide) (by rw [h]; rfl) (by rw [h]; rfl) k
              case inr.inr.inr.inl => exact EH x y c0 c1 c2 c3 c4 c5 (by rw [h]; decide) (by rw [h]; decide) (by rw [h]; rfl) (by rw [h]; rfl) k
              case inr.inr.inr.inr => exact EH x y c0 c1 c2 c3 c4 c5 (by rw [h]; decide) (by rw [h]; decide) (by rw [h]; rfl) (by rw [h]; rfl) k
              all_goals
                have g1 : decide (aL x.v y.v.cur > 0) = false := by rw [h]; rfl
                rcases lm y.v x.v.cur with e | e | e | e | e
                case inr.inr.inl => exact EQ x y c0 c1 c2 c3 c4 c5 (by rw [e]; decide) (by rw [e]; decide) g1 (by rw [e]; rfl) k
                case inr.inr.inr.inl => exact EQ x y c0 c1 c2 c3 c4 c5 (by rw [e]; decide) (by rw [e]; decide) g1 (by rw [e]; rfl) k
                case inr.inr.inr.inr => exact EQ x y c0 c1 c2 c3 c4 c5 (by rw [e]; decide) (by rw [e]; decide) g1 (by rw [e]; rfl) k
                all_goals exact GN x y c0 c1 c2 c3 c4 c5 g1 (by rw [e]; rfl) k
end Go.Dm
namespace Go.Dm
open Go
theorem wj (a b : BitVec 32) (k : Nat) : aj PP GL XX HH NN (k + 6) 138 [.c (.slice 1 [[w4 (mi a)], [w4 (mi b)]])] [] = some ([.c (w4 (mi (a ||| b)))], []) :=
  (Df [a, b] (by simp) k).trans (by simp [orI])
theorem FZ (a : BitVec 32) (i : Int) (k : Nat) : aj PP GL XX HH NN (k + 4) 135 [.c (w4 (mi a)), .c (.slice 1 [[ii i]])] [] = some ([.c (w4 (mi (yP a [i])))], []) := Gy a [i] (by simp) k
theorem su (a : BitVec 32) (i : Int) (k : Nat) : aj PP GL XX HH NN (k + 4) 161 [.c (w4 (mi a)), .c (.slice 1 [[ii i]])] [] = some ([.c (w4 (mi (sc a [i])))], []) := GJ a [i] (by simp) k
theorem AQ (v : Vd) (x : He) (y : He) (k : Nat) : aj PP GL XX HH NN (k + 7) 137 [A.agg (Vd.cs v), A.agg (He.cs x), A.agg (He.cs y)] [] = some ([Res.c (w4 (mi (vf v x y)))], []) := by
  rcases bft (Vd.kind v == 2) with z0 | z0
  · exact rt (eb z0 <| ec (wj x.mask y.mask k) <| e0) (by simp only [vf, z0, vq] <;> rfl)
  · rcases bft (Vd.kind v == 3) with z1 | z1
    · exact rt (eb z0 <| eb z1 <| ec (Hu x.blocks (k + 3)) <| e0) (by simp only [vf, z0, z1, vq] <;> rfl)
    · exact rt (eb z0 <| eb z1 <| e0) (by simp only [vf, z0, z1, vq] <;> rfl)
theorem ub (d : Dk) (s : Su) (hs : d.sure.length ≤ 1000000) (hc : d.cache.length ≤ 900) (k : Nat) : aj PP GL XX HH NN (k + 6) 131 [.agg d.cs, .agg s.cs] [] = some ([.agg (cb d s).1.cs, .c (ii (cb d s).2)], []) :=
  Ci d s (by rw [iM]; omega) (by rw [gL]; exact hs) (by have := eF d 0 (bn s).1; omega) k
theorem AJ (d : Dk) (m : BitVec 32) (hs : d.sure.length ≤ 1000000) (hc : d.cache.length ≤ 900) (k : Nat) : aj PP GL XX HH NN (k + 6) 156 [.agg d.cs, .c (w4 (mi m))] [] = some ([.agg (g8 d m).1.cs, .c (ii (g8 d m).2)], []) :=
  FQ d m (by rw [iM]; omega) (by rw [qo]; exact hs) (by have := ni d m; omega) k
theorem AB (d : Dk) (m : BitVec 32) (hc : d.cache.length ≤ 900) (k : Nat) : aj PP GL XX HH NN (k + 5) 162 [.agg d.cs, .c (w4 (mi m))] [] = some ([.agg (d8 d m).1.cs, .c (ii (d8 d m).2)], []) :=
  Be d m (by rw [iM]; omega) k
theorem CY (d : Dk) (i : Int) (x : ByteArray) (hs : d.sure.length ≤ 1000000) (hc : d.cache.length ≤ 900) (k : Nat) : aj PP GL XX HH NN (k + 5) 136 [.agg d.cs, .c (ii i), .c (st x)] [] = some ([.agg (iN d i x).1.cs, .c (ii (iN d i x).2)], []) :=
  Fk d i x (by rw [iM]; omega) (by rw [gL]; exact hs) (by have := eF d (IntKind.wrap .i64 (i + 2)) x; omega) k
theorem lR (d : Dk) (hs : d.sure.length ≤ 1000000) (hc : d.cache.length ≤ 900) (h0 : ByteArray.size (bd d 0).1 ≤ 1000000) (h1 : ByteArray.size (bd d 1).1 ≤ 1000000) (k : Nat) : aj PP GL XX HH NN (k + 8) 97 [A.agg (Dk.cs d)] [] = some ([Res.agg (So.cs (bq d).1), Res.c (ii (bq d).2)], []) := by
  rcases bft (Prod.snd (gd d) == 0) with z0 | z0
  · rcases bft (Prod.snd (fj d) == 0) with z1 | z1
    · rcases bft (Prod.snd (tA d) == 0) with z2 | z2
      · exact rt (ec (Ai d (show d.cache.length ≤ 1000000 from by omega) h0 k) <| en z0 <| ec (Cr d (show d.cache.length ≤ 1000000 from by omega) h1 k) <| en z1 <| ec (GB d hs (show d.cache.length ≤ 1000000 from by omega) (k + 2)) <| en z2 <| e0) (by simp only [bq, so0, su0, z0, z1, z2, vq] <;> rfl)
      · exact rt (ec (Ai d (show d.cache.length ≤ 1000000 from by omega) h0 k) <| en z0 <| ec (Cr d (show d.cache.length ≤ 1000000 from by omega) h1 k) <| en z1 <| ec (GB d hs (show d.cache.length ≤ 1000000 from by omega) (k + 2)) <| en z2 <| e0) (by simp only [bq, so0, su0, z0, z1, z2, vq] <;> rfl)
    · exact rt (ec (Ai d (show d.cache.length ≤ 1000000 from by omega) h0 k) <| en z0 <| ec (Cr d (show d.cache.length ≤ 1000000 from by omega) h1 k) <| en z1 <| e0) (by simp only [bq, so0, su0, z0, z1, vq] <;> rfl)
  · exact rt (ec (Ai d (show d.cache.length ≤ 1000000 from by omega) h0 k) <| en z0 <| e0) (by simp only [bq, so0, su0, z0, vq] <;> rfl)
theorem sR (s : So) (b : Su) (hs : s.disk.sure.length ≤ 1000000) (hc : s.disk.cache.length ≤ 900) (k : Nat) : aj PP GL XX HH NN (k + 7) 106 [A.agg (So.cs s), A.agg (Su.cs b)] [] = some ([Res.agg (So.cs (bO s b).1), Res.c (ii (bO s b).2)], []) := by
  rcases bft (Su.blocks b == Su.blocks s.super && (Ve.cur b.v == Ve.cur s.super.v && (Ve.bit b.v == Ve.bit s.super.v && (Ve.o0 b.v == Ve.o0 s.super.v && (Ve.o1 b.v == Ve.o1 s.super.v && true) && true)) && (Su.inc b == Su.inc s.super && (Su.pri b == Su.pri s.super && (Su.dis b == Su.dis s.super && true))))) with z0 | z0
  · exact rt (eb z0 <| e0) (by simp only [bO, AT, z0, vq] <;> rfl)
  · rcases bft (Prod.snd (cb s.disk b) == 0) with z1 | z1
    · exact rt (eb z0 <| ec (ub s.disk b hs hc k) <| eb z1 <| e0) (by simp only [bO, AT, z0, z1, vq] <;> rfl)
    · exact rt (eb z0 <| ec (ub s.disk b hs hc k) <| eb z1 <| e0) (by simp only [bO, AT, z0, z1, vq] <;> rfl)
theorem AN (s : So) (m : BitVec 32) (hs : s.disk.sure.length ≤ 1000000) (hc : s.disk.cache.length ≤ 900) (k : Nat) : aj PP GL XX HH NN (k + 7) 134 [A.agg (So.cs s), A.c (w4 (mi m))] [] = some ([Res.agg (So.cs (kB s m).1), Res.c (ii (kB s m).2)], []) := by
  rcases bft (mi m == mi s.mask) with z0 | z0
  · exact rt (eb z0 <| e0) (by simp only [kB, z0, vq] <;> rfl)
  · rcases bft (Prod.snd (g8 s.disk m) == 0) with z1 | z1
    · exact rt (eb z0 <| ec (AJ s.disk m hs hc k) <| eb z1 <| e0) (by simp only [kB, z0, z1, vq] <;> rfl)
    · exact rt (eb z0 <| ec (AJ s.disk m hs hc k) <| eb z1 <| e0) (by simp only [kB, z0, z1, vq] <;> rfl)
theorem A1 (s : So) (i : Int) (hs : s.disk.sure.length ≤ 1000000) (hc : s.disk.cache.length ≤ 900) (k : Nat) : aj PP GL XX HH NN (k + 8) 109 [A.agg (So.cs s), A.c (ii i)] [] = some ([Res.agg (So.cs (fI s i).1), Res.c (ii (fI s i).2)], []) := by
  rcases bft (decide (i < 0)) with z0 | z0
  · exact rt (eb6 z0 <| et <| e0) (by simp only [fI, yu, z0, vq] <;> rfl)
  · rcases bft (decide (i ≥ Su.blocks s.super)) with z1 | z1
    · exact rt (eb6 z0 <| eb z1 <| e0) (by simp only [fI, yu, z0, z1, vq] <;> rfl)
    · exact rt (eb6 z0 <| eb z1 <| ec (FZ s.mask i (k + 3)) <| ec (AN s (yP s.mask [i]) hs hc k) <| e0) (by simp only [fI, yu, z0, z1, vq] <;> rfl)
theorem CR (s : So) (i : Int) (hc : s.disk.cache.length ≤ 900) (k : Nat) : aj PP GL XX HH NN (k + 6) 140 [A.agg (So.cs s), A.c (ii i)] [] = some ([Res.agg (So.cs (dG s i).1), Res.c (ii (dG s i).2)], []) := by
  rcases bft (decide (i < 0)) with z0 | z0
  · exact rt (eb6 z0 <| et <| e0) (by simp only [dG, yu, z0, vq] <;> rfl)
  · rcases bft (decide (i ≥ Su.blocks s.super)) with z1 | z1
    · exact rt (eb6 z0 <| eb z1 <| e0) (by simp only [dG, yu, z0, z1, vq] <;> rfl)
    · rcases bft (mi (sc s.mask [i]) == mi s.mask) with z2 | z2
      · exact rt (eb6 z0 <| eb z1 <| ec (su s.mask i (k + 1)) <| eb z2 <| e0) (by simp only [dG, yu, z0, z1, z2, vq] <;> rfl)
      · rcases bft (Prod.snd (d8 s.disk (sc s.mask [i])) == 0) with z3 | z3
        · exact rt (eb6 z0 <| eb z1 <| ec (su s.mask i (k + 1)) <| eb z2 <| ec (AB s.disk (sc s.mask [i]) hc k) <| eb z3 <| e0) (by simp only [dG, yu, z0, z1, z2, z3, vq] <;> rfl)
        · exact rt (eb6 z0 <| eb z1 <| ec (su s.mask i (k + 1)) <| eb z2 <| ec (AB s.disk (sc s.mask [i]) hc k) <| eb z3 <| e0) (by simp only [dG, yu, z0, z1, z2, z3, vq] <;> rfl)
theorem sH (s : So) (m : BitVec 32) (hs : s.disk.sure.length ≤ 1000000) (hc : s.disk.cache.length ≤ 900) (k : Nat) : aj PP GL XX HH NN (k + 8) 114 [A.agg (So.cs s), A.c (w4 (mi m))] [] = some ([Res.agg (So.cs (dK s m).1), Res.c (ii (dK s m).2)], []) := by
  exact rt (ec (wj s.mask m (k + 1)) <| ec (AN s (So.mask s ||| m) hs hc k) <| e0) (by simp only [dK, vq] <;> rfl)
theorem zC (s : So) (i : Int) (x : ByteArray) (hs : s.disk.sure.length ≤ 1000000) (hc : s.disk.cache.length ≤ 900) (k : Nat) : aj PP GL XX HH NN (k + 6) 111 [A.agg (So.cs s), A.c (ii i), A.c (st x)] [] = some ([Res.agg (So.cs (d9 s i x).1), Res.c (ii (d9 s i x).2)], []) := by
  exact rt (ec (CY s.disk i x hs hc k) <| e0) (by simp only [d9, vq] <;> rfl)
theorem AA (s : So) (i : Int) (hc : s.disk.cache.length ≤ 900) (k : Nat) : aj PP GL XX HH NN (k + 5) 77 [A.agg (So.cs s), A.c (ii i)] [] = some ([Res.c (st (bz s.disk i).1), Res.c (ii (bz s.disk i).2)], []) := by
  exact rt (ec (xF s.disk i (show s.disk.cache.length ≤ 1000000 from by omega) k) <| e0) rfl
end Go.Dm
namespace Go.Dm
open Go
theorem tY (n : Nd) (k : Nat) : aj PP GL XX HH NN (k + 2) 64 [A.agg (Nd.cs n)] [] = some ([Res.agg (Nd.cs (ch n))], []) := by
  exact rt (ec (Ed n.store.disk k) <| e0) (by simp only [ch, rq0, he0, su0, vq] <;> rfl)
theorem bX (n : Nd) (id : Int) (e : Int) (x : ByteArray) (k : Nat) : aj PP GL XX HH NN (k + 1) 66 [A.agg (Nd.cs n), A.c (ii id), A.c (ii e), A.c (st x)] [] = some ([Res.agg (Ou.cs (af n id e x))], []) := by
  exact rt (e0) (by simp only [af, vq] <;> rfl)
theorem B6 (n : Nd) (p : Pk) (q : Pk) (hq : q = ({ p with ses := Nd.ses n } : Pk)) (hd : p.data.size ≤ 900000) (hL : ∀ k, aj PP GL XX HH NN (k + 8) 105 [A.agg (Pk.cs ({ p with ses := Nd.ses n } : Pk))] [] = some ([Res.c (st (dF q).1), Res.c (ii (dF q).2)], [])) (k : Nat) : aj PP GL XX HH NN (k + 9) 75 [A.agg (Nd.cs n), A.agg (Pk.cs p)] [] = some ([Res.agg (Ou.cs (Ou.mk 1 n.id 0 0 (dF q).1))], []) := by
  exact rt (ec (hL k) <| e0) rfl
theorem eY (n : Nd) (p : Pk) (hd : p.data.size ≤ 900000) (k : Nat) : aj PP GL XX HH NN (k + 9) 75 [.agg n.cs, .agg p.cs] [] = some ([.agg (aR n p).cs], []) :=
  B6 n p _ rfl hd (fun k => BS { p with ses := n.ses } hd k) k
theorem ca (n : Nd) (b : Su) (hs : n.store.disk.sure.length ≤ 1000000) (hc : n.store.disk.cache.length ≤ 900) (k : Nat) : aj PP GL XX HH NN (k + 8) 76 [A.agg (Nd.cs n), A.agg (Su.cs b)] [] = some ([Res.agg (Nd.cs (ac n b).1), Res.c (bo (ac n b).2)], []) := by
  rcases bft (Prod.snd (bO n.store b) == 0) with z0 | z0
  · exact rt (ec (sR n.store b hs hc k) <| en z0 <| e0) (by simp only [ac, z0, vq] <;> rfl)
  · exact rt (ec (sR n.store b hs hc k) <| en z0 <| ec (tY (({ n with store := Prod.fst (bO n.store b) } : Nd)) (k + 5)) <| e0) (by simp only [ac, z0, vq] <;> rfl)
theorem cE (n : Nd) (id : Int) (e : Int) (k : Nat) : aj PP GL XX HH NN (k + 2) 73 [A.agg (Nd.cs n), A.c (ii id), A.c (ii e)] [] = some ([Res.agg (Nd.cs n), Res.top 5 (List.map Ou.cs [af n id e ⟨#[]⟩])], []) := by
  exact rt (ec (bX n id e ⟨#[]⟩ k) <| e0) rfl
theorem jL (n : Nd) (k : Nat) : aj PP GL XX HH NN (k + 1) 74 [A.agg (Nd.cs n)] [] = some ([Res.c (bo (i4 n))], []) := by
  rcases bft (Nd.state n == 2) with z0 | z0
  · exact rt (eb4 z0 <| e0) (by simp only [i4, z0, vq] <;> rfl)
  · exact rt (eb4 z0 <| e0) (by simp only [i4, z0, vq] <;> rfl)
end Go.Dm
