/-
  A part of the proofs over this seat: its functions, one by one (the file in which the theorems stand says what is proved).
-/
import Derived.KernelRfl
import Derived.Test.YtnilacbgecakcaaGreatProg
import Derived.Test.YtnilacbgecakcaaGreatXxM0
set_option linter.unusedSimpArgs false
set_option linter.unusedVariables false
set_option maxRecDepth 100000
set_option maxHeartbeats 4000000
namespace Go.Dm
open Go
noncomputable abbrev PP := Proofs.Tryz.prog
def GL : Nat → Option (List C) := fun _ => none
def XX : Tab := fun f => match f with | 57 => some rl | 88 => some (kT 1) | _ => none
def HH0 : FuncId → Nat → LoopHint
  | 3, 8 => { forget := [0, 2, 3, 4, 8, 9, 10, 11, 12, 13, 14, 15, 16, 17, 18, 19, 20, 21, 22, 23, 24, 25, 26, 27, 28, 29, 30, 31, 32, 33, 34, 35, 36, 37, 38, 39, 40, 41, 42, 43, 44, 45, 46, 47, 48, 49, 50, 51, 52, 53, 54, 55, 56] }
  | 4, 8 => { forget := [0, 2, 3, 4, 8, 9, 10, 11, 12, 13, 14, 15, 16, 17, 18, 19, 20, 21, 22, 23, 24, 25, 26, 27, 28, 29, 30, 31, 32, 33, 34, 35, 36, 37, 38, 39, 40, 41, 42, 43, 44, 45, 46, 47, 48, 49, 50, 51, 52, 53, 54, 55, 56, 57, 58, 59, 60, 61, 62, 63, 64, 65, 66, 67, 68, 69, 70, 71, 72, 73, 74, 75, 76, 77, 78, 79, 80, 81, 82, 83, 84, 85, 86, 87, 88, 89, 90, 91, 92, 93, 94, 95, 96, 97, 98, 99, 100, 101, 102, 103, 104, 105, 106, 107, 108, 109, 110, 111, 112, 113, 114, 115, 116, 117, 118, 119, 120, 121, 122, 123, 124, 125, 126, 127, 128] }
  | 4, 15 => { forget := [0, 2, 3, 4, 9, 12, 13, 14, 15, 16, 17, 18, 19, 20, 21, 22, 23, 24, 25, 26, 27, 28, 29, 30, 31, 32, 33, 34, 35, 36, 37, 38, 39, 40, 41, 42, 43, 44, 45, 46, 47, 48, 49, 50, 51, 52, 53, 54, 55, 56, 57, 58, 59, 60, 61, 62, 63, 64, 65, 66, 67, 68, 69, 70, 71, 72, 73, 74, 75, 76, 77, 78, 79, 80, 81, 82, 83, 84, 85, 86, 87, 88, 89, 90, 91, 92, 93, 94, 95, 96, 97, 98, 99, 100, 101, 102, 103, 104, 105, 106, 107, 108, 109, 110, 111, 112, 113, 114, 115, 116, 117, 118, 119, 120, 121, 122, 123, 124, 125, 126, 127, 128] }
  | 4, 20 => { forget := [0, 2, 3, 4, 9, 13, 14, 15, 16, 17, 18, 19, 20, 21, 22, 23, 24, 25, 26, 27, 28, 29, 30, 31, 32, 33, 34, 35, 36, 37, 38, 39, 40, 41, 42, 43, 44, 45, 46, 47, 48, 49, 50, 51, 52, 53, 54, 55, 56, 57, 58, 59, 60, 61, 62, 63, 64, 65, 66, 67, 68, 69, 70, 71, 72, 73, 74, 75, 76, 77, 78, 79, 80, 81, 82, 83, 84, 85, 86, 87, 88, 89, 90, 91, 92, 93, 94, 95, 96, 97, 98, 99, 100, 101, 102, 103, 104, 105, 106, 107, 108, 109, 110, 111, 112, 113, 114, 115, 116, 117, 118, 119, 120, 121, 122, 123, 124, 125, 126, 127, 128] }
  | 9, 2 => { forget := [0, 1, 3, 4, 5, 6, 7, 10, 11, 12, 13, 14, 15, 16, 17, 18, 19, 20, 21, 22, 23, 24, 25, 26, 27, 28, 29, 30, 31, 32] }
  | 11, 5 => { forget := [0, 1, 2, 3, 4, 5, 6, 7, 9, 12, 13, 14, 15, 16, 17, 18, 19, 20, 21, 22, 23, 24, 25, 26, 30, 31, 32, 33, 34, 35, 36, 37, 38, 39, 40, 41, 42, 43, 44, 45, 46, 47, 48, 49, 50, 51, 52, 53, 54, 55, 56, 57, 58, 59, 60, 61, 62, 63, 64, 65, 66] }
  | 11, 10 => { forget := [0, 1, 2, 3, 4, 5, 6, 7, 8, 9, 12, 13, 14, 15, 16, 17, 18, 19, 20, 21, 22, 23, 24, 25, 26, 27, 28, 29, 30, 31, 32, 33, 34, 35, 36, 37, 40, 41, 42, 43, 44, 45, 46, 47, 48, 49, 50, 51, 52, 53, 54, 55, 56, 57, 58, 59, 60, 61, 62, 63, 64, 65, 66] }
  | 12, 2 => { forget := [0, 1, 3, 4, 5, 6, 7, 10, 11, 12, 13, 14, 15, 16, 17, 18, 19, 20, 21, 22, 23, 24, 25, 26, 27, 28, 29, 30, 31] }
  | 14, 4 => { forget := [1, 2, 3, 4, 6, 7, 8, 9, 10, 11, 12, 13, 14, 15, 16, 17, 18, 19, 20, 21, 22, 23, 24, 25, 26, 27, 28, 29, 30, 31] }
  | 15, 2 => { forget := [1, 2, 4, 5, 6, 7, 8, 9, 10, 11, 12, 13, 14, 15, 16, 17, 18, 19, 20, 21, 22, 23, 24, 25, 26, 27, 28, 29, 30, 31, 32, 33, 34, 35, 36, 37, 38, 39, 40, 41, 42, 43, 44, 45, 46, 47, 48, 49, 50, 51, 52, 53, 54, 55] }
  | 15, 8 => { forget := [1, 2, 5, 6, 7, 8, 9, 10, 11, 12, 13, 14, 15, 16, 17, 18, 19, 20, 21, 22, 23, 24, 25, 26, 27, 28, 29, 30, 31, 32, 33, 34, 35, 36, 37, 38, 39, 40, 41, 42, 43, 44, 45, 46, 47, 48, 49, 50, 51, 52, 53, 54, 55] }
  | 17, 3 => { tags := [(4, 1)], forget := [0, 2, 3, 5, 6, 7, 8, 9, 10, 11, 14, 15, 16, 17, 18, 19, 20, 21, 22, 23, 24, 25, 26, 27, 28, 29, 30] }
  | 19, 2 => { forget := [1, 3, 4, 5, 6, 7, 8, 9, 10, 11, 12, 13, 16, 17, 18, 19, 20, 21, 22, 23, 24, 25, 26, 27, 28, 29, 30, 31, 32, 33, 34] }
  | 23, 2 => { forget := [0, 1, 4, 5, 6, 7, 8, 9, 10, 13, 14, 15, 16, 17, 18, 19, 20, 21, 22, 23, 24, 25, 26, 27, 28, 29, 30, 31, 32, 33, 34, 35, 36, 37, 38, 39, 40, 41, 42, 43, 44, 45, 46, 47, 48, 49] }
  | 24, 4 => { forget := [0, 3, 4, 5, 6, 7, 8, 9, 10, 11, 12, 13, 14, 18, 19, 20, 21, 22, 23, 24, 25, 26, 27, 28, 29, 30, 31] }
  | 27, 3 => { forget := [2, 3, 5, 8, 9, 10, 11, 12, 13, 14, 15, 16, 17, 18, 19, 20, 21, 22, 23, 24, 25, 26, 27, 28, 29, 30, 31, 32, 33, 34, 35] }
  | 28, 3 => { tags := [(6, 5)], forget := [0, 3, 5, 8, 9, 10, 11, 12, 13, 14, 15, 16, 17, 18, 19, 20, 21, 22, 23, 24, 25, 26, 27, 28, 29, 30] }
  | 36, 3 => { tags := [(1, 5)], forget := [0, 3, 5, 7, 8, 9, 10, 11, 12, 13, 14, 15, 16, 17, 18, 19, 20, 21, 22, 23, 24, 25, 26, 27, 28, 29, 30, 31, 32, 33, 34, 35, 36, 37, 38, 39, 40, 41, 42, 43, 44, 45] }
  | 44, 5 => { tags := [(10, 5)], forget := [0, 2, 5, 7, 9, 13, 14, 15, 16, 17, 18, 19, 20, 21, 22, 23, 24, 25, 26, 27, 28, 29, 30, 31, 32, 33, 34, 35, 36, 37, 38, 39, 40, 41, 42, 43, 44, 45, 46, 47, 48, 49, 50, 51, 52, 53, 54, 55, 56, 57, 58, 59, 60, 61, 62, 63, 64, 65, 66, 67, 68, 69, 70, 71, 72, 73, 74, 75, 76, 77, 78, 79, 80, 81, 82, 83, 84, 85, 86, 87, 88, 89, 90] }
  | 48, 2 => { forget := [2, 3, 4, 5, 6, 7, 8, 9, 10, 11, 12, 13, 17, 18, 19, 20, 21, 22, 23, 24, 25, 26, 27, 28, 29, 30, 31, 32, 33, 34, 35, 36, 37, 38, 39, 40, 41, 42, 43, 44, 45, 46, 47] }
  | 52, 4 => { forget := [2, 3, 4, 5, 6, 7, 8, 9, 10, 11, 14, 15, 16, 17, 18, 19, 20, 21, 22, 23, 24, 25] }
  | 53, 4 => { forget := [2, 3, 4, 5, 6, 7, 8, 9, 10, 11, 14, 15, 16, 17, 18, 19, 20, 21, 22, 23, 24, 25] }
  | 54, 4 => { forget := [0, 3, 4, 5, 6, 7, 8, 9, 10, 11, 12, 13, 14, 18, 19, 20, 21, 22, 23, 24, 25, 26, 27, 28, 29, 30, 31] }
  | 55, 6 => { vtags := [(1, 0, 1)], forget := [1, 2, 3, 5, 6, 7, 10, 11, 12, 13, 14, 15, 16, 17, 18, 19, 20, 21, 22, 23, 24, 25, 26, 27, 28, 29, 30, 31, 32, 33, 34, 35, 36, 37, 38] }
  | 81, 3 => { forget := [0, 3, 7, 8, 9, 10, 11, 12, 13, 14, 15, 16, 17, 18, 19, 20, 21, 22, 23, 24, 25, 26, 27, 28, 29, 30, 31, 32, 33, 34, 35, 36, 37, 38, 39, 40, 41, 42, 43] }
  | 89, 2 => { forget := [2, 3, 4, 5, 6, 9, 10, 11, 12, 13, 14, 15, 16, 17, 18] }
  | 112, 3 => { tags := [(4, 1)], forget := [0, 2, 3, 6, 7, 8, 9, 10, 11, 12, 13, 14, 15, 16, 17, 18, 19, 20, 21, 22, 23, 24, 25, 26, 27, 28, 29] }
  | 119, 2 => { forget := [2, 3, 4, 5, 6, 9, 10, 11, 12, 13, 14, 15, 16, 17, 18] }
  | 124, 3 => { forget := [1, 2, 5, 6, 7, 8, 9, 10, 11, 12, 13, 14, 15, 16, 17, 18, 19, 20] }
  | 125, 3 => { forget := [2, 3, 4, 7, 8, 9, 10, 11, 12, 13, 14, 15, 16, 17, 18, 19, 20, 21] }
  | 126, 1 => { forget := [2, 4, 5, 6, 7, 8, 9, 10, 11, 12, 13, 14, 15, 16, 17, 18] }
  | 131, 2 => { forget := [2, 3, 4, 6, 7, 8, 9, 10, 11, 12, 13, 14, 15, 16, 17, 18, 19, 20, 21, 22, 23, 24, 25, 26, 27, 28, 29, 30, 31, 32, 33, 34, 35, 36, 37, 38, 39, 40] }
  | 136, 3 => { forget := [1, 2, 5, 6, 7, 8, 9, 10, 11, 12, 13, 14, 15, 16, 17, 18] }
  | 137, 2 => { forget := [2, 3, 4, 5, 7, 8, 9, 10, 11, 12, 13, 14, 15, 16, 17, 18, 19] }
  | 142, 4 => { forget := [1, 2, 3, 4, 6, 7, 8, 9, 10, 11, 12, 13, 14, 15, 16, 17, 18, 19] }
  | 143, 5 => { forget := [2, 3, 4, 5, 8, 9, 10, 11, 12, 13, 14, 15, 16, 17, 18, 19, 20, 21, 22, 23, 24] }
  | 144, 5 => { tags := [(6, 1)], forget := [2, 3, 4, 5, 8, 9, 10, 11, 12, 13, 14, 15, 16, 17, 18, 19, 20, 21, 22, 23, 24, 25, 26, 27, 28, 29] }
  | 150, 3 => { forget := [1, 2, 6, 7, 8, 9, 10, 11, 12, 13, 14, 15, 16, 17, 18, 19, 20, 21, 22, 23, 24, 25] }
  | 152, 8 => { tags := [(4, 1)], forget := [0, 3, 6, 7, 8, 9, 10, 11, 12, 13, 14, 15, 16, 17, 18, 19, 20, 21, 22, 23, 24, 25, 26, 27, 28, 29, 30] }
  | 153, 3 => { forget := [0, 3, 4, 7, 8, 9, 10, 11, 12, 13, 14, 15, 16, 17, 18, 19, 20, 21, 22, 23, 24, 25, 26, 27, 28, 29, 30, 31, 32, 33] }
  | 156, 3 => { forget := [1, 2, 5, 6, 7, 8, 9, 10, 11, 12] }
  | 160, 3 => { forget := [0, 2, 3, 4, 7, 8, 9, 10, 11, 12, 13, 14, 15, 16, 17, 18, 19, 20, 21, 22, 23, 24, 25, 26, 27, 28, 29, 30, 31] }
  | 161, 5 => { forget := [1, 2, 5, 6, 7, 8, 9, 10, 11, 12, 13, 14, 15, 16, 17, 18, 19, 20] }
  | 162, 3 => { tags := [(3, 1)], forget := [1, 2, 5, 6, 7, 8, 9, 10, 11, 12, 13, 14, 15, 16] }
  | 163, 2 => { forget := [2, 3, 4, 6, 7, 8, 9, 10, 11, 12, 13, 14, 15, 16, 17, 18, 19, 20, 21, 22, 23, 24, 25] }
  | 1000001, 11 => { forget := [47] }
  | 1000001, 29 => { forget := [41, 45] }
  | 1000001, 78 => { forget := [5, 10] }
  | 1000001, 79 => { forget := [41, 45] }
  | 1000001, 80 => { forget := [44, 46, 100037] }
  | 1000001, 165 => { forget := [8] }
  | 1000001, 166 => { forget := [37, 44, 46] }
  | 1000001, 168 => { forget := [11] }
  | 1000001, 169 => { forget := [47] }
  | 1000001, 176 => { forget := [51, 54] }
  | 87, 1000000 => { forget := [1] }
  | 36, 1000000 => { forget := [0] }
  | _, _ => {}
def HC : FuncId → LoopHint
  | 88 => { forget := [1] }
  | 120 => { forget := [1] }
  | 121 => { forget := [1] }
  | _ => {}
def HH (f : FuncId) (n : Nat) : LoopHint := bif n == 1000002 then HC f else HH0 f n
def NN : Nat := 18446744073709551616
noncomputable abbrev ED (d k : Nat) : Env := nI PP (ag PP GL XX HH NN k) GL HH NN d
noncomputable abbrev EE (k : Nat) : Env := ED 6 k
end Go.Dm
namespace Go.Dm
open Go
set_option maxHeartbeats 1000000
theorem GH (n : Int) (k : Nat) : ag PP GL XX HH NN (k + 1) 125 [A.c (u n), A.c (ii 8)] [] = some ([Res.c (st (dO n))], []) := by
  exact rt (eg (G.un) <| et <| ep (show (256 : Int) ≠ (0 : Int) from by decide) <| eg (G.ok) <| ep (rfl : some ([IntKind.wrap .u8 (Int.tmod n (256 : Int))]) = some ([IntKind.wrap .u8 (Int.tmod n (256 : Int))])) <| eg (G.str [IntKind.wrap .u8 (Int.tmod n 256)]) <| ep (show ByteArray.size (bH [IntKind.wrap .u8 (Int.tmod n (256 : Int))]) + ByteArray.size ⟨#[]⟩ ≤ 9223372036854775807 from by first | omega | (simp only [vu] at *; omega)) <| eg (G.ok) <| ep (show (256 : Int) ≠ (0 : Int) from by decide) <| eg (G.ok) <| et <| ep (show (256 : Int) ≠ (0 : Int) from by decide) <| eg (G.ok) <| ep (rfl : some ([IntKind.wrap .u8 (Int.tmod (IntKind.wrap .u64 (Int.tdiv n (256 : Int))) (256 : Int))]) = some ([IntKind.wrap .u8 (Int.tmod (IntKind.wrap .u64 (Int.tdiv n (256 : Int))) (256 : Int))])) <| eg (G.str [IntKind.wrap .u8 (Int.tmod (IntKind.wrap .u64 (Int.tdiv n 256)) 256)]) <| ep (show ByteArray.size (bH [IntKind.wrap .u8 (Int.tmod (IntKind.wrap .u64 (Int.tdiv n (256 : Int))) (256 : Int))]) + ByteArray.size (bH [IntKind.wrap .u8 (Int.tmod n (256 : Int))] ++ ByteArray.mk #[]) ≤ 9223372036854775807 from by first | omega | (simp only [vu] at *; omega)) <| eg (G.ok) <| ep (show (256 : Int) ≠ (0 : Int) from by decide) <| eg (G.ok) <| et <| ep (show (256 : Int) ≠ (0 : Int) from by decide) <| eg (G.ok) <| ep (rfl : some ([IntKind.wrap .u8 (Int.tmod (IntKind.wrap .u64 (Int.tdiv (IntKind.wrap .u64 (Int.tdiv n (256 : Int))) (256 : Int))) (256 : Int))]) = some ([IntKind.wrap .u8 (Int.tmod (IntKind.wrap .u64 (Int.tdiv (IntKind.wrap .u64 (Int.tdiv n (256 : Int))) (256 : Int))) (256 : Int))])) <| eg (G.str [IntKind.wrap .u8 (Int.tmod (IntKind.wrap .u64 (Int.tdiv (IntKind.wrap .u64 (Int.tdiv n 256)) 256)) 256)]) <| ep (show ByteArray.size (bH [IntKind.wrap .u8 (Int.tmod (IntKind.wrap .u64 (Int.tdiv (IntKind.wrap .u64 (Int.tdiv n (256 : Int))) (256 : Int))) (256 : Int))]) + ByteArray.size (bH [IntKind.wrap .u8 (Int.tmod (IntKind.wrap .u64 (Int.tdiv n (256 : Int))) (256 : Int))] ++ (bH [IntKind.wrap .u8 (Int.tmod n (256 : Int))] ++ ByteArray.mk #[])) ≤ 9223372036854775807 from by first | omega | (simp only [vu] at *; omega)) <| eg (G.ok) <| ep (show (256 : Int) ≠ (0 : Int) from by decide) <| eg (G.ok) <| et <| ep (show (256 : Int) ≠ (0 : Int) from by decide) <| eg (G.ok) <| ep (rfl : some ([IntKind.wrap .u8 (Int.tmod (IntKind.wrap .u64 (Int.tdiv (IntKind.wrap .u64 (Int.tdiv (IntKind.wrap .u64 (Int.tdiv n (256 : Int))) (256 : Int))) (256 : Int))) (256 : Int))]) = some ([IntKind.wrap .u8 (Int.tmod (IntKind.wrap .u64 (Int.tdiv (IntKind.wrap .u64 (Int.tdiv (IntKind.wrap .u64 (Int.tdiv n (256 : Int))) (256 : Int))) (256 : Int))) (256 : Int))])) <| eg (G.str [IntKind.wrap .u8 (Int.tmod (IntKind.wrap .u64 (Int.tdiv (IntKind.wrap .u64 (Int.tdiv (IntKind.wrap .u64 (Int.tdiv n 256)) 256)) 256)) 256)]) <| ep (show ByteArray.size (bH [IntKind.wrap .u8 (Int.tmod (IntKind.wrap .u64 (Int.tdiv (IntKind.wrap .u64 (Int.tdiv (IntKind.wrap .u64 (Int.tdiv n (256 : Int))) (256 : Int))) (256 : Int))) (256 : Int))]) + ByteArray.size (bH [IntKind.wrap .u8 (Int.tmod (IntKind.wrap .u64 (Int.tdiv (IntKind.wrap .u64 (Int.tdiv n (256 : Int))) (256 : Int))) (256 : Int))] ++ (bH [IntKind.wrap .u8 (Int.tmod (IntKind.wrap .u64 (Int.tdiv n (256 : Int))) (256 : Int))] ++ (bH [IntKind.wrap .u8 (Int.tmod n (256 : Int))] ++ ByteArray.mk #[]))) ≤ 9223372036854775807 from by first | omega | (simp only [vu] at *; omega)) <| eg (G.ok) <| ep (show (256 : Int) ≠ (0 : Int) from by decide) <| eg (G.ok) <| et <| ep (show (256 : Int) ≠ (0 : Int) from by decide) <| eg (G.ok) <| ep (rfl : some ([IntKind.wrap .u8 (Int.tmod (IntKind.wrap .u64 (Int.tdiv (IntKind.wrap .u64 (Int.tdiv (IntKind.wrap .u64 (Int.tdiv (IntKind.wrap .u64 (Int.tdiv n (256 : Int))) (256 : Int))) (256 : Int))) (256 : Int))) (256 : Int))]) = some ([IntKind.wrap .u8 (Int.tmod (IntKind.wrap .u64 (Int.tdiv (IntKind.wrap .u64 (Int.tdiv (IntKind.wrap .u64 (Int.tdiv (IntKind.wrap .u64 (Int.tdiv n (256 : Int))) (256 : Int))) (256 : Int))) (256 : Int))) (256 : Int))])) <| eg (G.str [IntKind.wrap .u8 (Int.tmod (IntKind.wrap .u64 (Int.tdiv (IntKind.wrap .u64 (Int.tdiv (IntKind.wrap .u64 (Int.tdiv (IntKind.wrap .u64 (Int.tdiv n 256)) 256)) 256)) 256)) 256)]) <| ep (show ByteArray.size (bH [IntKind.wrap .u8 (Int.tmod (IntKind.wrap .u64 (Int.tdiv (IntKind.wrap .u64 (Int.tdiv (IntKind.wrap .u64 (Int.tdiv (IntKind.wrap .u64 (Int.tdiv n (256 : Int))) (256 : Int))) (256 : Int))) (256 : Int))) (256 : Int))]) + ByteArray.size (bH [IntKind.wrap .u8 (Int.tmod (IntKind.wrap .u64 (Int.tdiv (IntKind.wrap .u64 (Int.tdiv (IntKind.wrap .u64 (Int.tdiv n (256 : Int))) (256 : Int))) (256 : Int))) (256 : Int))] ++ (bH [IntKind.wrap .u8 (Int.tmod (IntKind.wrap .u64 (Int.tdiv (IntKind.wrap .u64 (Int.tdiv n (256 : Int))) (256 : Int))) (256 : Int))] ++ (bH [IntKind.wrap .u8 (Int.tmod (IntKind.wrap .u64 (Int.tdiv n (256 : Int))) (256 : Int))] ++ (bH [IntKind.wrap .u8 (Int.tmod n (256 : Int))] ++ ByteArray.mk #[])))) ≤ 9223372036854775807 from by first | omega | (simp only [vu] at *; omega)) <| eg (G.ok) <| ep (show (256 : Int) ≠ (0 : Int) from by decide) <| eg (G.ok) <| et <| ep (show (256 : Int) ≠ (0 : Int) from by decide) <| eg (G.ok) <| ep (rfl : some ([IntKind.wrap .u8 (Int.tmod (IntKind.wrap .u64 (Int.tdiv (IntKind.wrap .u64 (Int.tdiv (IntKind.wrap .u64 (Int.tdiv (IntKind.wrap .u64 (Int.tdiv (IntKind.wrap .u64 (Int.tdiv n (256 : Int))) (256 : Int))) (256 : Int))) (256 : Int))) (256 : Int))) (256 : Int))]) = some ([IntKind.wrap .u8 (Int.tmod (IntKind.wrap .u64 (Int.tdiv (IntKind.wrap .u64 (Int.tdiv (IntKind.wrap .u64 (Int.tdiv (IntKind.wrap .u64 (Int.tdiv (IntKind.wrap .u64 (Int.tdiv n (256 : Int))) (256 : Int))) (256 : Int))) (256 : Int))) (256 : Int))) (256 : Int))])) <| eg (G.str [IntKind.wrap .u8 (Int.tmod (IntKind.wrap .u64 (Int.tdiv (IntKind.wrap .u64 (Int.tdiv (IntKind.wrap .u64 (Int.tdiv (IntKind.wrap .u64 (Int.tdiv (IntKind.wrap .u64 (Int.tdiv n 256)) 256)) 256)) 256)) 256)) 256)]) <| ep (show ByteArray.size (bH [IntKind.wrap .u8 (Int.tmod (IntKind.wrap .u64 (Int.tdiv (IntKind.wrap .u64 (Int.tdiv (IntKind.wrap .u64 (Int.tdiv (IntKind.wrap .u64 (Int.tdiv (IntKind.wrap .u64 (Int.tdiv n (256 : Int))) (256 : Int))) (256 : Int))) (256 : Int))) (256 : Int))) (256 : Int))]) + ByteArray.size (bH [IntKind.wrap .u8 (Int.tmod (IntKind.wrap .u64 (Int.tdiv (IntKind.wrap .u64 (Int.tdiv (IntKind.wrap .u64 (Int.tdiv (IntKind.wrap .u64 (Int.tdiv n (256 : Int))) (256 : Int))) (256 : Int))) (256 : Int))) (256 : Int))] ++ (bH [IntKind.wrap .u8 (Int.tmod (IntKind.wrap .u64 (Int.tdiv (IntKind.wrap .u64 (Int.tdiv (IntKind.wrap .u64 (Int.tdiv n (256 : Int))) (256 : Int))) (256 : Int))) (256 : Int))] ++ (bH [IntKind.wrap .u8 (Int.tmod (IntKind.wrap .u64 (Int.tdiv (IntKind.wrap .u64 (Int.tdiv n (256 : Int))) (256 : Int))) (256 : Int))] ++ (bH [IntKind.wrap .u8 (Int.tmod (IntKind.wrap .u64 (Int.tdiv n (256 : Int))) (256 : Int))] ++ (bH [IntKind.wrap .u8 (Int.tmod n (256 : Int))] ++ ByteArray.mk #[]))))) ≤ 9223372036854775807 from by first | omega | (simp only [vu] at *; omega)) <| eg (G.ok) <| ep (show (256 : Int) ≠ (0 : Int) from by decide) <| eg (G.ok) <| et <| ep (show (256 : Int) ≠ (0 : Int) from by decide) <| eg (G.ok) <| ep (rfl : some ([IntKind.wrap .u8 (Int.tmod (IntKind.wrap .u64 (Int.tdiv (IntKind.wrap .u64 (Int.tdiv (IntKind.wrap .u64 (Int.tdiv (IntKind.wrap .u64 (Int.tdiv (IntKind.wrap .u64 (Int.tdiv (IntKind.wrap .u64 (Int.tdiv n (256 : Int))) (256 : Int))) (256 : Int))) (256 : Int))) (256 : Int))) (256 : Int))) (256 : Int))]) = some ([IntKind.wrap .u8 (Int.tmod (IntKind.wrap .u64 (Int.tdiv (IntKind.wrap .u64 (Int.tdiv (IntKind.wrap .u64 (Int.tdiv (IntKind.wrap .u64 (Int.tdiv (IntKind.wrap .u64 (Int.tdiv (IntKind.wrap .u64 (Int.tdiv n (256 : Int))) (256 : Int))) (256 : Int))) (256 : Int))) (256 : Int))) (256 : Int))) (256 : Int))])) <| eg (G.str [IntKind.wrap .u8 (Int.tmod (IntKind.wrap .u64 (Int.tdiv (IntKind.wrap .u64 (Int.tdiv (IntKind.wrap .u64 (Int.tdiv (IntKind.wrap .u64 (Int.tdiv (IntKind.wrap .u64 (Int.tdiv (IntKind.wrap .u64 (Int.tdiv n 256)) 256)) 256)) 256)) 256)) 256)) 256)]) <| ep (show ByteArray.size (bH [IntKind.wrap .u8 (Int.tmod (IntKind.wrap .u64 (Int.tdiv (IntKind.wrap .u64 (Int.tdiv (IntKind.wrap .u64 (Int.tdiv (IntKind.wrap .u64 (Int.tdiv (IntKind.wrap .u64 (Int.tdiv (IntKind.wrap .u64 (Int.tdiv n (256 : Int))) (256 : Int))) (256 : Int))) (256 : Int))) (256 : Int))) (256 : Int))) (256 : Int))]) + ByteArray.size (bH [IntKind.wrap .u8 (Int.tmod (IntKind.wrap .u64 (Int.tdiv (IntKind.wrap .u64 (Int.tdiv (IntKind.wrap .u64 (Int.tdiv (IntKind.wrap .u64 (Int.tdiv (IntKind.wrap .u64 (Int.tdiv n (256 : Int))) (256 : Int))) (256 : Int))) (256 : Int))) (256 : Int))) (256 : Int))] ++ (bH [IntKind.wrap .u8 (Int.tmod (IntKind.wrap .u64 (Int.tdiv (IntKind.wrap .u64 (Int.tdiv (IntKind.wrap .u64 (Int.tdiv (IntKind.wrap .u64 (Int.tdiv n (256 : Int))) (256 : Int))) (256 : Int))) (256 : Int))) (256 : Int))] ++ (bH [IntKind.wrap .u8 (Int.tmod (IntKind.wrap .u64 (Int.tdiv (IntKind.wrap .u64 (Int.tdiv (IntKind.wrap .u64 (Int.tdiv n (256 : Int))) (256 : Int))) (256 : Int))) (256 : Int))] ++ (bH [IntKind.wrap .u8 (Int.tmod (IntKind.wrap .u64 (Int.tdiv (IntKind.wrap .u64 (Int.tdiv n (256 : Int))) (256 : Int))) (256 : Int))] ++ (bH [IntKind.wrap .u8 (Int.tmod (IntKind.wrap .u64 (Int.tdiv n (256 : Int))) (256 : Int))] ++ (bH [IntKind.wrap .u8 (Int.tmod n (256 : Int))] ++ ByteArray.mk #[])))))) ≤ 9223372036854775807 from by first | omega | (simp only [vu] at *; omega)) <| eg (G.ok) <| ep (show (256 : Int) ≠ (0 : Int) from by decide) <| eg (G.ok) <| et <| ep (show (256 : Int) ≠ (0 : Int) from by decide) <| eg (G.ok) <| ep (rfl : some ([IntKind.wrap .u8 (Int.tmod (IntKind.wrap .u64 (Int.tdiv (IntKind.wrap .u64 (Int.tdiv (IntKind.wrap .u64 (Int.tdiv (IntKind.wrap .u64 (Int.tdiv (IntKind.wrap .u64 (Int.tdiv (IntKind.wrap .u64 (Int.tdiv (IntKind.wrap .u64 (Int.tdiv n (256 : Int))) (256 : Int))) (256 : Int))) (256 : Int))) (256 : Int))) (256 : Int))) (256 : Int))) (256 : Int))]) = some ([IntKind.wrap .u8 (Int.tmod (IntKind.wrap .u64 (Int.tdiv (IntKind.wrap .u64 (Int.tdiv (IntKind.wrap .u64 (Int.tdiv (IntKind.wrap .u64 (Int.tdiv (IntKind.wrap .u64 (Int.tdiv (IntKind.wrap .u64 (Int.tdiv (IntKind.wrap .u64 (Int.tdiv n (256 : Int))) (256 : Int))) (256 : Int))) (256 : Int))) (256 : Int))) (256 : Int))) (256 : Int))) (256 : Int))])) <| eg (G.str [IntKind.wrap .u8 (Int.tmod (IntKind.wrap .u64 (Int.tdiv (IntKind.wrap .u64 (Int.tdiv (IntKind.wrap .u64 (Int.tdiv (IntKind.wrap .u64 (Int.tdiv (IntKind.wrap .u64 (Int.tdiv (IntKind.wrap .u64 (Int.tdiv (IntKind.wrap .u64 (Int.tdiv n 256)) 256)) 256)) 256)) 256)) 256)) 256)) 256)]) <| ep (show ByteArray.size (bH [IntKind.wrap .u8 (Int.tmod (IntKind.wrap .u64 (Int.tdiv (IntKind.wrap .u64 (Int.tdiv (IntKind.wrap .u64 (Int.tdiv (IntKind.wrap .u64 (Int.tdiv (IntKind.wrap .u64 (Int.tdiv (IntKind.wrap .u64 (Int.tdiv (IntKind.wrap .u64 (Int.tdiv n (256 : Int))) (256 : Int))) (256 : Int))) (256 : Int))) (256 : Int))) (256 : Int))) (256 : Int))) (256 : Int))]) + ByteArray.size (bH [IntKind.wrap .u8 (Int.tmod (IntKind.wrap .u64 (Int.tdiv (IntKind.wrap .u64 (Int.tdiv (IntKind.wrap .u64 (Int.tdiv (IntKind.wrap .u64 (Int.tdiv (IntKind.wrap .u64 (Int.tdiv (IntKind.wrap .u64 (Int.tdiv n (256 : Int))) (256 : Int))) (256 : Int))) (256 : Int))) (256 : Int))) (256 : Int))) (256 : Int))] ++ (bH [IntKind.wrap .u8 (Int.tmod (IntKind.wrap .u64 (Int.tdiv (IntKind.wrap .u64 (Int.tdiv (IntKind.wrap .u64 (Int.tdiv (IntKind.wrap .u64 (Int.tdiv (IntKind.wrap .u64 (Int.tdiv n (256 : Int))) (256 : Int))) (256 : Int))) (256 : Int))) (256 : Int))) (256 : Int))] ++ (bH [IntKind.wrap .u8 (Int.tmod (IntKind.wrap .u64 (Int.tdiv (IntKind.wrap .u64 (Int.tdiv (IntKind.wrap .u64 (Int.tdiv (IntKind.wrap .u64 (Int.tdiv n (256 : Int))) (256 : Int))) (256 : Int))) (256 : Int))) (256 : Int))] ++ (bH [IntKind.wrap .u8 (Int.tmod (IntKind.wrap .u64 (Int.tdiv (IntKind.wrap .u64 (Int.tdiv (IntKind.wrap .u64 (Int.tdiv n (256 : Int))) (256 : Int))) (256 : Int))) (256 : Int))] ++ (bH [IntKind.wrap .u8 (Int.tmod (IntKind.wrap .u64 (Int.tdiv (IntKind.wrap .u64 (Int.tdiv n (256 : Int))) (256 : Int))) (256 : Int))] ++ (bH [IntKind.wrap .u8 (Int.tmod (IntKind.wrap .u64 (Int.tdiv n (256 : Int))) (256 : Int))] ++ (bH [IntKind.wrap .u8 (Int.tmod n (256 : Int))] ++ ByteArray.mk #[]))))))) ≤ 9223372036854775807 from by first | omega | (simp only [vu] at *; omega)) <| eg (G.ok) <| ep (show (256 : Int) ≠ (0 : Int) from by decide) <| eg (G.ok) <| ef <| e0) (by simp only [dO, Am, vq] <;> rfl)
theorem GQ (n : Int) (k : Nat) : ag PP GL XX HH NN (k + 1) 125 [A.c (u (IntKind.wrap .u64 n)), A.c (ii 4)] [] = some ([Res.c (st (cZ n))], []) := by
  exact rt (eg (G.un) <| et <| ep (show (256 : Int) ≠ (0 : Int) from by decide) <| eg (G.ok) <| ep (rfl : some ([IntKind.wrap .u8 (Int.tmod (IntKind.wrap .u64 n) (256 : Int))]) = some ([IntKind.wrap .u8 (Int.tmod (IntKind.wrap .u64 n) (256 : Int))])) <| eg (G.str [IntKind.wrap .u8 (Int.tmod (IntKind.wrap .u64 n) 256)]) <| ep (show ByteArray.size (bH [IntKind.wrap .u8 (Int.tmod (IntKind.wrap .u64 n) (256 : Int))]) + ByteArray.size ⟨#[]⟩ ≤ 9223372036854775807 from by first | omega | (simp only [vu] at *; omega)) <| eg (G.ok) <| ep (show (256 : Int) ≠ (0 : Int) from by decide) <| eg (G.ok) <| et <| ep (show (256 : Int) ≠ (0 : Int) from by decide) <| eg (G.ok) <| ep (rfl : some ([IntKind.wrap .u8 (Int.tmod (IntKind.wrap .u64 (Int.tdiv (IntKind.wrap .u64 n) (256 : Int))) (256 : Int))]) = some ([IntKind.wrap .u8 (Int.tmod (IntKind.wrap .u64 (Int.tdiv (IntKind.wrap .u64 n) (256 : Int))) (256 : Int))])) <| eg (G.str [IntKind.wrap .u8 (Int.tmod (IntKind.wrap .u64 (Int.tdiv (IntKind.wrap .u64 n) 256)) 256)]) <| ep (show ByteArray.size (bH [IntKind.wrap .u8 (Int.tmod (IntKind.wrap .u64 (Int.tdiv (IntKind.wrap .u64 n) (256 : Int))) (256 : Int))]) + ByteArray.size (bH [IntKind.wrap .u8 (Int.tmod (IntKind.wrap .u64 n) (256 : Int))] ++ ByteArray.mk #[]) ≤ 9223372036854775807 from by first | omega | (simp only [vu] at *; omega)) <| eg (G.ok) <| ep (show (256 : Int) ≠ (0 : Int) from by decide) <| eg (G.ok) <| et <| ep (show (256 : Int) ≠ (0 : Int) from by decide) <| eg (G.ok) <| ep (rfl : some ([IntKind.wrap .u8 (Int.tmod (IntKind.wrap .u64 (Int.tdiv (IntKind.wrap .u64 (Int.tdiv (IntKind.wrap .u64 n) (256 : Int))) (256 : Int))) (256 : Int))]) = some ([IntKind.wrap .u8 (Int.tmod (IntKind.wrap .u64 (Int.tdiv (IntKind.wrap .u64 (Int.tdiv (IntKind.wrap .u64 n) (256 : Int))) (256 : Int))) (256 : Int))])) <| eg (G.str [IntKind.wrap .u8 (Int.tmod (IntKind.wrap .u64 (Int.tdiv (IntKind.wrap .u64 (Int.tdiv (IntKind.wrap .u64 n) 256)) 256)) 256)]) <| ep (show ByteArray.size (bH [IntKind.wrap .u8 (Int.tmod (IntKind.wrap .u64 (Int.tdiv (IntKind.wrap .u64 (Int.tdiv (IntKind.wrap .u64 n) (256 : Int))) (256 : Int))) (256 : Int))]) + ByteArray.size (bH [IntKind.wrap .u8 (Int.tmod (IntKind.wrap .u64 (Int.tdiv (IntKind.wrap .u64 n) (256 : Int))) (256 : Int))] ++ (bH [IntKind.wrap .u8 (Int.tmod (IntKind.wrap .u64 n) (256 : Int))] ++ ByteArray.mk #[])) ≤ 9223372036854775807 from by first | omega | (simp only [vu] at *; omega)) <| eg (G.ok) <| ep (show (256 : Int) ≠ (0 : Int) from by decide) <| eg (G.ok) <| et <| ep (show (256 : Int) ≠ (0 : Int) from by decide) <| eg (G.ok) <| ep (rfl : some ([IntKind.wrap .u8 (Int.tmod (IntKind.wrap .u64 (Int.tdiv (IntKind.wrap .u64 (Int.tdiv (IntKind.wrap .u64 (Int.tdiv (IntKind.wrap .u64 n) (256 : Int))) (256 : Int))) (256 : Int))) (256 : Int))]) = some ([IntKind.wrap .u8 (Int.tmod (IntKind.wrap .u64 (Int.tdiv (IntKind.wrap .u64 (Int.tdiv (IntKind.wrap .u64 (Int.tdiv (IntKind.wrap .u64 n) (256 : Int))) (256 : Int))) (256 : Int))) (256 : Int))])) <| eg (G.str [IntKind.wrap .u8 (Int.tmod (IntKind.wrap .u64 (Int.tdiv (IntKind.wrap .u64 (Int.tdiv (IntKind.wrap .u64 (Int.tdiv (IntKind.wrap .u64 n) 256)) 256)) 256)) 256)]) <| ep (show ByteArray.size (bH [IntKind.wrap .u8 (Int.tmod (IntKind.wrap .u64 (Int.tdiv (IntKind.wrap .u64 (Int.tdiv (IntKind.wrap .u64 (Int.tdiv (IntKind.wrap .u64 n) (256 : Int))) (256 : Int))) (256 : Int))) (256 : Int))]) + ByteArray.size (bH [IntKind.wrap .u8 (Int.tmod (IntKind.wrap .u64 (Int.tdiv (IntKind.wrap .u64 (Int.tdiv (IntKind.wrap .u64 n) (256 : Int))) (256 : Int))) (256 : Int))] ++ (bH [IntKind.wrap .u8 (Int.tmod (IntKind.wrap .u64 (Int.tdiv (IntKind.wrap .u64 n) (256 : Int))) (256 : Int))] ++ (bH [IntKind.wrap .u8 (Int.tmod (IntKind.wrap .u64 n) (256 : Int))] ++ ByteArray.mk #[]))) ≤ 9223372036854775807 from by first | omega | (simp only [vu] at *; omega)) <| eg (G.ok) <| ep (show (256 : Int) ≠ (0 : Int) from by decide) <| eg (G.ok) <| ef <| e0) (by simp only [cZ, Am, vq] <;> rfl)
theorem kK (n : Int) (k : Nat) : ag PP GL XX HH NN (k + 2) 148 [A.c (u n)] [] = some ([Res.c (st (dO n))], []) := by
  exact rt (ec (GH n k) <| e0) rfl
theorem re (n : Int) (k : Nat) : ag PP GL XX HH NN (k + 2) 92 [A.c (w4 n)] [] = some ([Res.c (st (cZ n))], []) := by
  exact rt (ec (GQ n k) <| e0) rfl
theorem GR (s : ByteArray) (hs : ((↑(s.size) : Int) == 8) = true) (x0 : UInt8) (x1 : UInt8) (x2 : UInt8) (x3 : UInt8) (x4 : UInt8) (x5 : UInt8) (x6 : UInt8) (x7 : UInt8) (h0 : s[0]? = some x0) (h1 : s[1]? = some x1) (h2 : s[2]? = some x2) (h3 : s[3]? = some x3) (h4 : s[4]? = some x4) (h5 : s[5]? = some x5) (h6 : s[6]? = some x6) (h7 : s[7]? = some x7) (k : Nat) : ag PP GL XX HH NN (k + 1) 143 [A.c (st s), A.c (ii 8)] [] = some ([Res.c (u (dY [x0, x1, x2, x3, x4, x5, x6, x7])), Res.c (bo true)], []) := by
  exact rt (en hs <| eg (G.un) <| et <| ep (rfl : (0 : Int) = (0 : Int)) <| ep h0 <| eg (G.byte 0 x0) <| et <| ep (rfl : (1 : Int) = (1 : Int)) <| ep h1 <| eg (G.byte 1 x1) <| et <| ep (rfl : (2 : Int) = (2 : Int)) <| ep h2 <| eg (G.byte 2 x2) <| et <| ep (rfl : (3 : Int) = (3 : Int)) <| ep h3 <| eg (G.byte 3 x3) <| et <| ep (rfl : (4 : Int) = (4 : Int)) <| ep h4 <| eg (G.byte 4 x4) <| et <| ep (rfl : (5 : Int) = (5 : Int)) <| ep h5 <| eg (G.byte 5 x5) <| et <| ep (rfl : (6 : Int) = (6 : Int)) <| ep h6 <| eg (G.byte 6 x6) <| et <| ep (rfl : (7 : Int) = (7 : Int)) <| ep h7 <| eg (G.byte 7 x7) <| ef <| e0) rfl
theorem Fe (s : ByteArray) (hs : ((↑(s.size) : Int) == 4) = true) (x0 : UInt8) (x1 : UInt8) (x2 : UInt8) (x3 : UInt8) (h0 : s[0]? = some x0) (h1 : s[1]? = some x1) (h2 : s[2]? = some x2) (h3 : s[3]? = some x3) (k : Nat) : ag PP GL XX HH NN (k + 1) 143 [A.c (st s), A.c (ii 4)] [] = some ([Res.c (u (dY [x0, x1, x2, x3])), Res.c (bo true)], []) := by
  exact rt (en hs <| eg (G.un) <| et <| ep (rfl : (0 : Int) = (0 : Int)) <| ep h0 <| eg (G.byte 0 x0) <| et <| ep (rfl : (1 : Int) = (1 : Int)) <| ep h1 <| eg (G.byte 1 x1) <| et <| ep (rfl : (2 : Int) = (2 : Int)) <| ep h2 <| eg (G.byte 2 x2) <| et <| ep (rfl : (3 : Int) = (3 : Int)) <| ep h3 <| eg (G.byte 3 x3) <| ef <| e0) rfl
theorem HI (s : ByteArray) (n : Int) (hs : ((↑(s.size) : Int) == n) = false) (k : Nat) : ag PP GL XX HH NN (k + 1) 143 [A.c (st s), A.c (ii n)] [] = some ([Res.c (u 0), Res.c (bo false)], []) := by
  exact rt (en hs <| e0) rfl
theorem HO (s : ByteArray) (hs : s.size = 8) (k : Nat) : ag PP GL XX HH NN (k + 1) 143 [.c (st s), .c (ii 8)] [] = some ([.c (u (dY s.data.toList)), .c (bo true)], []) := by
  obtain ⟨a, b, c, d, e, f, g, i, hl⟩ := Fu ((sm s).trans hs)
  have := GR s (by rw [hs]; rfl) a b c d e f g i (by rw [fE, hl]; rfl) (by rw [fE, hl]; rfl) (by rw [fE, hl]; rfl) (by rw [fE, hl]; rfl) (by rw [fE, hl]; rfl) (by rw [fE, hl]; rfl) (by rw [fE, hl]; rfl) (by rw [fE, hl]; rfl) k
  rw [hl]
  exact this
theorem Ha (s : ByteArray) (hs : s.size = 4) (k : Nat) : ag PP GL XX HH NN (k + 1) 143 [.c (st s), .c (ii 4)] [] = some ([.c (u (dY s.data.toList)), .c (bo true)], []) := by
  obtain ⟨a, b, c, d, hl⟩ := E9 ((sm s).trans hs)
  have := Fe s (by rw [hs]; rfl) a b c d (by rw [fE, hl]; rfl) (by rw [fE, hl]; rfl) (by rw [fE, hl]; rfl) (by rw [fE, hl]; rfl) k
  rw [hl]
  exact this
theorem hU (s : ByteArray) (hs : s.size = 8) (k : Nat) : ag PP GL XX HH NN (k + 2) 114 [A.c (st s)] [] = some ([Res.c (u (dY (Array.toList (ByteArray.data s)))), Res.c (bo true)], []) := by
  exact rt (ec (HO s hs k) <| e0) rfl
theorem ET (s : ByteArray) (hs : s.size = 4) (k : Nat) : ag PP GL XX HH NN (k + 2) 141 [A.c (st s)] [] = some ([Res.c (w4 (IntKind.wrap .u32 (dY (Array.toList (ByteArray.data s))))), Res.c (bo true)], []) := by
  exact rt (ec (Ha s hs k) <| e0) rfl
theorem CX (s : ByteArray) (hs : ((↑(s.size) : Int) == 4) = false) (k : Nat) : ag PP GL XX HH NN (k + 2) 141 [A.c (st s)] [] = some ([Res.c (w4 0), Res.c (bo false)], []) := by
  exact rt (ec (HI s 4 hs k) <| e0) rfl
theorem DL (a b c : Bool) (k : Nat) : ag PP GL XX HH NN (k + 1) 150 [.c (.slice 1 [[bo a], [bo b], [bo c]])] [] = some ([.c (by8 (fl a 1 + fl b 2 + fl c 4))], []) := by
  cases a <;> cases b <;> cases c <;> kernel_rfl
theorem C6 (a b c d : Bool) (k : Nat) : ag PP GL XX HH NN (k + 1) 150 [.c (.slice 1 [[bo a], [bo b], [bo c], [bo d]])] [] = some ([.c (by8 (fl a 1 + fl b 2 + fl c 4 + fl d 8))], []) := by
  cases a <;> cases b <;> cases c <;> cases d <;> kernel_rfl
theorem eT (n : Int) (hz : decide (IntKind.wrap .u8 (Int.tdiv (IntKind.wrap .u8 (Int.tdiv (IntKind.wrap .u8 (Int.tdiv n 2)) 2)) 2) > 0) = false) (k : Nat) : ag PP GL XX HH NN (k + 1) 144 [A.c (by8 n), A.c (ii 3)] [] = some ([Res.top 1 [[bo (Int.tmod n (2 : Int) == 1)], [bo (Int.tmod (IntKind.wrap .u8 (Int.tdiv n 2)) (2 : Int) == 1)], [bo (Int.tmod (IntKind.wrap .u8 (Int.tdiv (IntKind.wrap .u8 (Int.tdiv n 2)) 2)) (2 : Int) == 1)]], Res.c (bo true)], []) := by
  exact rt (ef4 <| eg (G.un) <| et <| ep (show (2 : Int) ≠ (0 : Int) from by decide) <| eg (G.ok) <| ep (bq ([[bo (Int.tmod n (2 : Int) == 1)]])) <| ep (show List.length [[bo (Int.tmod n (2 : Int) == 1)]] ≤ 1073741824 from by simp only [vr]; omega) <| ep ((rfl : (0 : Nat) = (0 : Nat))).symm <| eg (G.app [[bo (Int.tmod n (2 : Int) == 1)]]) <| ep (show (2 : Int) ≠ (0 : Int) from by decide) <| eg (G.ok) <| et <| ep (show (2 : Int) ≠ (0 : Int) from by decide) <| eg (G.ok) <| ep (rfl : [[bo (Int.tmod n (2 : Int) == 1)], [bo (Int.tmod (IntKind.wrap .u8 (Int.tdiv n (2 : Int))) (2 : Int) == 1)]] = [[bo (Int.tmod n (2 : Int) == 1)], [bo (Int.tmod (IntKind.wrap .u8 (Int.tdiv n (2 : Int))) (2 : Int) == 1)]]) <| ep (show List.length [[bo (Int.tmod n (2 : Int) == 1)], [bo (Int.tmod (IntKind.wrap .u8 (Int.tdiv n (2 : Int))) (2 : Int) == 1)]] ≤ 1073741824 from by simp only [vr]; omega) <| ep ((rfl : (1 : Nat) = (1 : Nat))).symm <| eg (G.app [[bo (Int.tmod n (2 : Int) == 1)], [bo (Int.tmod (IntKind.wrap .u8 (Int.tdiv n 2)) (2 : Int) == 1)]]) <| ep (show (2 : Int) ≠ (0 : Int) from by decide) <| eg (G.ok) <| et <| ep (show (2 : Int) ≠ (0 : Int) from by decide) <| eg (G.ok) <| ep (rfl : [[bo (Int.tmod n (2 : Int) == 1)], [bo (Int.tmod (IntKind.wrap .u8 (Int.tdiv n (2 : Int))) (2 : Int) == 1)], [bo (Int.tmod (IntKind.wrap .u8 (Int.tdiv (IntKind.wrap .u8 (Int.tdiv n (2 : Int))) (2 : Int))) (2 : Int) == 1)]] = [[bo (Int.tmod n (2 : Int) == 1)], [bo (Int.tmod (IntKind.wrap .u8 (Int.tdiv n (2 : Int))) (2 : Int) == 1)], [bo (Int.tmod (IntKind.wrap .u8 (Int.tdiv (IntKind.wrap .u8 (Int.tdiv n (2 : Int))) (2 : Int))) (2 : Int) == 1)]]) <| ep (show List.length [[bo (Int.tmod n (2 : Int) == 1)], [bo (Int.tmod (IntKind.wrap .u8 (Int.tdiv n (2 : Int))) (2 : Int) == 1)], [bo (Int.tmod (IntKind.wrap .u8 (Int.tdiv (IntKind.wrap .u8 (Int.tdiv n (2 : Int))) (2 : Int))) (2 : Int) == 1)]] ≤ 1073741824 from by simp only [vr]; omega) <| ep ((rfl : (2 : Nat) = (2 : Nat))).symm <| eg (G.app [[bo (Int.tmod n (2 : Int) == 1)], [bo (Int.tmod (IntKind.wrap .u8 (Int.tdiv n 2)) (2 : Int) == 1)], [bo (Int.tmod (IntKind.wrap .u8 (Int.tdiv (IntKind.wrap .u8 (Int.tdiv n 2)) 2)) (2 : Int) == 1)]]) <| ep (show (2 : Int) ≠ (0 : Int) from by decide) <| eg (G.ok) <| ef <| eb hz <| ep ((rfl : (3 : Nat) = (3 : Nat))).symm <| e0) rfl
theorem bT (n : Int) (hz : decide (IntKind.wrap .u8 (Int.tdiv (IntKind.wrap .u8 (Int.tdiv (IntKind.wrap .u8 (Int.tdiv (IntKind.wrap .u8 (Int.tdiv n 2)) 2)) 2)) 2) > 0) = false) (k : Nat) : ag PP GL XX HH NN (k + 1) 144 [A.c (by8 n), A.c (ii 4)] [] = some ([Res.top 1 [[bo (Int.tmod n (2 : Int) == 1)], [bo (Int.tmod (IntKind.wrap .u8 (Int.tdiv n 2)) (2 : Int) == 1)], [bo (Int.tmod (IntKind.wrap .u8 (Int.tdiv (IntKind.wrap .u8 (Int.tdiv n 2)) 2)) (2 : Int) == 1)], [bo (Int.tmod (IntKind.wrap .u8 (Int.tdiv (IntKind.wrap .u8 (Int.tdiv (IntKind.wrap .u8 (Int.tdiv n 2)) 2)) 2)) (2 : Int) == 1)]], Res.c (bo true)], []) := by
  exact rt (ef4 <| eg (G.un) <| et <| ep (show (2 : Int) ≠ (0 : Int) from by decide) <| eg (G.ok) <| ep (bq ([[bo (Int.tmod n (2 : Int) == 1)]])) <| ep (show List.length [[bo (Int.tmod n (2 : Int) == 1)]] ≤ 1073741824 from by simp only [vr]; omega) <| ep ((rfl : (0 : Nat) = (0 : Nat))).symm <| eg (G.app [[bo (Int.tmod n (2 : Int) == 1)]]) <| ep (show (2 : Int) ≠ (0 : Int) from by decide) <| eg (G.ok) <| et <| ep (show (2 : Int) ≠ (0 : Int) from by decide) <| eg (G.ok) <| ep (rfl : [[bo (Int.tmod n (2 : Int) == 1)], [bo (Int.tmod (IntKind.wrap .u8 (Int.tdiv n (2 : Int))) (2 : Int) == 1)]] = [[bo (Int.tmod n (2 : Int) == 1)], [bo (Int.tmod (IntKind.wrap .u8 (Int.tdiv n (2 : Int))) (2 : Int) == 1)]]) <| ep (show List.length [[bo (Int.tmod n (2 : Int) == 1)], [bo (Int.tmod (IntKind.wrap .u8 (Int.tdiv n (2 : Int))) (2 : Int) == 1)]] ≤ 1073741824 from by simp only [vr]; omega) <| ep ((rfl : (1 : Nat) = (1 : Nat))).symm <| eg (G.app [[bo (Int.tmod n (2 : Int) == 1)], [bo (Int.tmod (IntKind.wrap .u8 (Int.tdiv n 2)) (2 : Int) == 1)]]) <| ep (show (2 : Int) ≠ (0 : Int) from by decide) <| eg (G.ok) <| et <| ep (show (2 : Int) ≠ (0 : Int) from by decide) <| eg (G.ok) <| ep (rfl : [[bo (Int.tmod n (2 : Int) == 1)], [bo (Int.tmod (IntKind.wrap .u8 (Int.tdiv n (2 : Int))) (2 : Int) == 1)], [bo (Int.tmod (IntKind.wrap .u8 (Int.tdiv (IntKind.wrap .u8 (Int.tdiv n (2 : Int))) (2 : Int))) (2 : Int) == 1)]] = [[bo (Int.tmod n (2 : Int) == 1)], [bo (Int.tmod (IntKind.wrap .u8 (Int.tdiv n (2 : Int))) (2 : Int) == 1)], [bo (Int.tmod (IntKind.wrap .u8 (Int.tdiv (IntKind.wrap .u8 (Int.tdiv n (2 : Int))) (2 : Int))) (2 : Int) == 1)]]) <| ep (show List.length [[bo (Int.tmod n (2 : Int) == 1)], [bo (Int.tmod (IntKind.wrap .u8 (Int.tdiv n (2 : Int))) (2 : Int) == 1)], [bo (Int.tmod (IntKind.wrap .u8 (Int.tdiv (IntKind.wrap .u8 (Int.tdiv n (2 : Int))) (2 : Int))) (2 : Int) == 1)]] ≤ 1073741824 from by simp only [vr]; omega) <| ep ((rfl : (2 : Nat) = (2 : Nat))).symm <| eg (G.app [[bo (Int.tmod n (2 : Int) == 1)], [bo (Int.tmod (IntKind.wrap .u8 (Int.tdiv n 2)) (2 : Int) == 1)], [bo (Int.tmod (IntKind.wrap .u8 (Int.tdiv (IntKind.wrap .u8 (Int.tdiv n 2)) 2)) (2 : Int) == 1)]]) <| ep (show (2 : Int) ≠ (0 : Int) from by decide) <| eg (G.ok) <| et <| ep (show (2 : Int) ≠ (0 : Int) from by decide) <| eg (G.ok) <| ep (rfl : [[bo (Int.tmod n (2 : Int) == 1)], [bo (Int.tmod (IntKind.wrap .u8 (Int.tdiv n (2 : Int))) (2 : Int) == 1)], [bo (Int.tmod (IntKind.wrap .u8 (Int.tdiv (IntKind.wrap .u8 (Int.tdiv n (2 : Int))) (2 : Int))) (2 : Int) == 1)], [bo (Int.tmod (IntKind.wrap .u8 (Int.tdiv (IntKind.wrap .u8 (Int.tdiv (IntKind.wrap .u8 (Int.tdiv n (2 : Int))) (2 : Int))) (2 : Int))) (2 : Int) == 1)]] = [[bo (Int.tmod n (2 : Int) == 1)], [bo (Int.tmod (IntKind.wrap .u8 (Int.tdiv n (2 : Int))) (2 : Int) == 1)], [bo (Int.tmod (IntKind.wrap .u8 (Int.tdiv (IntKind.wrap .u8 (Int.tdiv n (2 : Int))) (2 : Int))) (2 : Int) == 1)], [bo (Int.tmod (IntKind.wrap .u8 (Int.tdiv (IntKind.wrap .u8 (Int.tdiv (IntKind.wrap .u8 (Int.tdiv n (2 : Int))) (2 : Int))) (2 : Int))) (2 : Int) == 1)]]) <| ep (show List.length [[bo (Int.tmod n (2 : Int) == 1)], [bo (Int.tmod (IntKind.wrap .u8 (Int.tdiv n (2 : Int))) (2 : Int) == 1)], [bo (Int.tmod (IntKind.wrap .u8 (Int.tdiv (IntKind.wrap .u8 (Int.tdiv n (2 : Int))) (2 : Int))) (2 : Int) == 1)], [bo (Int.tmod (IntKind.wrap .u8 (Int.tdiv (IntKind.wrap .u8 (Int.tdiv (IntKind.wrap .u8 (Int.tdiv n (2 : Int))) (2 : Int))) (2 : Int))) (2 : Int) == 1)]] ≤ 1073741824 from by simp only [vr]; omega) <| ep ((rfl : (3 : Nat) = (3 : Nat))).symm <| eg (G.app [[bo (Int.tmod n (2 : Int) == 1)], [bo (Int.tmod (IntKind.wrap .u8 (Int.tdiv n 2)) (2 : Int) == 1)], [bo (Int.tmod (IntKind.wrap .u8 (Int.tdiv (IntKind.wrap .u8 (Int.tdiv n 2)) 2)) (2 : Int) == 1)], [bo (Int.tmod (IntKind.wrap .u8 (Int.tdiv (IntKind.wrap .u8 (Int.tdiv (IntKind.wrap .u8 (Int.tdiv n 2)) 2)) 2)) (2 : Int) == 1)]]) <| ep (show (2 : Int) ≠ (0 : Int) from by decide) <| eg (G.ok) <| ef <| eb hz <| ep ((rfl : (4 : Nat) = (4 : Nat))).symm <| e0) rfl
theorem yl (m : Nat) (h : m ≤ 7) (k : Nat) : ag PP GL XX HH NN (k + 1) 144 [.c (by8 (m : Int)), .c (ii 3)] [] = some ([.top 1 [[bo (m / 2 ^ 0 % 2 == 1)], [bo (m / 2 ^ 1 % 2 == 1)], [bo (m / 2 ^ 2 % 2 == 1)]], .c (bo true)], []) := by
  match m, h with
  | 0, _ => exact (eT 0 (by decide) k).trans (by kernel_rfl)
  | 1, _ => exact (eT 1 (by decide) k).trans (by kernel_rfl)
  | 2, _ => exact (eT 2 (by decide) k).trans (by kernel_rfl)
  | 3, _ => exact (eT 3 (by decide) k).trans (by kernel_rfl)
  | 4, _ => exact (eT 4 (by decide) k).trans (by kernel_rfl)
  | 5, _ => exact (eT 5 (by decide) k).trans (by kernel_rfl)
  | 6, _ => exact (eT 6 (by decide) k).trans (by kernel_rfl)
  | 7, _ => exact (eT 7 (by decide) k).trans (by kernel_rfl)
theorem yP (m : Nat) (h : m ≤ 15) (k : Nat) : ag PP GL XX HH NN (k + 1) 144 [.c (by8 (m : Int)), .c (ii 4)] [] = some ([.top 1 [[bo (m / 2 ^ 0 % 2 == 1)], [bo (m / 2 ^ 1 % 2 == 1)], [bo (m / 2 ^ 2 % 2 == 1)], [bo (m / 2 ^ 3 % 2 == 1)]], .c (bo true)], []) := by
  match m, h with
  | 0, _ => exact (bT 0 (by decide) k).trans (by kernel_rfl)
  | 1, _ => exact (bT 1 (by decide) k).trans (by kernel_rfl)
  | 2, _ => exact (bT 2 (by decide) k).trans (by kernel_rfl)
  | 3, _ => exact (bT 3 (by decide) k).trans (by kernel_rfl)
  | 4, _ => exact (bT 4 (by decide) k).trans (by kernel_rfl)
  | 5, _ => exact (bT 5 (by decide) k).trans (by kernel_rfl)
  | 6, _ => exact (bT 6 (by decide) k).trans (by kernel_rfl)
  | 7, _ => exact (bT 7 (by decide) k).trans (by kernel_rfl)
  | 8, _ => exact (bT 8 (by decide) k).trans (by kernel_rfl)
  | 9, _ => exact (bT 9 (by decide) k).trans (by kernel_rfl)
  | 10, _ => exact (bT 10 (by decide) k).trans (by kernel_rfl)
  | 11, _ => exact (bT 11 (by decide) k).trans (by kernel_rfl)
  | 12, _ => exact (bT 12 (by decide) k).trans (by kernel_rfl)
  | 13, _ => exact (bT 13 (by decide) k).trans (by kernel_rfl)
  | 14, _ => exact (bT 14 (by decide) k).trans (by kernel_rfl)
  | 15, _ => exact (bT 15 (by decide) k).trans (by kernel_rfl)
theorem qF (x : UInt8) (h : x.toNat ≤ 7) (k : Nat) : ag PP GL XX HH NN (k + 1) 144 [.c (by8 (x.toNat : Int)), .c (ii 3)] [] = some ([.top 1 [[bo (aI x 0)], [bo (aI x 1)], [bo (aI x 2)]], .c (bo true)], []) := yl x.toNat h k
theorem vj (x : UInt8) (h : x.toNat ≤ 15) (k : Nat) : ag PP GL XX HH NN (k + 1) 144 [.c (by8 (x.toNat : Int)), .c (ii 4)] [] = some ([.top 1 [[bo (aI x 0)], [bo (aI x 1)], [bo (aI x 2)], [bo (aI x 3)]], .c (bo true)], []) := yP x.toNat h k
end Go.Dm
namespace Go.Dm
open Go
set_option maxHeartbeats 1000000
def Do (s : ByteArray) (c0 : Int) (c1 : Int) : St := St.mk (tc (st s) :: T.hole :: T.hole :: tc (u c0) :: tc (ii c1) :: hs 16 []) [] []
theorem D5 (s : ByteArray) (n : Int) (i : Nat) (b : UInt8) (hb : s[i]? = some b) (k : Nat) (z0 : (decide ((↑i : Int) < (↑(s.size) : Int))) = true) : ax (EE (k + 1)) (HH 124) NN (LB PP 124 3) 0 0 (Do s n (↑i : Int)) (Do s (Int.tmod (IntKind.wrap .u64 (G0 IntKind.u64 n (IntKind.wrap .u64 (↑(UInt8.toNat b) : Int)) * 16777619)) 4294967296) (IntKind.wrap .i64 ((↑i : Int) + 1))) :=
  nx (eb z0 <| ep (rz i) <| ep hb <| eg (G.byte i b) <| ep (show (4294967296 : Int) ≠ (0 : Int) from by decide) <| eg (G.ok) <| e0)
def n6 (s : ByteArray) (n : Int) (i : Nat) : St := St.mk (tc (st s) :: T.hole :: T.hole :: tc (u n) :: tc (ii (↑i : Int)) :: tc (ii (↑i : Int)) :: tc (st s) :: tc (ii (↑(s.size) : Int)) :: tc (bo (decide ((↑i : Int) < (↑(s.size) : Int)))) :: hs 12 []) [] []
theorem D8 (s : ByteArray) (n : Int) (i : Nat) (k : Nat) (z0 : (decide ((↑i : Int) < (↑(s.size) : Int))) = false) : bj (EE (k + 1)) (HH 124) NN (LB PP 124 3) (Do s n (↑i : Int)) (Ext.exit 0) (n6 s n i) :=
  ou (eb z0 <| e0)
theorem blt {s : ByteArray} {i : Nat} {b : UInt8} (h : s.data.toList[i]? = some b) : decide ((i : Int) < (s.size : Int)) = true := by
  have := bO h
  rw [sm] at this
  exact decide_eq_true (by omega)
theorem Hr (s : ByteArray) (hs : s.size ≤ 1000000) (k : Nat) : aA (EE (k + 1)) (HH 124) NN (LB PP 124 3) (Do s 2166136261 0) (.exit 0) (n6 s (s.data.toList.foldl oF 2166136261) s.data.toList.length) := by
  have hl := sm s
  refine (CI (E := fun k => EE (k + 1)) (fun n i => Do s n (i : Nat)) (fun _ _ => True) s.data.toList oF 2166136261 (fun n => n6 s n s.data.toList.length) (nv := 0) (nt := 0) (by kernel_rfl) (by kernel_rfl) trivial (fun _ _ _ _ _ => trivial) (fun k n i b hb _ => ?_) (fun k _ => ?_) (by unfold NN; omega)).2 k
  · have := D5 s n i b (by rw [fE]; exact hb) k (blt hb)
    rwa [mq hb (by omega)] at this
  · exact D8 s _ _ k (by rw [hl]; exact dge)
theorem HZ (s : ByteArray) (hs : s.size ≤ 1000000) (k : Nat) : ag PP GL XX HH NN (k + 2) 124 [A.c (st s)] [] = some ([Res.c (w4 (Ed s))], []) := by
  exact rt (eg (G.loop (Ext.exit 0) (n6 s (List.foldl oF 2166136261 (Array.toList (ByteArray.data s))) (List.length (Array.toList (ByteArray.data s))))) <| ep (Hr s hs k) <| e0) (by simp only [Ed, vq] <;> rfl)
theorem oQ (s : ByteArray) (hs : s.size ≤ 1000000) (k : Nat) : ag PP GL XX HH NN (k + 4) 91 [A.c (st s)] [] = some ([Res.c (st (bg s))], []) := by
  exact rt (ec (HZ s hs (k + 1)) <| ec (re (Ed s) (k + 1)) <| ep (show s.size + ByteArray.size (cZ (Ed s)) ≤ 9223372036854775807 from by first | omega | (simp only [vu] at *; omega)) <| eg (G.ok) <| e0) (by simp only [bg, vq] <;> rfl)
theorem Eu (s : ByteArray) (h4 : decide ((↑(s.size) : Int) < 4) = true) (k : Nat) : ag PP GL XX HH NN (k + 5) 113 [A.c (st s)] [] = some ([Res.c (st (aa s).1), Res.c (ii (aa s).2)], []) := by
  exact rt (eb h4 <| e0) (by simp only [aa, h4, vq] <;> rfl)
theorem DT (s : ByteArray) (h4 : decide ((↑(s.size) : Int) < 4) = false) (hs : s.size ≤ 1000000) (hw : IntKind.wrap .i64 ((↑(s.size) : Int) - 4) = (↑(s.size - 4) : Int)) (hm : s.size - 4 ≤ s.size) (ht : ByteArray.size (ByteArray.extract s 0 (s.size - 4)) ≤ 1000000) (k : Nat) : ag PP GL XX HH NN (k + 5) 113 [A.c (st s)] [] = some ([Res.c (st (aa s).1), Res.c (ii (aa s).2)], []) := by
  rcases bft (bg (ByteArray.extract s 0 (s.size - 4)) == s) with z0 | z0
  · exact rt (eb h4 <| ep hw <| ep (rfl : (0 : Nat) = 0) <| ep (show (0 : Nat) ≤ s.size - (4 : Nat) from by omega) <| ep hm <| eg (G.cut 0 (s.size - 4) []) <| ec (oQ (ByteArray.extract s 0 (s.size - 4)) ht k) <| en z0 <| e0) (by simp only [aa, h4, z0, vq] <;> rfl)
  · exact rt (eb h4 <| ep hw <| ep (rfl : (0 : Nat) = 0) <| ep (show (0 : Nat) ≤ s.size - (4 : Nat) from by omega) <| ep hm <| eg (G.cut 0 (s.size - 4) []) <| ec (oQ (ByteArray.extract s 0 (s.size - 4)) ht k) <| en z0 <| e0) (by simp only [aa, h4, z0, vq] <;> rfl)
theorem dU (s : ByteArray) (hs : s.size ≤ 1000000) (k : Nat) : ag PP GL XX HH NN (k + 5) 113 [.c (st s)] [] = some ([.c (st (aa s).1), .c (ii (aa s).2)], []) := by
  cases h4 : decide ((s.size : Int) < 4) with
  | true => exact Eu s h4 k
  | false =>
    have h := of_decide_eq_false h4
    exact DT s h4 hs (by rw [cI (by omega) (by omega)]; omega) (by omega) (by rw [ByteArray.size_extract]; omega) k
end Go.Dm
namespace Go.Dm
open Go
set_option maxHeartbeats 1000000
def CF (n : Int) (c0 : Int) (c1 : Int) : St := St.mk (tc (ii n) :: T.hole :: T.hole :: tc (w4 c0) :: tc (ii c1) :: hs 8 []) [] []
theorem CM (n : Nat) (i : Nat) (p : Int) (k : Nat) (z0 : (decide ((↑i : Int) < (↑n : Int))) = true) : ax (EE (k + 1)) (HH 156) NN (LB PP 156 3) 0 0 (CF (↑n : Int) p (↑i : Int)) (CF (↑n : Int) (IntKind.wrap .u32 (2 * p)) (IntKind.wrap .i64 ((↑i : Int) + 1))) :=
  nx (eb z0 <| e0)
def qP (n : Nat) (i : Nat) (p : Int) : St := St.mk (tc (ii (↑n : Int)) :: T.hole :: T.hole :: tc (w4 p) :: tc (ii (↑i : Int)) :: tc (ii (↑i : Int)) :: tc (ii (↑n : Int)) :: tc (bo (decide ((↑i : Int) < (↑n : Int)))) :: hs 5 []) [] []
theorem DW (n : Nat) (i : Nat) (p : Int) (k : Nat) (z0 : (decide ((↑i : Int) < (↑n : Int))) = false) : bj (EE (k + 1)) (HH 156) NN (LB PP 156 3) (CF (↑n : Int) p (↑i : Int)) (Ext.exit 0) (qP n i p) :=
  ou (eb z0 <| e0)
theorem HW (n : Nat) (hn : n ≤ 31) (k : Nat) : aA (EE (k + 1)) (HH 156) NN (LB PP 156 3) (CF n 1 0) (.exit 0) (qP n n (2 ^ n)) := by
  refine iy (nv := 0) (nt := 0) (fun i => CF n (2 ^ i) (i : Nat)) n rfl (by kernel_rfl) (by kernel_rfl) (fun i hi => ?_) ?_ (by unfold NN; omega)
  · have := CM n i (2 ^ i) k (by simp; exact hi)
    have h2 := jE (i := i + 1) (by omega)
    have e : (2 : Int) ^ (i + 1) = 2 * 2 ^ i := by rw [Int.pow_succ, Int.mul_comm]
    rw [w64 hi (by omega)] at this
    have ew : IntKind.wrap .u32 (2 * 2 ^ i) = 2 ^ (i + 1) := by
      rw [← e]
      unfold IntKind.wrap
      simp [IntKind.signed, IntKind.bits]
      omega
    rw [ew] at this
    exact this
  · exact DW n n (2 ^ n) k (by simp)
theorem pow (n : Nat) (hn : n ≤ 31) (k : Nat) : ag PP GL XX HH NN (k + 2) 156 [A.c (ii (↑n : Int))] [] = some ([Res.c (w4 ((2 : Int) ^ n))], []) := by
  exact rt (eg (G.loop (Ext.exit 0) (qP n n ((2 : Int) ^ n))) <| ep (HW n hn k) <| e0) rfl
theorem F1 (m : Int) (i : Nat) (hi : i ≤ 31) (hz : (2 : Int) ^ i ≠ 0) (h1 : decide ((↑i : Int) ≥ 0) = true) (h2 : decide ((↑i : Int) < 32) = true) (k : Nat) : ag PP GL XX HH NN (k + 3) 155 [A.c (w4 m), A.c (ii (↑i : Int))] [] = some ([Res.c (bo (inM m i))], []) := by
  exact rt (et3 <| eb3 h2 <| ec (pow i hi k) <| eb h2 <| ep hz <| eg (G.ok) <| eb h2 <| ep (show (2 : Int) ≠ (0 : Int) from by decide) <| eg (G.ok) <| eb2 h2 <| e0) (by simp only [inM, vq] <;> rfl)
theorem E6 (m : Int) (i : Int) (h1 : decide (i ≥ 0) = false) (k : Nat) : ag PP GL XX HH NN (k + 3) 155 [A.c (w4 m), A.c (ii i)] [] = some ([Res.c (bo false)], []) := by
  exact rt (eb3 h1 <| ef7 <| e0) rfl
theorem Fl (m : Int) (i : Int) (h1 : decide (i ≥ 0) = true) (h2 : decide (i < 32) = false) (k : Nat) : ag PP GL XX HH NN (k + 3) 155 [A.c (w4 m), A.c (ii i)] [] = some ([Res.c (bo false)], []) := by
  exact rt (eb3 h1 <| eb7 h2 <| e0) rfl
theorem xN (x : BitVec 32) (i : Int) (k : Nat) : ag PP GL XX HH NN (k + 3) 155 [.c (w4 (mi x)), .c (ii i)] [] = some ([.c (bo (ju x i))], []) := by
  unfold ju inB
  by_cases h1 : 0 ≤ i
  · by_cases h2 : i < 32
    · have h := jE (i := i.toNat) (by omega)
      have := F1 (mi x) i.toNat (by omega) (by omega) (decide_eq_true (by omega)) (decide_eq_true (by omega)) k
      rw [Int.toNat_of_nonneg h1] at this
      rw [decide_eq_true h1, decide_eq_true h2]
      rw [D3] at this
      exact this
    · rw [decide_eq_false h2, Bool.and_false, Bool.false_and]
      exact Fl (mi x) i (decide_eq_true h1) (decide_eq_false h2) k
  · rw [decide_eq_false h1, Bool.false_and, Bool.false_and]
    exact E6 (mi x) i (decide_eq_false h1) k
theorem G1 (x : Int) (h : inB x = true) (k : Nat) : ag PP GL XX HH NN (k + 2) 156 [.c (ii x)] [] = some ([.c (w4 (mi (nq x)))], []) := by
  unfold nq
  rw [h]
  unfold inB at h
  simp only [Bool.and_eq_true, decide_eq_true_eq] at h
  have := pow x.toNat (by omega) k
  rw [Int.toNat_of_nonneg h.1, zu (by omega)] at this
  exact this
def S19 (x : BitVec 32) (c0 : List (List C)) (c1 : Int) : St := St.mk (tc (w4 (mi x)) :: T.hole :: T.hole :: T.k (K.v (V.own 1 c0 (Tk.tok 0))) :: tc (ii c1) :: hs 12 []) [] [c0.length]
theorem FL (x : BitVec 32) (c : List (List C)) (i : Nat) (hc : c.length ≤ 32) (k : Nat) (z0 : (decide ((↑i : Int) < 32)) = true) (z1 : (ju x (↑i : Int)) = true) : ax (EE (k + 3)) (HH 162) NN (LB PP 162 3) 0 1 (S19 x c (↑i : Int)) (S19 x (c ++ [[ii (↑i : Int)]]) (IntKind.wrap .i64 ((↑i : Int) + 1))) :=
  nx (eb z0 <| ec (xN x ((↑i : Int)) k) <| eb z1 <| ep (rfl : c ++ [[ii (↑i : Int)]] = c ++ [[ii (↑i : Int)]]) <| ep (show List.length (c ++ [[ii (↑i : Int)]]) ≤ 1073741824 from by simp only [vr]; omega) <| ep ((rfl : c.length = c.length)).symm <| eg (G.app (c ++ [[ii (↑i : Int)]])) <| e0)
theorem GG (x : BitVec 32) (c : List (List C)) (i : Nat) (k : Nat) (z0 : (decide ((↑i : Int) < 32)) = true) (z1 : (ju x (↑i : Int)) = false) : ax (EE (k + 3)) (HH 162) NN (LB PP 162 3) 0 1 (S19 x c (↑i : Int)) (S19 x c (IntKind.wrap .i64 ((↑i : Int) + 1))) :=
  nx (eb z0 <| ec (xN x ((↑i : Int)) k) <| eb z1 <| e0)
def vd (x : BitVec 32) (c : List (List C)) (i : Nat) : St := St.mk (tc (w4 (mi x)) :: T.hole :: T.hole :: T.k (K.v (V.own 1 c (Tk.tok 0))) :: tc (ii (↑i : Int)) :: tc (ii (↑i : Int)) :: tc (bo (decide ((↑i : Int) < 32))) :: hs 10 []) [] [c.length]
theorem EX (x : BitVec 32) (c : List (List C)) (i : Nat) (k : Nat) (z0 : (decide ((↑i : Int) < 32)) = false) : bj (EE (k + 3)) (HH 162) NN (LB PP 162 3) (S19 x c (↑i : Int)) (Ext.exit 0) (vd x c i) :=
  ou (eb z0 <| e0)
theorem iG (x : BitVec 32) {i : Nat} (h : i < 32) : ju x (i : Int) = x.getLsbD i := by
  unfold ju inB
  rw [decide_eq_true (by omega : (0 : Int) ≤ i), decide_eq_true (by omega : (i : Int) < 32)]
  simp
theorem L19 (x : BitVec 32) (k : Nat) : aA (EE (k + 3)) (HH 162) NN (LB PP 162 3) (S19 x [] 0) (.exit 0) (vd x (is (jT x)) 32) := by
  rw [← DK]
  refine iy (nv := 0) (nt := 1) (fun i => S19 x (is (lsI x i)) (i : Nat)) 32 rfl (by kernel_rfl) (by kernel_rfl) (fun i hi => ?_) ?_ (by unfold NN; omega)
  · have hlen : (is (lsI x i)).length ≤ 32 := by rw [DZ]; exact Nat.le_trans (vN x i) (by omega)
    have hd : decide ((i : Int) < 32) = true := by simp; omega
    have e1 := w64 hi (by omega)
    have hbit := iG x hi
    show ax _ _ _ _ _ _ (S19 x (is (lsI x i)) (i : Nat)) (S19 x (is (lsI x (i + 1))) ((i + 1 : Nat) : Int))
    rw [yz]
    cases hb : x.getLsbD i with
    | true =>
      rw [hb] at hbit
      have := FL x (is (lsI x i)) i hlen k hd hbit
      rw [e1] at this
      simpa [is] using this
    | false =>
      rw [hb] at hbit
      have := GG x (is (lsI x i)) i k hd hbit
      rw [e1] at this
      exact this
  · exact EX x (is (lsI x 32)) 32 k (by decide)
theorem GN (x : BitVec 32) (k : Nat) : ag PP GL XX HH NN (k + 4) 162 [A.c (w4 (mi x))] [] = some ([Res.top 1 (is (jT x))], []) := by
  exact rt (eg (G.loop (Ext.exit 0) (vd x (is (jT x)) 32)) <| ep (L19 x k) <| ep (show List.length (is (jT x)) = List.length (List.map eI (jT x)) from by first | rfl | simp | (simp; omega)) <| e0) rfl
theorem Az {x : Int} (h1 : decide (x ≥ 0) = true) (h2 : decide (x < 32) = true) : inB x = true := by
  simp only [decide_eq_true_eq] at h1 h2
  unfold inB
  rw [decide_eq_true (by omega : (0 : Int) ≤ x), decide_eq_true h2]
  rfl
theorem At {x : Int} (h : decide (x ≥ 0) = false ∨ decide (x < 32) = false) : inB x = false := by
  unfold inB
  rcases h with h | h
  · rw [show decide (0 ≤ x) = false from h, Bool.false_and]
  · rw [h, Bool.and_false]
theorem E3 (x : Int) (h1 : decide (x ≥ 0) = true) (h2 : decide (x < 32) = true) (k : Nat) : ag PP GL XX HH NN (k + 2) 156 [.c (ii x)] [] = some ([.c (w4 (mi (nq x)))], []) := G1 x (Az h1 h2) k
theorem Hb (m : BitVec 32) (x : Int) (h : ju m x = true) (k : Nat) : ag PP GL XX HH NN (k + 2) 156 [.c (ii x)] [] = some ([.c (w4 (mi (nq x)))], []) := G1 x (by unfold ju at h; simp only [Bool.and_eq_true] at h; exact h.1) k
def S21 (l : List Int) (c0 : Int) (c1 : Int) : St := St.mk (tc (w4 c0) :: tc (C.slice 1 (List.map eI l)) :: T.hole :: T.hole :: T.hole :: tc (ii c1) :: hs 35 []) [] []
theorem Gd (l : List Int) (m : BitVec 32) (i : Nat) (x : Int) (hx : l[i]? = some x) (k : Nat) (z0 : (decide ((↑i : Int) < (↑(l.length) : Int))) = true) (z1 : (decide (x ≥ 0)) = true) (z2 : (decide (x < 32)) = true) (z3 : (ju m x) = true) : ax (EE (k + 3)) (HH 131) NN (LB PP 131 2) 0 0 (S21 l (mi m) (↑i : Int)) (S21 l (mi m) (IntKind.wrap .i64 ((↑i : Int) + 1))) :=
  nx (ep (af (eI) (l)) <| eg (G.len (l.length)) <| eb z0 <| ep (rz i) <| ep (ao (f := eI) hx) <| eg (G.idx i [ii x]) <| eb3 z1 <| ep (rz i) <| ep (ao (f := eI) hx) <| eg (G.idx i [ii x]) <| eb3 z1 <| eb4 z2 <| ep (rz i) <| ep (ao (f := eI) hx) <| eg (G.idx i [ii x]) <| eb2 z2 <| ec (xN m x k) <| eb2 z2 <| en z3 <| e0)
theorem Fd (l : List Int) (m : BitVec 32) (i : Nat) (x : Int) (hx : l[i]? = some x) (k : Nat) (z0 : (decide ((↑i : Int) < (↑(l.length) : Int))) = true) (z1 : (decide (x ≥ 0)) = true) (z2 : (decide (x < 32)) = true) (z3 : (ju m x) = false) : ax (EE (k + 3)) (HH 131) NN (LB PP 131 2) 0 0 (S21 l (mi m) (↑i : Int)) (S21 l (IntKind.wrap .u32 (mi m + mi (nq x))) (IntKind.wrap .i64 ((↑i : Int) + 1))) :=
  nx (ep (af (eI) (l)) <| eg (G.len (l.length)) <| eb z0 <| ep (rz i) <| ep (ao (f := eI) hx) <| eg (G.idx i [ii x]) <| eb3 z1 <| ep (rz i) <| ep (ao (f := eI) hx) <| eg (G.idx i [ii x]) <| eb3 z1 <| eb4 z2 <| ep (rz i) <| ep (ao (f := eI) hx) <| eg (G.idx i [ii x]) <| eb2 z2 <| ec (xN m x k) <| eb2 z2 <| en z3 <| ep (rz i) <| ep (ao (f := eI) hx) <| eg (G.idx i [ii x]) <| ec (E3 x z1 z2 (k + 1)) <| e0)
theorem Gf (l : List Int) (m : BitVec 32) (i : Nat) (x : Int) (hx : l[i]? = some x) (k : Nat) (z0 : (decide ((↑i : Int) < (↑(l.length) : Int))) = true) (z1 : (decide (x ≥ 0)) = true) (z2 : (decide (x < 32)) = false) : ax (EE (k + 3)) (HH 131) NN (LB PP 131 2) 0 0 (S21 l (mi m) (↑i : Int)) (S21 l (mi m) (IntKind.wrap .i64 ((↑i : Int) + 1))) :=
  nx (ep (af (eI) (l)) <| eg (G.len (l.length)) <| eb z0 <| ep (rz i) <| ep (ao (f := eI) hx) <| eg (G.idx i [ii x]) <| eb3 z1 <| ep (rz i) <| ep (ao (f := eI) hx) <| eg (G.idx i [ii x]) <| eb3 z1 <| eb8 z2 <| ef <| e0)
theorem E5 (l : List Int) (m : BitVec 32) (i : Nat) (x : Int) (hx : l[i]? = some x) (k : Nat) (z0 : (decide ((↑i : Int) < (↑(l.length) : Int))) = true) (z1 : (decide (x ≥ 0)) = false) : ax (EE (k + 3)) (HH 131) NN (LB PP 131 2) 0 0 (S21 l (mi m) (↑i : Int)) (S21 l (mi m) (IntKind.wrap .i64 ((↑i : Int) + 1))) :=
  nx (ep (af (eI) (l)) <| eg (G.len (l.length)) <| eb z0 <| ep (rz i) <| ep (ao (f := eI) hx) <| eg (G.idx i [ii x]) <| eb6 z1 <| ef9 <| e0)
def r6 (l : List Int) (m : BitVec 32) (i : Nat) : St := St.mk (tc (w4 (mi m)) :: tc (C.slice 1 (List.map eI l)) :: T.hole :: T.hole :: T.hole :: tc (ii (↑i : Int)) :: tc (ii (↑i : Int)) :: tc (C.slice 1 (List.map eI l)) :: tc (ii (↑(l.length) : Int)) :: tc (bo (decide ((↑i : Int) < (↑(l.length) : Int)))) :: hs 31 []) [] []
theorem E2 (l : List Int) (m : BitVec 32) (i : Nat) (k : Nat) (z0 : (decide ((↑i : Int) < (↑(l.length) : Int))) = false) : bj (EE (k + 3)) (HH 131) NN (LB PP 131 2) (S21 l (mi m) (↑i : Int)) (Ext.exit 0) (r6 l m i) :=
  ou (ep (af (eI) (l)) <| eg (G.len (l.length)) <| eb z0 <| e0)
def S23 (l : List Int) (c0 : Int) (c1 : Int) : St := St.mk (tc (w4 c0) :: tc (C.slice 1 (List.map eI l)) :: T.hole :: T.hole :: T.hole :: tc (ii c1) :: hs 20 []) [] []
theorem FT (l : List Int) (m : BitVec 32) (i : Nat) (x : Int) (hx : l[i]? = some x) (k : Nat) (z0 : (decide ((↑i : Int) < (↑(l.length) : Int))) = true) (z1 : (ju m x) = true) : ax (EE (k + 3)) (HH 163) NN (LB PP 163 2) 0 0 (S23 l (mi m) (↑i : Int)) (S23 l (IntKind.wrap .u32 (mi m - mi (nq x))) (IntKind.wrap .i64 ((↑i : Int) + 1))) :=
  nx (ep (af (eI) (l)) <| eg (G.len (l.length)) <| eb z0 <| ep (rz i) <| ep (ao (f := eI) hx) <| eg (G.idx i [ii x]) <| ec (xN m x k) <| eb z1 <| ep (rz i) <| ep (ao (f := eI) hx) <| eg (G.idx i [ii x]) <| ec (Hb m x z1 (k + 1)) <| e0)
theorem E0 (l : List Int) (m : BitVec 32) (i : Nat) (x : Int) (hx : l[i]? = some x) (k : Nat) (z0 : (decide ((↑i : Int) < (↑(l.length) : Int))) = true) (z1 : (ju m x) = false) : ax (EE (k + 3)) (HH 163) NN (LB PP 163 2) 0 0 (S23 l (mi m) (↑i : Int)) (S23 l (mi m) (IntKind.wrap .i64 ((↑i : Int) + 1))) :=
  nx (ep (af (eI) (l)) <| eg (G.len (l.length)) <| eb z0 <| ep (rz i) <| ep (ao (f := eI) hx) <| eg (G.idx i [ii x]) <| ec (xN m x k) <| eb z1 <| e0)
def s6 (l : List Int) (m : BitVec 32) (i : Nat) : St := St.mk (tc (w4 (mi m)) :: tc (C.slice 1 (List.map eI l)) :: T.hole :: T.hole :: T.hole :: tc (ii (↑i : Int)) :: tc (ii (↑i : Int)) :: tc (C.slice 1 (List.map eI l)) :: tc (ii (↑(l.length) : Int)) :: tc (bo (decide ((↑i : Int) < (↑(l.length) : Int)))) :: hs 16 []) [] []
theorem FQ (l : List Int) (m : BitVec 32) (i : Nat) (k : Nat) (z0 : (decide ((↑i : Int) < (↑(l.length) : Int))) = false) : bj (EE (k + 3)) (HH 163) NN (LB PP 163 2) (S23 l (mi m) (↑i : Int)) (Ext.exit 0) (s6 l m i) :=
  ou (ep (af (eI) (l)) <| eg (G.len (l.length)) <| eb z0 <| e0)
theorem ov {x : Int} (h : inB x = true) : nq x = BitVec.twoPow 32 x.toNat ∧ x.toNat < 32 ∧ (2 : Int) ^ x.toNat = mi (nq x) := by
  unfold nq
  rw [h]
  unfold inB at h
  simp only [Bool.and_eq_true, decide_eq_true_eq] at h
  exact ⟨rfl, by omega, zu (by omega)⟩
theorem oq {x : Int} (h : inB x = false) : nq x = 0#32 := by
  unfold nq; rw [h]; rfl
theorem Ey {m : BitVec 32} {x : Int} (h : ju m x = true) : m ||| nq x = m := by
  unfold ju at h
  simp only [Bool.and_eq_true] at h
  obtain ⟨e, hlt, _⟩ := ov h.1
  rw [e]
  apply BitVec.eq_of_getLsbD_eq
  intro j hj
  simp only [BitVec.getLsbD_or, BitVec.getLsbD_twoPow, hj, decide_true, Bool.true_and]
  by_cases hji : x.toNat = j
  · rw [← hji, h.2]; simp
  · simp [hji]
theorem yg {m : BitVec 32} {x : Int} (h : ju m x = false) : m &&& ~~~nq x = m := by
  unfold ju at h
  cases hb : inB x with
  | false => rw [oq hb]; show m &&& BitVec.allOnes 32 = m; exact BitVec.and_allOnes
  | true =>
    rw [hb, Bool.true_and] at h
    obtain ⟨e, hlt, _⟩ := ov hb
    rw [e]
    apply BitVec.eq_of_getLsbD_eq
    intro j hj
    simp only [BitVec.getLsbD_and, BitVec.getLsbD_not, BitVec.getLsbD_twoPow, hj, decide_true, Bool.true_and]
    by_cases hji : x.toNat = j
    · rw [← hji, h]; simp
    · simp [hji]
theorem L21 (x : BitVec 32) (l : List Int) (hl : l.length ≤ 1000000) (k : Nat) : aA (EE (k + 3)) (HH 131) NN (LB PP 131 2) (S21 l (mi x) 0) (.exit 0) (r6 l (yp x l) l.length) := by
  refine cq (E := EE (k + 3)) (H := HH 131) (n := NN) (b := LB PP 131 2) (fun (m : BitVec 32) (i : Nat) => S21 l (mi m) (i : Nat)) (fun _ _ => True) l
    (fun m x => m ||| nq x) x (nv := 0) (nt := 0) (e := .exit 0) (t := fun m => r6 l m l.length) rfl (by kernel_rfl) (by kernel_rfl) trivial (fun m i y hy _ => ⟨?_, trivial⟩) (fun _ => ?_) (by unfold NN; omega)
  · have hi := (List.getElem?_eq_some_iff.1 hy).1
    have hd : decide ((i : Int) < (l.length : Int)) = true := by simp; exact hi
    have e1 := w64 hi (by omega)
    cases h1 : decide (y ≥ 0) with
    | false =>
      have := E5 l m i y hy k hd h1
      rw [e1] at this
      rw [oq (At (.inl h1)), BitVec.or_zero]
      exact this
    | true =>
      cases h2 : decide (y < 32) with
      | false =>
        have := Gf l m i y hy k hd h1 h2
        rw [e1] at this
        rw [oq (At (.inr h2)), BitVec.or_zero]
        exact this
      | true =>
        cases hb : ju m y with
        | true =>
          have := Gd l m i y hy k hd h1 h2 hb
          rw [e1] at this
          rw [Ey hb]
          exact this
        | false =>
          have := Fd l m i y hy k hd h1 h2 hb
          have hin := Az h1 h2
          obtain ⟨eb, hlt, ep⟩ := ov hin
          unfold ju at hb
          rw [hin, Bool.true_and] at hb
          rw [e1, ← ep, uK hlt hb, ← eb] at this
          exact this
  · exact E2 l _ l.length k dge
theorem G6 (x : BitVec 32) (l : List Int) (hl : l.length ≤ 1000000) (k : Nat) : ag PP GL XX HH NN (k + 4) 131 [A.c (w4 (mi x)), A.c (C.slice 1 (is l))] [] = some ([Res.c (w4 (mi (yp x l)))], []) := by
  exact rt (eg (G.loop (Ext.exit 0) (r6 l (yp x l) (l.length))) <| ep (L21 x l hl k) <| e0) rfl
theorem L23 (x : BitVec 32) (l : List Int) (hl : l.length ≤ 1000000) (k : Nat) : aA (EE (k + 3)) (HH 163) NN (LB PP 163 2) (S23 l (mi x) 0) (.exit 0) (s6 l (qT x l) l.length) := by
  refine cq (E := EE (k + 3)) (H := HH 163) (n := NN) (b := LB PP 163 2) (fun (m : BitVec 32) (i : Nat) => S23 l (mi m) (i : Nat)) (fun _ _ => True) l
    (fun m x => m &&& ~~~nq x) x (nv := 0) (nt := 0) (e := .exit 0) (t := fun m => s6 l m l.length) rfl (by kernel_rfl) (by kernel_rfl) trivial (fun m i y hy _ => ⟨?_, trivial⟩) (fun _ => ?_) (by unfold NN; omega)
  · have hi := (List.getElem?_eq_some_iff.1 hy).1
    have hd : decide ((i : Int) < (l.length : Int)) = true := by simp; exact hi
    have e1 := w64 hi (by omega)
    cases hb : ju m y with
    | false =>
      have := E0 l m i y hy k hd hb
      rw [e1] at this
      rw [yg hb]
      exact this
    | true =>
      have := FT l m i y hy k hd hb
      unfold ju at hb
      simp only [Bool.and_eq_true] at hb
      obtain ⟨eb, hlt, ep⟩ := ov hb.1
      rw [e1, ← ep, AL hlt hb.2, ← eb] at this
      exact this
  · exact FQ l _ l.length k dge
theorem Hf (x : BitVec 32) (l : List Int) (hl : l.length ≤ 1000000) (k : Nat) : ag PP GL XX HH NN (k + 4) 163 [A.c (w4 (mi x)), A.c (C.slice 1 (is l))] [] = some ([Res.c (w4 (mi (qT x l)))], []) := by
  exact rt (eg (G.loop (Ext.exit 0) (s6 l (qT x l) (l.length))) <| ep (L23 x l hl k) <| e0) rfl
theorem Fo (x y : BitVec 32) (k : Nat) : ag PP GL XX HH NN (k + 4) 131 [.c (w4 (mi x)), .c (.slice 1 (is (jT y)))] [] = some ([.c (w4 (mi (x ||| y)))], []) := by
  have := G6 x (jT y) (Nat.le_trans (wB y) (by omega)) k
  rwa [uw] at this
def S25 (l : List (BitVec 32)) (c0 : Int) (c1 : Int) : St := St.mk (tc (C.slice 1 (List.map eW l)) :: T.hole :: T.hole :: tc (w4 c0) :: tc (ii c1) :: hs 14 []) [] []
theorem GC (l : List (BitVec 32)) (m : BitVec 32) (i : Nat) (x : BitVec 32) (hx : l[i]? = some x) (k : Nat) (z0 : (decide ((↑i : Int) < (↑(l.length) : Int))) = true) : ax (EE (k + 5)) (HH 136) NN (LB PP 136 3) 0 0 (S25 l (mi m) (↑i : Int)) (S25 l (mi (m ||| x)) (IntKind.wrap .i64 ((↑i : Int) + 1))) :=
  nx (ep (af (eW) (l)) <| eg (G.len (l.length)) <| eb z0 <| ep (rz i) <| ep (ao (f := eW) hx) <| eg (G.idx i [w4 (mi x)]) <| ec (GN x (k + 1)) <| ec (Fo m x (k + 1)) <| e0)
def rR (l : List (BitVec 32)) (m : BitVec 32) (i : Nat) : St := St.mk (tc (C.slice 1 (List.map eW l)) :: T.hole :: T.hole :: tc (w4 (mi m)) :: tc (ii (↑i : Int)) :: tc (ii (↑i : Int)) :: tc (C.slice 1 (List.map eW l)) :: tc (ii (↑(l.length) : Int)) :: tc (bo (decide ((↑i : Int) < (↑(l.length) : Int)))) :: hs 10 []) [] []
theorem Fb (l : List (BitVec 32)) (m : BitVec 32) (i : Nat) (k : Nat) (z0 : (decide ((↑i : Int) < (↑(l.length) : Int))) = false) : bj (EE (k + 5)) (HH 136) NN (LB PP 136 3) (S25 l (mi m) (↑i : Int)) (Ext.exit 0) (rR l m i) :=
  ou (ep (af (eW) (l)) <| eg (G.len (l.length)) <| eb z0 <| e0)
theorem L25 (l : List (BitVec 32)) (hl : l.length ≤ 1000000) (k : Nat) : aA (EE (k + 5)) (HH 136) NN (LB PP 136 3) (S25 l 0 0) (.exit 0) (rR l (orI 0#32 l) l.length) := by
  refine cq (E := EE (k + 5)) (H := HH 136) (n := NN) (b := LB PP 136 3) (fun (m : BitVec 32) (i : Nat) => S25 l (mi m) (i : Nat)) (fun _ _ => True) l
    (fun m x => m ||| x) 0#32 (nv := 0) (nt := 0) (e := .exit 0) (t := fun m => rR l m l.length) rfl (by kernel_rfl) (by kernel_rfl) trivial (fun m i y hy _ => ⟨?_, trivial⟩) (fun _ => ?_) (by unfold NN; omega)
  · have hi := (List.getElem?_eq_some_iff.1 hy).1
    have := GC l m i y hy k (by simp; exact hi)
    rw [w64 hi (by omega)] at this
    exact this
  · exact Fb l _ l.length k dge
theorem DX (l : List (BitVec 32)) (hl : l.length ≤ 1000000) (k : Nat) : ag PP GL XX HH NN (k + 6) 136 [A.c (C.slice 1 (ms l))] [] = some ([Res.c (w4 (mi (orI (BitVec.ofNat 32 0) l)))], []) := by
  exact rt (eg (G.loop (Ext.exit 0) (rR l (orI (BitVec.ofNat 32 0) l) (l.length))) <| ep (L25 l hl k) <| e0) rfl
def S14 (n : Int) (c0 : Int) (c1 : Int) : St := St.mk (tc (ii n) :: T.hole :: T.hole :: tc (w4 c0) :: tc (ii c1) :: hs 16 []) [] []
theorem FE (n : Nat) (m : Int) (i : Nat) (hi : i ≤ 31) (k : Nat) (z0 : (decide ((↑i : Int) < (↑n : Int))) = true) : ax (EE (k + 2)) (HH 161) NN (LB PP 161 5) 0 0 (S14 (↑n : Int) m (↑i : Int)) (S14 (↑n : Int) (IntKind.wrap .u32 (m + 2 ^ i)) (IntKind.wrap .i64 ((↑i : Int) + 1))) :=
  nx (eb z0 <| ec (pow i hi k) <| e0)
def wy (n : Nat) (m : Int) (i : Nat) : St := St.mk (tc (ii (↑n : Int)) :: T.hole :: T.hole :: tc (w4 m) :: tc (ii (↑i : Int)) :: hs 6 (tc (ii (↑i : Int)) :: tc (ii (↑n : Int)) :: tc (bo (decide ((↑i : Int) < (↑n : Int)))) :: hs 7 [])) [] []
theorem F0 (n : Nat) (m : Int) (i : Nat) (k : Nat) (z0 : (decide ((↑i : Int) < (↑n : Int))) = false) : bj (EE (k + 2)) (HH 161) NN (LB PP 161 5) (S14 (↑n : Int) m (↑i : Int)) (Ext.exit 0) (wy n m i) :=
  ou (eb z0 <| e0)
theorem qj {i : Nat} (h : i ≤ 31) : IntKind.wrap .u32 ((2 : Int) ^ i - 1 + 2 ^ i) = 2 ^ (i + 1) - 1 := by
  have h2 := jE h
  have e : (2 : Int) ^ (i + 1) = 2 * 2 ^ i := by rw [Int.pow_succ, Int.mul_comm]
  have ew : (2 : Int) ^ i - 1 + 2 ^ i = 2 ^ (i + 1) - 1 := by omega
  rw [ew]
  unfold IntKind.wrap
  simp [IntKind.signed, IntKind.bits]
  omega
theorem L14 (n : Nat) (hn : n ≤ 32) (k : Nat) : aA (EE (k + 2)) (HH 161) NN (LB PP 161 5) (S14 n 0 0) (.exit 0) (wy n (2 ^ n - 1) n) := by
  refine iy (nv := 0) (nt := 0) (fun i => S14 n (2 ^ i - 1) (i : Nat)) n rfl (by kernel_rfl) (by kernel_rfl) (fun i hi => ?_) ?_ (by unfold NN; omega)
  · have := FE n (2 ^ i - 1) i (by omega) k (by simp; exact hi)
    rw [w64 hi (by omega), qj (by omega)] at this
    exact this
  · exact F0 n (2 ^ n - 1) n k (by simp)
theorem Gx (n : Nat) (hn : n ≤ 32) (h1 : decide ((↑n : Int) < 1) = false) (h2 : decide ((↑n : Int) > 32) = false) (k : Nat) : ag PP GL XX HH NN (k + 3) 161 [A.c (ii (↑n : Int))] [] = some ([Res.c (w4 ((2 : Int) ^ n - 1))], []) := by
  exact rt (eb3 h1 <| eb h2 <| eg (G.loop (Ext.exit 0) (wy n ((2 : Int) ^ n - 1) n)) <| ep (L14 n hn k) <| e0) rfl
theorem GF (B : Int) (h1 : decide (B < 1) = true) (k : Nat) : ag PP GL XX HH NN (k + 3) 161 [A.c (ii B)] [] = some ([Res.c (w4 0)], []) := by
  exact rt (eb3 h1 <| et <| e0) rfl
theorem GP (B : Int) (h1 : decide (B < 1) = false) (h2 : decide (B > 32) = true) (k : Nat) : ag PP GL XX HH NN (k + 3) 161 [A.c (ii B)] [] = some ([Res.c (w4 0)], []) := by
  exact rt (eb3 h1 <| eb h2 <| e0) rfl
theorem Bp {n : Nat} (h : n ≤ 32) : (2 : Int) ^ n - 1 = mi (BitVec.ofNat 32 (2 ^ n - 1)) := by
  simp only [mi, BitVec.toNat_ofNat]
  have h2 : 2 ^ n ≤ 2 ^ 32 := Nat.pow_le_pow_right (by omega) h
  have h3 : 0 < 2 ^ n := Nat.pow_pos (by omega)
  rw [Nat.mod_eq_of_lt (by omega)]
  have e : ((2 ^ n : Nat) : Int) = (2 : Int) ^ n := by simp
  rw [← e]
  omega
theorem Hy (B : Int) (k : Nat) : ag PP GL XX HH NN (k + 3) 161 [.c (ii B)] [] = some ([.c (w4 (mi (CD B)))], []) := by
  unfold CD
  by_cases h1 : B < 1
  · rw [if_neg (by omega)]
    exact GF B (decide_eq_true h1) k
  · by_cases h2 : B ≤ 32
    · rw [if_pos ⟨by omega, h2⟩, ← Bp (by omega)]
      have := Gx B.toNat (by omega) (decide_eq_false (by omega)) (decide_eq_false (by omega)) k
      rwa [Int.toNat_of_nonneg (by omega)] at this
    · rw [if_neg (by omega)]
      exact GP B (decide_eq_false h1) (decide_eq_true (by omega)) k
def S12 (x : BitVec 32) (c0 : Int) : St := St.mk (tc (w4 (mi x)) :: hs 4 (tc (ii c0) :: hs 14 [])) [] []
def xd (x : BitVec 32) (i : Nat) : St := St.mk (tc (w4 (mi x)) :: T.hole :: T.hole :: T.hole :: tc (bo false) :: tc (ii (↑i : Int)) :: hs 7 [tc (ii (↑i : Int)), tc (bo (decide ((↑i : Int) < 32))), T.hole, T.hole, tc (w4 (mi x)), tc (ii (↑i : Int)), tc (bo (ju x (↑i : Int)))]) [] []
theorem GB (x : BitVec 32) (i : Nat) (k : Nat) (z0 : (decide ((↑i : Int) < 32)) = true) (z1 : (ju x (↑i : Int)) = true) : bj (EE (k + 3)) (HH 142) NN (LB PP 142 4) (S12 x (↑i : Int)) (Ext.ret) (xd x i) :=
  ou (eb z0 <| ec (xN x ((↑i : Int)) k) <| eb z1 <| e0)
theorem FH (x : BitVec 32) (i : Nat) (k : Nat) (z0 : (decide ((↑i : Int) < 32)) = true) (z1 : (ju x (↑i : Int)) = false) : ax (EE (k + 3)) (HH 142) NN (LB PP 142 4) 0 0 (S12 x (↑i : Int)) (S12 x (IntKind.wrap .i64 ((↑i : Int) + 1))) :=
  nx (eb z0 <| ec (xN x ((↑i : Int)) k) <| eb z1 <| e0)
def uR (x : BitVec 32) (i : Nat) : St := St.mk (tc (w4 (mi x)) :: hs 4 (tc (ii (↑i : Int)) :: hs 7 (tc (ii (↑i : Int)) :: tc (bo (decide ((↑i : Int) < 32))) :: hs 5 []))) [] []
theorem Fa (x : BitVec 32) (i : Nat) (k : Nat) (z0 : (decide ((↑i : Int) < 32)) = false) : bj (EE (k + 3)) (HH 142) NN (LB PP 142 4) (S12 x (↑i : Int)) (Ext.exit 0) (uR x i) :=
  ou (eb z0 <| e0)
theorem mJ {B n i y : Nat} (h : (List.range' B n)[i]? = some y) : y = B + i ∧ i < n := by
  obtain ⟨hi, rfl⟩ := List.getElem?_eq_some_iff.1 h
  simp at hi
  simp [hi]
def pR (x : BitVec 32) (B : Nat) : Bool := (List.range' B (32 - B)).all fun i => !x.getLsbD i
theorem zU (x : BitVec 32) (B : Nat) (hB : B ≤ 32) (k : Nat) (i y : Nat) (hy : (List.range' B (32 - B))[i]? = some y) (hp : x.getLsbD y = false) : ax (EE (k + 3)) (HH 142) NN (LB PP 142 4) 0 0 (S12 x ((B + i : Nat) : Int)) (S12 x ((B + (i + 1) : Nat) : Int)) := by
  obtain ⟨rfl, hi⟩ := mJ hy
  have := FH x (B + i) k (decide_eq_true (by omega)) (by rw [iG x (by omega)]; exact hp)
  rw [w64 (show B + i < 32 by omega) (by omega)] at this
  exact this
theorem AI (x : BitVec 32) (B : Nat) (hB : B ≤ 32) (hb : pR x B = false) (k : Nat) : aA (EE (k + 3)) (HH 142) NN (LB PP 142 4) (S12 x B) .ret (xd x (B + (List.range' B (32 - B)).findIdx x.getLsbD)) := by
  have hany : (List.range' B (32 - B)).any x.getLsbD = true := by
    unfold pR at hb
    rw [List.all_eq_not_any_not] at hb
    simpa using hb
  have hj := cL hany
  refine oK (E := EE (k + 3)) (n := NN) (b := LB PP 142 4) (fun i => S12 x ((B + i : Nat) : Int)) (List.range' B (32 - B)) x.getLsbD (nv := 0) (nt := 0) rfl (by kernel_rfl) (by kernel_rfl)
    (fun i y hy hp => zU x B hB k i y hy hp) (fun y hy hp => ?_) hj (by unfold NN; simp; omega)
  obtain ⟨rfl, hi⟩ := mJ hy
  exact GB x _ k (decide_eq_true (by omega)) (by rw [iG x (by omega)]; exact hp)
theorem yb (x : BitVec 32) (B : Nat) (hB : B ≤ 32) (hb : pR x B = true) (k : Nat) : aA (EE (k + 3)) (HH 142) NN (LB PP 142 4) (S12 x B) (.exit 0) (uR x 32) := by
  refine gz (E := EE (k + 3)) (n := NN) (b := LB PP 142 4) (fun i => S12 x ((B + i : Nat) : Int)) (List.range' B (32 - B)) x.getLsbD (nv := 0) (nt := 0) rfl (by kernel_rfl) (by kernel_rfl)
    (fun i y hy hp => zU x B hB k i y hy hp) ?_ hb (by unfold NN; simp; omega)
  rw [List.length_range', show B + (32 - B) = 32 by omega]
  exact Fa x 32 k (by decide)
theorem AM (x : BitVec 32) (B : Nat) (hB : B ≤ 32) (h1 : decide ((↑B : Int) < 1) = false) (h2 : decide ((↑B : Int) > 32) = false) (hb : pR x B = true) (k : Nat) : ag PP GL XX HH NN (k + 4) 142 [A.c (w4 (mi x)), A.c (ii (↑B : Int))] [] = some ([Res.c (bo true)], []) := by
  exact rt (eb3 h1 <| eb h2 <| eg (G.loop (Ext.exit 0) (uR x 32)) <| ep (yb x B hB hb k) <| e0) rfl
theorem Cs (x : BitVec 32) (B : Nat) (hB : B ≤ 32) (h1 : decide ((↑B : Int) < 1) = false) (h2 : decide ((↑B : Int) > 32) = false) (hb : pR x B = false) (k : Nat) : ag PP GL XX HH NN (k + 4) 142 [A.c (w4 (mi x)), A.c (ii (↑B : Int))] [] = some ([Res.c (bo false)], []) := by
  exact rt (eb3 h1 <| eb h2 <| eg (G.loop Ext.ret (xd x (B + List.findIdx (BitVec.getLsbD x) (List.range' B (32 - B))))) <| ep (AI x B hB hb k) <| e0) rfl
theorem AS (x : BitVec 32) (B : Int) (h1 : decide (B < 1) = true) (k : Nat) : ag PP GL XX HH NN (k + 4) 142 [A.c (w4 (mi x)), A.c (ii B)] [] = some ([Res.c (bo false)], []) := by
  exact rt (eb3 h1 <| et <| e0) rfl
theorem BI (x : BitVec 32) (B : Int) (h1 : decide (B < 1) = false) (h2 : decide (B > 32) = true) (k : Nat) : ag PP GL XX HH NN (k + 4) 142 [A.c (w4 (mi x)), A.c (ii B)] [] = some ([Res.c (bo false)], []) := by
  exact rt (eb3 h1 <| eb h2 <| e0) rfl
theorem sg {n j : Nat} (hn : n ≤ 32) (hj : j < 32) : (BitVec.ofNat 32 (2 ^ n - 1)).getLsbD j = decide (j < n) := by
  rw [BitVec.getLsbD_ofNat, Nat.testBit_two_pow_sub_one]
  simp [hj]
theorem y7 (x : BitVec 32) (n : Nat) (h1 : 1 ≤ n) (h2 : n ≤ 32) : pR x n = (x &&& ~~~CD n == 0#32) := by
  unfold pR CD
  rw [if_pos ⟨by omega, by omega⟩, Int.toNat_natCast, Bool.eq_iff_iff, List.all_eq_true, beq_iff_eq]
  constructor
  · intro h
    apply BitVec.eq_of_getLsbD_eq
    intro j hj
    simp only [BitVec.getLsbD_and, BitVec.getLsbD_not, BitVec.getLsbD_zero, hj, decide_true, Bool.true_and, sg h2 hj]
    by_cases hjn : j < n
    · simp [hjn]
    · have := h j (by simp; omega)
      simp at this
      simp [this]
  · intro h j hj
    simp at hj
    have := congrArg (fun b : BitVec 32 => b.getLsbD j) h
    simp only [BitVec.getLsbD_and, BitVec.getLsbD_not, BitVec.getLsbD_zero, sg h2 (show j < 32 by omega)] at this
    rw [decide_eq_false (by omega : ¬ j < n), decide_eq_true (by omega : j < 32)] at this
    simpa using this
theorem j3 (x : BitVec 32) (B : Int) (k : Nat) : ag PP GL XX HH NN (k + 4) 142 [.c (w4 (mi x)), .c (ii B)] [] = some ([.c (bo (g9 x B))], []) := by
  unfold g9
  by_cases h1 : B < 1
  · rw [decide_eq_false (by omega : ¬ 1 ≤ B), Bool.false_and, Bool.false_and]
    exact AS x B (decide_eq_true h1) k
  · by_cases h2 : B ≤ 32
    · rw [decide_eq_true (by omega : 1 ≤ B), decide_eq_true h2, Bool.true_and, Bool.true_and]
      obtain ⟨n, rfl⟩ := Int.eq_ofNat_of_zero_le (a := B) (by omega)
      rw [← y7 x n (by omega) (by omega)]
      cases hb : pR x n with
      | true => exact AM x n (by omega) (decide_eq_false (by omega)) (decide_eq_false (by omega)) hb k
      | false => exact Cs x n (by omega) (decide_eq_false (by omega)) (decide_eq_false (by omega)) hb k
    · rw [decide_eq_false h2, Bool.and_false, Bool.false_and]
      exact BI x B (decide_eq_false h1) (decide_eq_true (by omega)) k
def S8 (x : BitVec 32) (f : Int) (c0 : Int) : St := St.mk (tc (w4 (mi x)) :: tc (ii f) :: hs 4 (tc (ii c0) :: hs 13 [])) [] []
def Ch (x : BitVec 32) (f : Int) (i : Nat) : St := St.mk [tc (w4 (mi x)), tc (ii f), T.hole, T.hole, tc (ii (↑i : Int)), tc (bo true), tc (ii (↑i : Int)), tc (ii (↑i : Int)), tc (bo (decide ((↑i : Int) < 32))), T.hole, T.hole, tc (ii (↑i : Int)), tc (ii f), tc (bo (decide ((↑i : Int) ≥ f))), tc (bo (decide ((↑i : Int) ≥ f))), tc (w4 (mi x)), tc (ii (↑i : Int)), tc (bo (ju x (↑i : Int))), tc (bo (ju x (↑i : Int))), tc (ii (↑i : Int))] [] []
theorem Ho (x : BitVec 32) (f : Int) (i : Nat) (k : Nat) (z0 : (decide ((↑i : Int) < 32)) = true) (z1 : (decide ((↑i : Int) ≥ f)) = true) (z2 : (ju x (↑i : Int)) = true) : bj (EE (k + 3)) (HH 137) NN (LB PP 137 2) (S8 x f (↑i : Int)) (Ext.ret) (Ch x f i) :=
  ou (eb z0 <| eb3 z1 <| ec (xN x ((↑i : Int)) k) <| eb z1 <| eb z2 <| e0)
theorem Hm (x : BitVec 32) (f : Int) (i : Nat) (k : Nat) (z0 : (decide ((↑i : Int) < 32)) = true) (z1 : (decide ((↑i : Int) ≥ f)) = true) (z2 : (ju x (↑i : Int)) = false) : ax (EE (k + 3)) (HH 137) NN (LB PP 137 2) 0 0 (S8 x f (↑i : Int)) (S8 x f (IntKind.wrap .i64 ((↑i : Int) + 1))) :=
  nx (eb z0 <| eb3 z1 <| ec (xN x ((↑i : Int)) k) <| eb z1 <| eb z2 <| e0)
theorem HL (x : BitVec 32) (f : Int) (i : Nat) (k : Nat) (z0 : (decide ((↑i : Int) < 32)) = true) (z1 : (decide ((↑i : Int) ≥ f)) = false) : ax (EE (k + 3)) (HH 137) NN (LB PP 137 2) 0 0 (S8 x f (↑i : Int)) (S8 x f (IntKind.wrap .i64 ((↑i : Int) + 1))) :=
  nx (eb z0 <| eb4 z1 <| ef <| e0)
def Cj (x : BitVec 32) (f : Int) (i : Nat) : St := St.mk (tc (w4 (mi x)) :: tc (ii f) :: hs 4 (tc (ii (↑i : Int)) :: tc (ii (↑i : Int)) :: tc (bo (decide ((↑i : Int) < 32))) :: hs 11 [])) [] []
theorem HR (x : BitVec 32) (f : Int) (i : Nat) (k : Nat) (z0 : (decide ((↑i : Int) < 32)) = false) : bj (EE (k + 3)) (HH 137) NN (LB PP 137 2) (S8 x f (↑i : Int)) (Ext.exit 0) (Cj x f i) :=
  ou (eb z0 <| e0)
def pN (x : BitVec 32) (f : Int) (i : Nat) : Bool := decide ((i : Int) ≥ f) && x.getLsbD i
theorem eu {n i y : Nat} (h : (List.range n)[i]? = some y) : y = i ∧ i < n := by
  obtain ⟨hi, rfl⟩ := List.getElem?_eq_some_iff.1 h
  simp at hi
  simp [hi]
theorem DV (x : BitVec 32) (f : Int) (k : Nat) (i y : Nat) (hy : (List.range 32)[i]? = some y) (hp : pN x f y = false) : ax (EE (k + 3)) (HH 137) NN (LB PP 137 2) 0 0 (S8 x f (i : Nat)) (S8 x f ((i + 1 : Nat) : Int)) := by
  obtain ⟨rfl, hi⟩ := eu hy
  have e := w64 hi (show 32 < 9223372036854775808 by omega)
  unfold pN at hp
  cases h1 : decide ((y : Int) ≥ f) with
  | false =>
    have := HL x f y k (decide_eq_true (by omega)) h1
    rwa [e] at this
  | true =>
    rw [h1, Bool.true_and] at hp
    have := Hm x f y k (decide_eq_true (by omega)) h1 (by rw [iG x hi]; exact hp)
    rwa [e] at this
theorem Db (x : BitVec 32) (f : Int) (hb : (List.range 32).any (pN x f) = true) (k : Nat) : aA (EE (k + 3)) (HH 137) NN (LB PP 137 2) (S8 x f 0) .ret (Ch x f ((List.range 32).findIdx (pN x f))) := by
  refine oK (E := EE (k + 3)) (n := NN) (b := LB PP 137 2) (fun i => S8 x f (i : Nat)) (List.range 32) (pN x f) (nv := 0) (nt := 0) rfl (by kernel_rfl) (by kernel_rfl)
    (fun i y hy hp => DV x f k i y hy hp) (fun y hy hp => ?_) (cL hb) (by rw [List.length_range]; unfold NN; omega)
  obtain ⟨e, hi⟩ := eu hy
  rw [e] at hp
  unfold pN at hp
  simp only [Bool.and_eq_true] at hp
  exact Ho x f _ k (decide_eq_true (by omega)) hp.1 (by rw [iG x hi]; exact hp.2)
theorem AJ (x : BitVec 32) (f : Int) (hb : (List.range 32).any (pN x f) = false) (k : Nat) : aA (EE (k + 3)) (HH 137) NN (LB PP 137 2) (S8 x f 0) (.exit 0) (Cj x f 32) := by
  refine gz (E := EE (k + 3)) (n := NN) (b := LB PP 137 2) (fun i => S8 x f (i : Nat)) (List.range 32) (pN x f) (nv := 0) (nt := 0) rfl (by kernel_rfl) (by kernel_rfl)
    (fun i y hy hp => DV x f k i y hy hp) ?_ (fv hb) (by rw [List.length_range]; unfold NN; omega)
  rw [List.length_range]
  exact HR x f 32 k (by decide)
theorem DE (x : BitVec 32) (f : Int) (hb : List.any (List.range 32) (pN x f) = true) (k : Nat) : ag PP GL XX HH NN (k + 4) 137 [A.c (w4 (mi x)), A.c (ii f)] [] = some ([Res.c (ii (↑(List.findIdx (pN x f) (List.range 32)) : Int)), Res.c (bo true)], []) := by
  exact ro (eg (G.loop Ext.ret (Ch x f (List.findIdx (pN x f) (List.range 32)))) <| ep (Db x f hb k) <| e0)
theorem D4 (x : BitVec 32) (f : Int) (hb : List.any (List.range 32) (pN x f) = false) (k : Nat) : ag PP GL XX HH NN (k + 4) 137 [A.c (w4 (mi x)), A.c (ii f)] [] = some ([Res.c (ii 0), Res.c (bo false)], []) := by
  exact ro (eg (G.loop (Ext.exit 0) (Cj x f 32)) <| ep (AJ x f hb k) <| e0)
theorem zy (x : BitVec 32) (f : Int) : kG x f = if (List.range 32).any (pN x f) then some (((List.range 32).findIdx (pN x f) : Nat) : Int) else none := by
  have e : kG x f = ((List.range 32).find? (pN x f)).map fun (i : Nat) => (i : Int) := by
    unfold kG jT wF
    rw [List.find?_map, List.find?_filter]
    congr 2
    funext i
    unfold pN
    simp only [Function.comp, Bool.decide_and, Bool.decide_eq_true, ge_iff_le]
    rw [Bool.and_comm]
  rw [e]
  cases hb : (List.range 32).any (pN x f) with
  | true =>
    have hj := cL hb
    rw [List.find?_eq_getElem?_findIdx, List.getElem?_eq_getElem hj]
    simp
  | false =>
    have h := fv hb
    rw [List.find?_eq_none.2 (fun i hi => by have := List.all_eq_true.1 h i hi; simpa using this)]
    rfl
theorem Co (x : BitVec 32) (f : Int) (k : Nat) : ag PP GL XX HH NN (k + 4) 137 [.c (w4 (mi x)), .c (ii f)] [] = some ([.c (ii ((kG x f).getD 0)), .c (bo (kG x f).isSome)], []) := by
  rw [zy]
  cases hb : (List.range 32).any (pN x f) with
  | true => exact DE x f hb k
  | false => exact D4 x f hb k
end Go.Dm
namespace Go.Dm
open Go
set_option maxHeartbeats 1000000
def Sho (d : Dk) (j : Nat) (c0 : ByteArray) (c1 : Int) : St := St.mk (T.hole :: tc (ii (↑j : Int)) :: T.k (K.v (V.ptr 0 0)) :: T.hole :: T.hole :: tc (st c0) :: tc (ii c1) :: Dm.hs 27 []) [[V.c (C.slice 1 (List.map eS d.sure)), V.c (C.slice 2 (List.map Wr.cs d.cache)), V.c (ii d.fuse), V.c (bo d.dead)]] []
theorem GD (d : Dk) (j : Nat) (s : ByteArray) (i : Nat) (w : Wr) (hw : d.cache[i]? = some w) (k : Nat) (z0 : (decide ((↑i : Int) < (↑(d.cache.length) : Int))) = true) (z1 : (Wr.sec w == (↑j : Int)) = true) : ax (EE (k + 1)) (HH 153) NN (LB PP 153 3) 1 0 (Sho d j s (↑i : Int)) (Sho d j w.data (IntKind.wrap .i64 ((↑i : Int) + 1))) :=
  nx (ep (af (Wr.cs) d.cache) <| eg (G.len (d.cache.length)) <| eb z0 <| ep (rz i) <| ep (ao (f := Wr.cs) hw) <| eg (G.idx i [ii w.sec, st w.data]) <| eb z1 <| ep (rz i) <| ep (ao (f := Wr.cs) hw) <| eg (G.idx i [ii w.sec, st w.data]) <| e0)
theorem EW (d : Dk) (j : Nat) (s : ByteArray) (i : Nat) (w : Wr) (hw : d.cache[i]? = some w) (k : Nat) (z0 : (decide ((↑i : Int) < (↑(d.cache.length) : Int))) = true) (z1 : (Wr.sec w == (↑j : Int)) = false) : ax (EE (k + 1)) (HH 153) NN (LB PP 153 3) 1 0 (Sho d j s (↑i : Int)) (Sho d j s (IntKind.wrap .i64 ((↑i : Int) + 1))) :=
  nx (ep (af (Wr.cs) d.cache) <| eg (G.len (d.cache.length)) <| eb z0 <| ep (rz i) <| ep (ao (f := Wr.cs) hw) <| eg (G.idx i [ii w.sec, st w.data]) <| eb z1 <| e0)
def rG (d : Dk) (j : Nat) (s : ByteArray) (i : Nat) : St := St.mk (T.hole :: tc (ii (↑j : Int)) :: T.k (K.v (V.ptr 0 0)) :: T.hole :: T.hole :: tc (st s) :: tc (ii (↑i : Int)) :: hs 5 (tc (ii (↑i : Int)) :: T.k (K.v (V.ptr 0 1)) :: tc (C.slice 2 (List.map Wr.cs d.cache)) :: tc (ii (↑(d.cache.length) : Int)) :: tc (bo (decide ((↑i : Int) < (↑(d.cache.length) : Int)))) :: hs 17 [])) [[V.c (C.slice 1 (List.map eS d.sure)), V.c (C.slice 2 (List.map Wr.cs d.cache)), V.c (ii d.fuse), V.c (bo d.dead)]] []
theorem EZ (d : Dk) (j : Nat) (s : ByteArray) (i : Nat) (k : Nat) (z0 : (decide ((↑i : Int) < (↑(d.cache.length) : Int))) = false) : bj (EE (k + 1)) (HH 153) NN (LB PP 153 3) (Sho d j s (↑i : Int)) (Ext.exit 0) (rG d j s i) :=
  ou (ep (af (Wr.cs) d.cache) <| eg (G.len (d.cache.length)) <| eb z0 <| e0)
theorem Lho (d : Dk) (j : Nat) (s : ByteArray) (hc : d.cache.length ≤ 1000000) (k : Nat) : aA (EE (k + 1)) (HH 153) NN (LB PP 153 3) (Sho d j s 0) (.exit 0) (rG d j (d.cache.foldl (fun s w => bif w.sec == (j : Int) then w.data else s) s) d.cache.length) := by
  refine (CI (E := fun k => EE (k + 1)) (fun s i => Sho d j s (i : Nat)) (fun _ _ => True) d.cache (fun s w => bif w.sec == (j : Int) then w.data else s) s (fun s => rG d j s d.cache.length) (nv := 1) (nt := 0) (by kernel_rfl) (by kernel_rfl) trivial (fun _ _ _ _ _ => trivial) (fun k s i w hw _ => ?_) (fun k _ => EZ d j _ _ k dge) (by unfold NN; omega)).2 k
  cases hq : w.sec == (j : Int) with
  | true =>
    have := GD d j s i w hw k (dlt hw) hq
    rwa [mq hw (by omega)] at this
  | false =>
    have := EW d j s i w hw k (dlt hw) hq
    rwa [mq hw (by omega)] at this
theorem Dj (d : Dk) (j : Nat) (s : ByteArray) (hs : d.sure[j]? = some s) (hc : d.cache.length ≤ 1000000) (k : Nat) : ag PP GL XX HH NN (k + 2) 153 [A.agg (Dk.cs d), A.c (ii (↑j : Int))] [] = some ([Res.c (st (List.foldl (fun (s : ByteArray) (w : Wr) => bif Wr.sec w == (↑j : Int) then Wr.data w else s) s d.cache))], []) := by
  exact rt (ep (rfl : (↑j : Int) = (↑j : Int)) <| ep (ao (f := eS) hs) <| eg (G.idx j [st s]) <| eg (G.loop (Ext.exit 0) (rG d j (List.foldl (fun (s : ByteArray) (w : Wr) => bif Wr.sec w == (↑j : Int) then Wr.data w else s) s d.cache) (d.cache.length))) <| ep (Lho d j s hc k) <| e0) rfl
theorem AA (d : Dk) (j : Nat) (hj : j < d.sure.length) (hc : d.cache.length ≤ 1000000) (k : Nat) : ag PP GL XX HH NN (k + 2) 153 [.agg d.cs, .c (ii (j : Int))] [] = some ([.c (st (dA d (j : Int)))], []) := by
  have hs : d.sure[j]? = some d.sure[j] := List.getElem?_eq_getElem hj
  have := Dj d j d.sure[j] hs hc k
  unfold dA
  rw [List.getD_eq_getElem?_getD, Int.toNat_natCast, hs]
  exact this
theorem Cg (d : Dk) (i : Int) (h1 : decide (i < 0) = false) (h2 : decide (i ≥ (d.sure.length : Int)) = false) (hc : d.cache.length ≤ 1000000) (k : Nat) : ag PP GL XX HH NN (k + 2) 153 [.agg d.cs, .c (ii i)] [] = some ([.c (st (dA d i))], []) := by
  have h3 := of_decide_eq_false h1
  have h4 := of_decide_eq_false h2
  have := AA d i.toNat (by omega) hc k
  rwa [Int.toNat_of_nonneg (by omega)] at this
theorem kF (d : Dk) (i : Int) (hc : d.cache.length ≤ 1000000) (k : Nat) : ag PP GL XX HH NN (k + 3) 129 [A.agg (Dk.cs d), A.c (ii i)] [] = some ([Res.c (st (aK d i).1), Res.c (ii (aK d i).2)], []) := by
  rcases bft d.dead with z0 | z0
  · exact rt (eb z0 <| e0) (by simp only [aK, z0, vq] <;> rfl)
  · rcases bft (decide (i < 0)) with z1 | z1
    · exact rt (eb z0 <| eb6 z1 <| et <| e0) (by simp only [aK, z0, z1, vq] <;> rfl)
    · rcases bft (decide (i ≥ (↑(d.sure.length) : Int))) with z2 | z2
      · exact rt (eb z0 <| eb4 z1 <| ep (af (eS) d.sure) <| eg (G.len (d.sure.length)) <| eb2 z1 <| eb z2 <| e0) (by simp only [aK, z0, z1, z2, vq] <;> rfl)
      · exact rt (eb z0 <| eb4 z1 <| ep (af (eS) d.sure) <| eg (G.len (d.sure.length)) <| eb2 z1 <| eb z2 <| ec (Cg d i z1 z2 hc k) <| e0) (by simp only [aK, z0, z1, z2, vq] <;> rfl)
theorem zo (d : Dk) (k : Nat) : ag PP GL XX HH NN (k + 1) 166 [A.agg (Dk.cs d)] [] = some ([Res.agg (Dk.cs (aV d))], []) := by
  rcases bft (Dk.fuse d == 1) with z0 | z0
  · rcases bft (decide (Dk.fuse d > 0)) with z1 | z1
    · exact rt (eb z0 <| eb z1 <| e0) (by simp only [aV, z0, z1, vq] <;> rfl)
    · exact rt (eb z0 <| eb z1 <| e0) (by simp only [aV, z0, z1, vq] <;> rfl)
  · rcases bft (decide (Dk.fuse d > 0)) with z1 | z1
    · exact rt (eb z0 <| eb z1 <| e0) (by simp only [aV, z0, z1, vq] <;> rfl)
    · exact rt (eb z0 <| eb z1 <| e0) (by simp only [aV, z0, z1, vq] <;> rfl)
theorem wO (d : Dk) : (aV d).sure = d.sure := rfl
theorem gM (d : Dk) : (aV d).cache = d.cache := rfl
theorem lx (d : Dk) (i : Int) (data : ByteArray) (hc : List.length (aV d).cache ≤ 1000000) (k : Nat) : ag PP GL XX HH NN (k + 2) 151 [A.agg (Dk.cs d), A.c (ii i), A.c (st data)] [] = some ([Res.agg (Dk.cs (bd d i data).1), Res.c (ii (bd d i data).2)], []) := by
  rcases bft d.dead with z0 | z0
  · exact rt (eb z0 <| e0) (rs := [Res.agg (Dk.cs d), Res.c (ii 6)]) (by simp only [bd, z0, vq] <;> rfl)
  · rcases bft (decide (i < 0)) with z1 | z1
    · exact rt (eb z0 <| eb6 z1 <| et <| e0) (rs := [Res.agg (Dk.cs d), Res.c (ii 4)]) (by simp only [bd, z0, z1, vq] <;> rfl)
    · rcases bft (decide (i ≥ (↑(d.sure.length) : Int))) with z2 | z2
      · exact rt (eb z0 <| eb4 z1 <| ep (af (eS) d.sure) <| eg (G.len (d.sure.length)) <| eb2 z1 <| eb z2 <| e0) (rs := [Res.agg (Dk.cs d), Res.c (ii 4)]) (by simp only [bd, z0, z1, z2, vq] <;> rfl)
      · rcases bft (decide ((↑(data.size) : Int) > 64)) with z3 | z3
        · exact rt (eb z0 <| eb4 z1 <| ep (af (eS) d.sure) <| eg (G.len (d.sure.length)) <| eb2 z1 <| eb z2 <| eb z3 <| e0) (rs := [Res.agg (Dk.cs d), Res.c (ii 5)]) (by simp only [bd, z0, z1, z2, z3, vq] <;> rfl)
        · rcases bft (aV d).dead with z4 | z4
          · exact rt (eb z0 <| eb4 z1 <| ep (af (eS) d.sure) <| eg (G.len (d.sure.length)) <| eb2 z1 <| eb z2 <| eb z3 <| ec (zo d k) <| eb z4 <| e0) (rs := [Res.agg (Dk.cs (aV d)), Res.c (ii 6)]) (by simp only [bd, z0, z1, z2, z3, z4, vq] <;> rfl)
          · exact rt (eb z0 <| eb4 z1 <| ep (af (eS) d.sure) <| eg (G.len (d.sure.length)) <| eb2 z1 <| eb z2 <| eb z3 <| ec (zo d k) <| eb z4 <| ep (bq (List.map Wr.cs (aV d).cache)) <| ep (ar (Wr.cs) (l := Dk.cache (aV d)) (n := 1073741824) (by omega)) <| eg (G.app (List.map Wr.cs (aV d).cache)) <| ep (a9 (Wr.cs) (aV d).cache ([(Wr.mk i data)])) <| ep (ar (Wr.cs) (l := Dk.cache (aV d) ++ [(Wr.mk i data)]) (n := 1073741824) (by simp only [vr]; omega)) <| ep (Eq.refl (List.length (List.map Wr.cs (aV d).cache))) <| eg (G.app (List.map Wr.cs (Dk.cache (aV d) ++ [(Wr.mk i data)]))) <| e0) (rs := [Res.agg (Dk.cs ({ aV d with cache := Dk.cache (aV d) ++ [(Wr.mk i data)] } : Dk)), Res.c (ii 0)]) (by simp only [bd, z0, z1, z2, z3, z4, vq] <;> rfl)
def Sfl (d : Dk) (c0 : List (List C)) (c1 : Int) : St := St.mk (T.hole :: T.k (K.v (V.ptr 0 0)) :: T.k (K.v (V.ptr 1 0)) :: T.hole :: T.k (K.v (V.own 1 c0 (Tk.tok 0))) :: tc (ii c1) :: hs 25 []) [[V.c (C.slice 1 (List.map eS (aV d).sure)), V.c (C.slice 2 (List.map Wr.cs (aV d).cache)), V.c (ii (aV d).fuse), V.c (bo (aV d).dead)], [V.own 1 [] Tk.exact, V.own 2 [] Tk.exact, V.c (ii 0), V.c (bo false)]] [c0.length]
theorem FY (d : Dk) (l : List ByteArray) (i : Nat) (hi : i < List.length (aV d).sure) (hc : List.length (aV d).cache ≤ 1000000) (hl : l.length ≤ 1000000) (k : Nat) (z0 : (decide ((↑i : Int) < (↑(List.length (aV d).sure) : Int))) = true) : ax (EE (k + 2)) (HH 152) NN (LB PP 152 8) 2 1 (Sfl d (List.map eS l) (↑i : Int)) (Sfl d (List.map eS (l ++ [dA (aV d) (↑i : Int)])) (IntKind.wrap .i64 ((↑i : Int) + 1))) :=
  nx (ep (af (eS) (aV d).sure) <| eg (G.len (List.length (aV d).sure)) <| eb z0 <| ec (AA (aV d) i hi hc k) <| ep (a9 (eS) (l) ([dA (aV d) (↑i : Int)])) <| ep (ar (eS) (l := l ++ [dA (aV d) (↑i : Int)]) (n := 1073741824) (by simp only [vr]; omega)) <| ep (Eq.refl (List.length (List.map eS l))) <| eg (G.app (List.map eS (l ++ [dA (aV d) (↑i : Int)]))) <| e0)
def xG (d : Dk) (l : List ByteArray) (i : Nat) : St := St.mk (T.hole :: T.k (K.v (V.ptr 0 0)) :: T.k (K.v (V.ptr 1 0)) :: T.hole :: T.k (K.v (V.own 1 (List.map eS l) (Tk.tok 0))) :: tc (ii (↑i : Int)) :: hs 8 (tc (ii (↑i : Int)) :: T.k (K.v (V.ptr 0 0)) :: tc (C.slice 1 (List.map eS (aV d).sure)) :: tc (ii (↑(List.length (aV d).sure) : Int)) :: tc (bo (decide ((↑i : Int) < (↑(List.length (aV d).sure) : Int)))) :: hs 12 [])) [[V.c (C.slice 1 (List.map eS (aV d).sure)), V.c (C.slice 2 (List.map Wr.cs (aV d).cache)), V.c (ii (aV d).fuse), V.c (bo (aV d).dead)], [V.own 1 [] Tk.exact, V.own 2 [] Tk.exact, V.c (ii 0), V.c (bo false)]] [List.length (List.map eS l)]
theorem Fn (d : Dk) (l : List ByteArray) (i : Nat) (k : Nat) (z0 : (decide ((↑i : Int) < (↑(List.length (aV d).sure) : Int))) = false) : bj (EE (k + 2)) (HH 152) NN (LB PP 152 8) (Sfl d (List.map eS l) (↑i : Int)) (Ext.exit 0) (xG d l i) :=
  ou (ep (af (eS) (aV d).sure) <| eg (G.len (List.length (aV d).sure)) <| eb z0 <| e0)
theorem Lfl (d : Dk) (hs : d.sure.length ≤ 1000000) (hc : d.cache.length ≤ 1000000) (k : Nat) : aA (EE (k + 2)) (HH 152) NN (LB PP 152 8) (Sfl d [] 0) (.exit 0) (xG d (lX (aV d)) d.sure.length) := by
  refine iy (E := EE (k + 2)) (fun i => Sfl d (((List.range i).map fun (i : Nat) => dA (aV d) (i : Int)).map eS) (i : Nat)) d.sure.length (nv := 2) (nt := 1) rfl (by kernel_rfl) (by kernel_rfl) (fun i hi => ?_) (Fn d _ d.sure.length k dge) (by unfold NN; omega)
  have hd : decide ((i : Int) < ((aV d).sure.length : Int)) = true := decide_eq_true (by rw [wO]; omega)
  have := FY d ((List.range i).map fun (i : Nat) => dA (aV d) (i : Int)) i hi hc (by simp; omega) k hd
  rw [w64 hi (by omega)] at this
  rw [List.range_succ, List.map_append, List.map_cons, List.map_nil]
  exact this
theorem v7 (d : Dk) (hs : d.sure.length ≤ 1000000) (hc : d.cache.length ≤ 1000000) (k : Nat) : ag PP GL XX HH NN (k + 4) 152 [A.agg (Dk.cs d)] [] = some ([Res.agg (Dk.cs (fd d).1), Res.c (ii (fd d).2)], []) := by
  rcases bft d.dead with z0 | z0
  · exact rt (eb z0 <| e0) (rs := [Res.agg (Dk.cs d), Res.c (ii 6)]) (by simp only [fd, z0, vq] <;> rfl)
  · rcases bft (aV d).dead with z1 | z1
    · exact rt (eb z0 <| ec (zo d (k + 2)) <| eb z1 <| e0) (rs := [Res.agg (Dk.cs (aV d)), Res.c (ii 6)]) (by simp only [fd, z0, z1, vq] <;> rfl)
    · exact rt (eb z0 <| ec (zo d (k + 2)) <| eb z1 <| eg (G.loop (Ext.exit 0) (xG d (lX (aV d)) (d.sure.length))) <| ep (Lfl d hs hc (k + 1)) <| e0) (rs := [Res.agg (Dk.cs ({ aV d with sure := lX (aV d), cache := [] } : Dk)), Res.c (ii 0)]) (by simp only [fd, z0, z1, vq] <;> rfl)
theorem GX (d : Dk) (n : Int) (k : Nat) : ag PP GL XX HH NN (k + 1) 42 [A.agg (Dk.cs d), A.c (ii n)] [] = some ([Res.agg (Dk.cs (Dh d n))], []) := by
  exact rt (e0) (by simp only [Dh, vq] <;> rfl)
theorem DC (d : Dk) (k : Nat) : ag PP GL XX HH NN (k + 1) 80 [A.agg (Dk.cs d)] [] = some ([Res.agg (Dk.cs (pU d))], []) := by
  exact rt (e0) (by simp only [pU, vq] <;> rfl)
end Go.Dm
namespace Go.Dm
open Go
set_option maxHeartbeats 1000000
theorem aT (v : Ve) (g : Int) (k : Nat) : ag PP GL XX HH NN (k + 1) 160 [A.agg (Ve.cs v), A.c (u g)] [] = some ([Res.c (ii (aQ v g))], []) := by
  rcases bft (g == 0) with z0 | z0
  · exact rt (eg (G.un) <| et <| en6 z0 <| ef <| et <| en6 z0 <| ef <| et <| en6 z0 <| ef <| et <| en6 z0 <| ef2 <| e0) (by simp only [aQ, z0, vq] <;> rfl)
  · rcases bft (Ve.cur v == g) with z1 | z1
    · exact rt (eg (G.un) <| et <| en2 z0 <| ep (rz 0) <| eg (G.at 0) <| en4 z0 <| eb z1 <| e0) (by simp only [aQ, z0, z1, vq] <;> rfl)
    · rcases bft (Ve.bit v == g) with z2 | z2
      · exact rt (eg (G.un) <| et <| en2 z0 <| ep (rz 0) <| eg (G.at 0) <| en4 z0 <| eb z1 <| et <| en2 z0 <| ep (rz 1) <| eg (G.at 1) <| en4 z0 <| eb z2 <| e0) (by simp only [aQ, z0, z1, z2, vq] <;> rfl)
      · rcases bft (Ve.o0 v == g) with z3 | z3
        · exact rt (eg (G.un) <| et <| en2 z0 <| ep (rz 0) <| eg (G.at 0) <| en4 z0 <| eb z1 <| et <| en2 z0 <| ep (rz 1) <| eg (G.at 1) <| en4 z0 <| eb z2 <| et <| en2 z0 <| ep (rfl : (2 : Int) = 2) <| eg (G.at 2) <| en4 z0 <| eb z3 <| e0) (by simp only [aQ, z0, z1, z2, z3, vq] <;> rfl)
        · rcases bft (Ve.o1 v == g) with z4 | z4
          · exact rt (eg (G.un) <| et <| en2 z0 <| ep (rz 0) <| eg (G.at 0) <| en4 z0 <| eb z1 <| et <| en2 z0 <| ep (rz 1) <| eg (G.at 1) <| en4 z0 <| eb z2 <| et <| en2 z0 <| ep (rfl : (2 : Int) = 2) <| eg (G.at 2) <| en4 z0 <| eb z3 <| et <| en2 z0 <| ep (rfl : (3 : Int) = 3) <| eg (G.at 3) <| en4 z0 <| eb z4 <| e0) (by simp only [aQ, z0, z1, z2, z3, z4, vq] <;> rfl)
          · exact rt (eg (G.un) <| et <| en2 z0 <| ep (rz 0) <| eg (G.at 0) <| en4 z0 <| eb z1 <| et <| en2 z0 <| ep (rz 1) <| eg (G.at 1) <| en4 z0 <| eb z2 <| et <| en2 z0 <| ep (rfl : (2 : Int) = 2) <| eg (G.at 2) <| en4 z0 <| eb z3 <| et <| en2 z0 <| ep (rfl : (3 : Int) = 3) <| eg (G.at 3) <| en4 z0 <| eb z4 <| ef <| e0) (by simp only [aQ, z0, z1, z2, z3, z4, vq] <;> rfl)
theorem C2 (v : Ve) (g : Int) (k : Nat) : ag PP GL XX HH NN (k + 1) 99 [A.agg (Ve.cs v), A.c (u g)] [] = some ([Res.agg (Ve.cs (bif g == 0 then (Ve.mk 0 0 0 0) else iF v g)), Res.c (ii (bif g == 0 then 14 else 0))], []) := by
  rcases bft (g == 0) with z0 | z0
  · exact rt (eb z0 <| e0) (by simp only [iF, z0, vq] <;> rfl)
  · rcases bft (Ve.bit v == 0) with z1 | z1
    · exact rt (eb z0 <| eb z1 <| e0) (by simp only [iF, z0, z1, vq] <;> rfl)
    · exact rt (eb z0 <| eb z1 <| e0) (by simp only [iF, z0, z1, vq] <;> rfl)
theorem jI (v : Ve) (k : Nat) : ag PP GL XX HH NN (k + 1) 105 [A.agg (Ve.cs v)] [] = some ([Res.agg (Ve.cs (cF v))], []) := by
  rcases bft (Ve.bit v == 0) with z0 | z0
  · exact rt (eb z0 <| e0) (by simp only [cF, z0, vq] <;> rfl)
  · exact rt (eb z0 <| e0) (by simp only [cF, z0, vq] <;> rfl)
theorem DI (v : Ve) (g : Int) (k : Nat) : ag PP GL XX HH NN (k + 1) 107 [A.agg (Ve.cs v), A.c (u g)] [] = some ([Res.agg (Ve.cs (uF v g))], []) := by
  exact rt (e0) (by simp only [uF, vq] <;> rfl)
theorem i2 (s : Su) (k : Nat) : ag PP GL XX HH NN (k + 1) 122 [A.agg (Su.cs s)] [] = some ([Res.c (bo (cR s))], []) := by
  rcases bft (decide (Su.blocks s ≥ 1)) with z0 | z0
  · rcases bft (decide (Su.blocks s ≤ 32)) with z1 | z1
    · exact rt (eb4 z0 <| eb5 z1 <| e0) (by simp only [cR, z0, z1, vq] <;> rfl)
    · exact rt (eb4 z0 <| eb5 z1 <| e0) (by simp only [cR, z0, z1, vq] <;> rfl)
  · exact rt (eb4 z0 <| ef5 <| e0) (by simp only [cR, z0, vq] <;> rfl)
theorem n7 (s : Su) (k : Nat) : ag PP GL XX HH NN (k + 3) 123 [A.agg (Su.cs s)] [] = some ([Res.c (st (cE s))], []) := by
  exact rt (ec (DL s.inc s.pri s.dis (k + 1)) <| ep (rfl : some ([IntKind.wrap .u8 s.blocks, fl s.inc (1 : Int) + fl s.pri (2 : Int) + fl s.dis (4 : Int)]) = some ([IntKind.wrap .u8 s.blocks, fl s.inc (1 : Int) + fl s.pri (2 : Int) + fl s.dis (4 : Int)])) <| eg (G.str [IntKind.wrap .u8 s.blocks, fl s.inc 1 + fl s.pri 2 + fl s.dis 4]) <| ep (show ByteArray.size (ByteArray.mk #[(71 : UInt8), (77 : UInt8), (1 : UInt8)]) + ByteArray.size (bH [IntKind.wrap .u8 s.blocks, fl s.inc (1 : Int) + fl s.pri (2 : Int) + fl s.dis (4 : Int)]) ≤ 9223372036854775807 from by first | omega | (simp only [vu] at *; omega)) <| eg (G.ok) <| ec (kK s.v.cur k) <| ep (show ByteArray.size (ByteArray.mk #[(71 : UInt8), (77 : UInt8), (1 : UInt8)] ++ bH [IntKind.wrap .u8 s.blocks, fl s.inc (1 : Int) + fl s.pri (2 : Int) + fl s.dis (4 : Int)]) + ByteArray.size (dO s.v.cur) ≤ 9223372036854775807 from by first | omega | (simp only [vu] at *; omega)) <| eg (G.ok) <| ec (kK s.v.bit k) <| ep (show ByteArray.size (ByteArray.mk #[(71 : UInt8), (77 : UInt8), (1 : UInt8)] ++ bH [IntKind.wrap .u8 s.blocks, fl s.inc (1 : Int) + fl s.pri (2 : Int) + fl s.dis (4 : Int)] ++ dO s.v.cur) + ByteArray.size (dO s.v.bit) ≤ 9223372036854775807 from by first | omega | (simp only [vu] at *; omega)) <| eg (G.ok) <| ec (kK s.v.o0 k) <| ep (show ByteArray.size (ByteArray.mk #[(71 : UInt8), (77 : UInt8), (1 : UInt8)] ++ bH [IntKind.wrap .u8 s.blocks, fl s.inc (1 : Int) + fl s.pri (2 : Int) + fl s.dis (4 : Int)] ++ dO s.v.cur ++ dO s.v.bit) + ByteArray.size (dO s.v.o0) ≤ 9223372036854775807 from by first | omega | (simp only [vu] at *; omega)) <| eg (G.ok) <| ec (kK s.v.o1 k) <| ep (show ByteArray.size (ByteArray.mk #[(71 : UInt8), (77 : UInt8), (1 : UInt8)] ++ bH [IntKind.wrap .u8 s.blocks, fl s.inc (1 : Int) + fl s.pri (2 : Int) + fl s.dis (4 : Int)] ++ dO s.v.cur ++ dO s.v.bit ++ dO s.v.o0) + ByteArray.size (dO s.v.o1) ≤ 9223372036854775807 from by first | omega | (simp only [vu] at *; omega)) <| eg (G.ok) <| e0) (by simp only [cE, vq] <;> rfl)
theorem ka (s : Su) (k : Nat) : ag PP GL XX HH NN (k + 5) 90 [A.agg (Su.cs s)] [] = some ([Res.c (st (aY s).1), Res.c (ii (aY s).2)], []) := by
  rcases bft (cR s) with z0 | z0
  · exact rt (ec (i2 s (k + 3)) <| en z0 <| ec (n7 s (k + 1)) <| ec (oQ (cE s) (show ByteArray.size (cE s) ≤ 1000000 from by first | omega | (simp only [vu] at *; omega)) k) <| e0) (by simp only [aY, z0, vq] <;> rfl)
  · exact rt (ec (i2 s (k + 3)) <| en z0 <| e0) (by simp only [aY, z0, vq] <;> rfl)
theorem yH (t : ByteArray) (a : Nat) (hw : IntKind.wrap .i64 ((↑a : Int) + 8) = (↑(a + 8) : Int)) (hl : a ≤ a + 8) (hs : a + 8 ≤ t.size) (he : ByteArray.size (ByteArray.extract t a (a + 8)) = 8) (k : Nat) : ag PP GL XX HH NN (k + 3) 165 [A.c (st t), A.c (ii (↑a : Int))] [] = some ([Res.c (u (bf t a))], []) := by
  exact rt (ep hw <| ep (rfl : (↑a : Int) = (↑a : Int)) <| ep hl <| ep hs <| eg (G.cut a (a + 8) []) <| ec (hU (ByteArray.extract t a (a + 8)) he k) <| e0) (by simp only [bf, vq] <;> rfl)
theorem oO (t : ByteArray) (a : Nat) (ha : a ≤ 1000) (h : a + 8 ≤ t.size) (k : Nat) : ag PP GL XX HH NN (k + 3) 165 [.c (st t), .c (ii (a : Int))] [] = some ([.c (u (bf t a))], []) :=
  yH t a (by rw [cI (by omega) (by omega)]; omega) (by omega) h (by rw [ByteArray.size_extract]; omega) k
theorem GT (t : ByteArray) (h : t.size = 37) (k : Nat) : ag PP GL XX HH NN (k + 3) 165 [.c (st t), .c (ii 5)] [] = some ([.c (u (bf t 5))], []) := oO t 5 (by omega) (by omega) k
theorem Bi (t : ByteArray) (h : t.size = 37) (k : Nat) : ag PP GL XX HH NN (k + 3) 165 [.c (st t), .c (ii 13)] [] = some ([.c (u (bf t 13))], []) := oO t 13 (by omega) (by omega) k
theorem By (t : ByteArray) (h : t.size = 37) (k : Nat) : ag PP GL XX HH NN (k + 3) 165 [.c (st t), .c (ii 21)] [] = some ([.c (u (bf t 21))], []) := oO t 21 (by omega) (by omega) k
theorem Ce (t : ByteArray) (h : t.size = 37) (k : Nat) : ag PP GL XX HH NN (k + 3) 165 [.c (st t), .c (ii 29)] [] = some ([.c (u (bf t 29))], []) := oO t 29 (by omega) (by omega) k
theorem Ec (b : ByteArray) (hb : b.size ≤ 1000000) (h1 : (Prod.snd (aa b) == 0) = false) (k : Nat) : ag PP GL XX HH NN (k + 6) 139 [A.c (st b)] [] = some ([Res.agg (Su.cs (cB b).1), Res.c (ii (cB b).2)], []) := by
  exact rt (ec (dU b hb k) <| en h1 <| e0) (by simp only [cB, h1, vq] <;> rfl)
theorem DH (b : ByteArray) (hb : b.size ≤ 1000000) (h1 : (Prod.snd (aa b) == 0) = true) (h2 : ((↑(ByteArray.size (aa b).1) : Int) == 37) = false) (k : Nat) : ag PP GL XX HH NN (k + 6) 139 [A.c (st b)] [] = some ([Res.agg (Su.cs (cB b).1), Res.c (ii (cB b).2)], []) := by
  exact rt (ec (dU b hb k) <| en h1 <| en4 h2 <| et <| e0) (by simp only [cB, h1, h2, vq] <;> rfl)
theorem Dv (b : ByteArray) (hb : b.size ≤ 1000000) (h1 : (Prod.snd (aa b) == 0) = true) (h2 : ((↑(ByteArray.size (aa b).1) : Int) == 37) = true) (h4 : (aa b).1[4]? = some (ac (aa b).1 4)) (h7 : decide ((↑(UInt8.toNat (ac (aa b).1 4)) : Int) > 7) = true) (k : Nat) : ag PP GL XX HH NN (k + 6) 139 [A.c (st b)] [] = some ([Res.agg (Su.cs (cB b).1), Res.c (ii (cB b).2)], []) := by
  exact rt (ec (dU b hb k) <| en h1 <| en2 h2 <| ep (rfl : (4 : Int) = (4 : Int)) <| ep h4 <| eg (G.byte 4 (ac (aa b).1 4)) <| en2 h2 <| eb h7 <| e0) (by simp only [cB, h1, h2, h7, vq] <;> rfl)
theorem Dz (b : ByteArray) (hb : b.size ≤ 1000000) (h1 : (Prod.snd (aa b) == 0) = true) (h2 : ((↑(ByteArray.size (aa b).1) : Int) == 37) = true) (hs : ByteArray.size (aa b).1 = 37) (h3 : (aa b).1[3]? = some (ac (aa b).1 3)) (h4 : (aa b).1[4]? = some (ac (aa b).1 4)) (h7 : decide ((↑(UInt8.toNat (ac (aa b).1 4)) : Int) > 7) = false) (h8 : UInt8.toNat (ac (aa b).1 4) ≤ 7) (k : Nat) : ag PP GL XX HH NN (k + 6) 139 [A.c (st b)] [] = some ([Res.agg (Su.cs (cB b).1), Res.c (ii (cB b).2)], []) := by
  rcases bft (cR (Su.mk (IntKind.wrap .i64 (↑(UInt8.toNat (ac (aa b).1 3)) : Int)) ((Ve.mk (bf (aa b).1 5) (bf (aa b).1 13) (bf (aa b).1 21) (bf (aa b).1 29))) (aI (ac (aa b).1 4) 0) (aI (ac (aa b).1 4) 1) (aI (ac (aa b).1 4) 2))) with z0 | z0
  · rcases bft (cE (Su.mk (IntKind.wrap .i64 (↑(UInt8.toNat (ac (aa b).1 3)) : Int)) ((Ve.mk (bf (aa b).1 5) (bf (aa b).1 13) (bf (aa b).1 21) (bf (aa b).1 29))) (aI (ac (aa b).1 4) 0) (aI (ac (aa b).1 4) 1) (aI (ac (aa b).1 4) 2)) == Prod.fst (aa b)) with z1 | z1
    · exact rt (ec (dU b hb k) <| en h1 <| en2 h2 <| ep (rfl : (4 : Int) = (4 : Int)) <| ep h4 <| eg (G.byte 4 (ac (aa b).1 4)) <| en2 h2 <| eb h7 <| ep (rfl : (4 : Int) = (4 : Int)) <| ep h4 <| eg (G.byte 4 (ac (aa b).1 4)) <| ec (qF (ac (aa b).1 4) h8 (k + 4)) <| ep (rfl : (3 : Int) = (3 : Int)) <| ep h3 <| eg (G.byte 3 (ac (aa b).1 3)) <| ec (GT (aa b).1 hs (k + 2)) <| ec (Bi (aa b).1 hs (k + 2)) <| ec (By (aa b).1 hs (k + 2)) <| ec (Ce (aa b).1 hs (k + 2)) <| ep (rfl : (0 : Int) = (0 : Int)) <| ep (rfl : some ([bo (aI (ac (aa b).1 (4 : Nat)) (0 : Nat))]) = some ([bo (aI (ac (aa b).1 (4 : Nat)) (0 : Nat))])) <| eg (G.idx 0 [bo (aI (ac (aa b).1 4) 0)]) <| ep (rfl : (1 : Int) = (1 : Int)) <| ep (rfl : some ([bo (aI (ac (aa b).1 (4 : Nat)) (1 : Nat))]) = some ([bo (aI (ac (aa b).1 (4 : Nat)) (1 : Nat))])) <| eg (G.idx 1 [bo (aI (ac (aa b).1 4) 1)]) <| ep (rfl : (2 : Int) = (2 : Int)) <| ep (rfl : some ([bo (aI (ac (aa b).1 (4 : Nat)) (2 : Nat))]) = some ([bo (aI (ac (aa b).1 (4 : Nat)) (2 : Nat))])) <| eg (G.idx 2 [bo (aI (ac (aa b).1 4) 2)]) <| ec (i2 ((Su.mk (IntKind.wrap .i64 (↑(UInt8.toNat (ac (aa b).1 3)) : Int)) ((Ve.mk (bf (aa b).1 5) (bf (aa b).1 13) (bf (aa b).1 21) (bf (aa b).1 29))) (aI (ac (aa b).1 4) 0) (aI (ac (aa b).1 4) 1) (aI (ac (aa b).1 4) 2))) (k + 4)) <| en2 z0 <| ec (n7 ((Su.mk (IntKind.wrap .i64 (↑(UInt8.toNat (ac (aa b).1 3)) : Int)) ((Ve.mk (bf (aa b).1 5) (bf (aa b).1 13) (bf (aa b).1 21) (bf (aa b).1 29))) (aI (ac (aa b).1 4) 0) (aI (ac (aa b).1 4) 1) (aI (ac (aa b).1 4) 2))) (k + 2)) <| en3 z0 <| en z1 <| e0) (by simp only [cB, Aj, h1, h2, h7, z0, z1, vq] <;> rfl)
    · exact rt (ec (dU b hb k) <| en h1 <| en2 h2 <| ep (rfl : (4 : Int) = (4 : Int)) <| ep h4 <| eg (G.byte 4 (ac (aa b).1 4)) <| en2 h2 <| eb h7 <| ep (rfl : (4 : Int) = (4 : Int)) <| ep h4 <| eg (G.byte 4 (ac (aa b).1 4)) <| ec (qF (ac (aa b).1 4) h8 (k + 4)) <| ep (rfl : (3 : Int) = (3 : Int)) <| ep h3 <| eg (G.byte 3 (ac (aa b).1 3)) <| ec (GT (aa b).1 hs (k + 2)) <| ec (Bi (aa b).1 hs (k + 2)) <| ec (By (aa b).1 hs (k + 2)) <| ec (Ce (aa b).1 hs (k + 2)) <| ep (rfl : (0 : Int) = (0 : Int)) <| ep (rfl : some ([bo (aI (ac (aa b).1 (4 : Nat)) (0 : Nat))]) = some ([bo (aI (ac (aa b).1 (4 : Nat)) (0 : Nat))])) <| eg (G.idx 0 [bo (aI (ac (aa b).1 4) 0)]) <| ep (rfl : (1 : Int) = (1 : Int)) <| ep (rfl : some ([bo (aI (ac (aa b).1 (4 : Nat)) (1 : Nat))]) = some ([bo (aI (ac (aa b).1 (4 : Nat)) (1 : Nat))])) <| eg (G.idx 1 [bo (aI (ac (aa b).1 4) 1)]) <| ep (rfl : (2 : Int) = (2 : Int)) <| ep (rfl : some ([bo (aI (ac (aa b).1 (4 : Nat)) (2 : Nat))]) = some ([bo (aI (ac (aa b).1 (4 : Nat)) (2 : Nat))])) <| eg (G.idx 2 [bo (aI (ac (aa b).1 4) 2)]) <| ec (i2 ((Su.mk (IntKind.wrap .i64 (↑(UInt8.toNat (ac (aa b).1 3)) : Int)) ((Ve.mk (bf (aa b).1 5) (bf (aa b).1 13) (bf (aa b).1 21) (bf (aa b).1 29))) (aI (ac (aa b).1 4) 0) (aI (ac (aa b).1 4) 1) (aI (ac (aa b).1 4) 2))) (k + 4)) <| en2 z0 <| ec (n7 ((Su.mk (IntKind.wrap .i64 (↑(UInt8.toNat (ac (aa b).1 3)) : Int)) ((Ve.mk (bf (aa b).1 5) (bf (aa b).1 13) (bf (aa b).1 21) (bf (aa b).1 29))) (aI (ac (aa b).1 4) 0) (aI (ac (aa b).1 4) 1) (aI (ac (aa b).1 4) 2))) (k + 2)) <| en3 z0 <| en z1 <| e0) (by simp only [cB, Aj, h1, h2, h7, z0, z1, vq] <;> rfl)
  · exact rt (ec (dU b hb k) <| en h1 <| en2 h2 <| ep (rfl : (4 : Int) = (4 : Int)) <| ep h4 <| eg (G.byte 4 (ac (aa b).1 4)) <| en2 h2 <| eb h7 <| ep (rfl : (4 : Int) = (4 : Int)) <| ep h4 <| eg (G.byte 4 (ac (aa b).1 4)) <| ec (qF (ac (aa b).1 4) h8 (k + 4)) <| ep (rfl : (3 : Int) = (3 : Int)) <| ep h3 <| eg (G.byte 3 (ac (aa b).1 3)) <| ec (GT (aa b).1 hs (k + 2)) <| ec (Bi (aa b).1 hs (k + 2)) <| ec (By (aa b).1 hs (k + 2)) <| ec (Ce (aa b).1 hs (k + 2)) <| ep (rfl : (0 : Int) = (0 : Int)) <| ep (rfl : some ([bo (aI (ac (aa b).1 (4 : Nat)) (0 : Nat))]) = some ([bo (aI (ac (aa b).1 (4 : Nat)) (0 : Nat))])) <| eg (G.idx 0 [bo (aI (ac (aa b).1 4) 0)]) <| ep (rfl : (1 : Int) = (1 : Int)) <| ep (rfl : some ([bo (aI (ac (aa b).1 (4 : Nat)) (1 : Nat))]) = some ([bo (aI (ac (aa b).1 (4 : Nat)) (1 : Nat))])) <| eg (G.idx 1 [bo (aI (ac (aa b).1 4) 1)]) <| ep (rfl : (2 : Int) = (2 : Int)) <| ep (rfl : some ([bo (aI (ac (aa b).1 (4 : Nat)) (2 : Nat))]) = some ([bo (aI (ac (aa b).1 (4 : Nat)) (2 : Nat))])) <| eg (G.idx 2 [bo (aI (ac (aa b).1 4) 2)]) <| ec (i2 ((Su.mk (IntKind.wrap .i64 (↑(UInt8.toNat (ac (aa b).1 3)) : Int)) ((Ve.mk (bf (aa b).1 5) (bf (aa b).1 13) (bf (aa b).1 21) (bf (aa b).1 29))) (aI (ac (aa b).1 4) 0) (aI (ac (aa b).1 4) 1) (aI (ac (aa b).1 4) 2))) (k + 4)) <| en5 z0 <| et <| e0) (by simp only [cB, Aj, h1, h2, h7, z0, vq] <;> rfl)
theorem vD (b : ByteArray) (hb : b.size ≤ 1000000) (k : Nat) : ag PP GL XX HH NN (k + 6) 139 [.c (st b)] [] = some ([.agg (cB b).1.cs, .c (ii (cB b).2)], []) := by
  cases h1 : (aa b).2 == 0 with
  | false => exact Ec b hb h1 k
  | true =>
    cases h2 : ((aa b).1.size : Int) == 37 with
    | false => exact DH b hb h1 h2 k
    | true =>
      have hs : (aa b).1.size = 37 := by have := eq_of_beq h2; omega
      have h4 := eo (s := (aa b).1) (i := 4) (by omega)
      cases h7 : decide (((ac (aa b).1 4).toNat : Int) > 7) with
      | true => exact Dv b hb h1 h2 h4 h7 k
      | false =>
        have h8 := of_decide_eq_false h7
        exact Dz b hb h1 h2 hs (eo (by omega)) h4 h7 (by omega) k
end Go.Dm
namespace Go.Dm
open Go
set_option maxHeartbeats 1000000
theorem zp (n : Int) : IntKind.wrap .u32 n = mi (BitVec.ofInt 32 n) := by
  unfold IntKind.wrap mi
  simp only [IntKind.signed, IntKind.bits, BitVec.toNat_ofInt]
  simp
  omega
theorem rM (s : ByteArray) (hs : s.size = 4) (k : Nat) : ag PP GL XX HH NN (k + 2) 141 [.c (st s)] [] = some ([.c (w4 (mi (BitVec.ofInt 32 (dY s.data.toList)))), .c (bo true)], []) := by
  rw [← zp]
  exact ET s hs k
theorem wE (d : Dk) (s : Su) (k : Nat) : ag PP GL XX HH NN (k + 1) 140 [A.agg (Dk.cs d), A.agg (Su.cs s)] [] = some ([Res.c (bo (rf d s))], []) := by
  exact rt (ep (af (eS) d.sure) <| eg (G.len (d.sure.length)) <| e0) (by simp only [rf, vq] <;> rfl)
theorem yN (d : Dk) (hc : d.cache.length ≤ 1000000) (hr : ByteArray.size (aK d 0).1 ≤ 1000000) (k : Nat) : ag PP GL XX HH NN (k + 7) 110 [A.agg (Dk.cs d)] [] = some ([Res.agg (Su.cs (gQ d).1), Res.c (ii (gQ d).2)], []) := by
  rcases bft (Prod.snd (aK d 0) == 0) with z0 | z0
  · rcases bft (Prod.snd (cB (aK d 0).1) == 0) with z1 | z1
    · rcases bft (rf d (cB (aK d 0).1).1) with z2 | z2
      · exact rt (ec (kF d 0 hc (k + 3)) <| en z0 <| ec (vD (aK d 0).1 hr k) <| en z1 <| ec (wE d (cB (aK d 0).1).1 (k + 5)) <| en z2 <| e0) (by simp only [gQ, su0, z0, z1, z2, vq] <;> rfl)
      · exact rt (ec (kF d 0 hc (k + 3)) <| en z0 <| ec (vD (aK d 0).1 hr k) <| en z1 <| ec (wE d (cB (aK d 0).1).1 (k + 5)) <| en z2 <| e0) (by simp only [gQ, su0, z0, z1, z2, vq] <;> rfl)
    · exact rt (ec (kF d 0 hc (k + 3)) <| en z0 <| ec (vD (aK d 0).1 hr k) <| en z1 <| e0) (by simp only [gQ, su0, z0, z1, vq] <;> rfl)
  · exact rt (ec (kF d 0 hc (k + 3)) <| en z0 <| e0) (by simp only [gQ, su0, z0, vq] <;> rfl)
theorem BZ (d : Dk) (s : Su) (hc : List.length (aV d).cache ≤ 1000) (h1 : List.length (Dk.sure (bd d 0 (aY s).1).1) ≤ 1000000) (h2 : List.length (Dk.cache (bd d 0 (aY s).1).1) ≤ 1000000) (k : Nat) : ag PP GL XX HH NN (k + 6) 127 [A.agg (Dk.cs d), A.agg (Su.cs s)] [] = some ([Res.agg (Dk.cs (bW d s).1), Res.c (ii (bW d s).2)], []) := by
  rcases bft (Prod.snd (aY s) == 0) with z0 | z0
  · rcases bft (rf d s) with z1 | z1
    · rcases bft (Prod.snd (bd d 0 (aY s).1) == 0) with z2 | z2
      · exact rt (ec (ka s k) <| en3 z0 <| ec (wE d s (k + 4)) <| en2 z0 <| en z1 <| ec (lx d 0 (aY s).1 (show List.length (aV d).cache ≤ 1000000 from by omega) (k + 3)) <| en z2 <| ec (v7 (bd d 0 (aY s).1).1 h1 h2 (k + 1)) <| e0) (by simp only [bW, z0, z1, z2, vq] <;> rfl)
      · exact rt (ec (ka s k) <| en3 z0 <| ec (wE d s (k + 4)) <| en2 z0 <| en z1 <| ec (lx d 0 (aY s).1 (show List.length (aV d).cache ≤ 1000000 from by omega) (k + 3)) <| en z2 <| e0) (by simp only [bW, z0, z1, z2, vq] <;> rfl)
    · exact rt (ec (ka s k) <| en3 z0 <| ec (wE d s (k + 4)) <| en2 z0 <| en z1 <| e0) (by simp only [bW, z0, z1, vq] <;> rfl)
  · exact rt (ec (ka s k) <| en5 z0 <| et <| e0) (by simp only [bW, z0, vq] <;> rfl)
theorem Er (d : Dk) (hc : d.cache.length ≤ 1000000) (hr : ByteArray.size (aK d 1).1 ≤ 1000000) (h1 : (Prod.snd (aK d 1) == 0) = false) (k : Nat) : ag PP GL XX HH NN (k + 7) 111 [A.agg (Dk.cs d)] [] = some ([Res.c (w4 (mi (eR d).1)), Res.c (ii (eR d).2)], []) := by
  exact rt (ec (kF d 1 hc (k + 3)) <| en h1 <| e0) (by simp only [eR, h1, vq] <;> rfl)
theorem DD (d : Dk) (hc : d.cache.length ≤ 1000000) (hr : ByteArray.size (aK d 1).1 ≤ 1000000) (h1 : (Prod.snd (aK d 1) == 0) = true) (h2 : (Prod.snd (aa (aK d 1).1) == 0) = false) (k : Nat) : ag PP GL XX HH NN (k + 7) 111 [A.agg (Dk.cs d)] [] = some ([Res.c (w4 (mi (eR d).1)), Res.c (ii (eR d).2)], []) := by
  exact rt (ec (kF d 1 hc (k + 3)) <| en h1 <| ec (dU (aK d 1).1 hr (k + 1)) <| en h2 <| e0) (by simp only [eR, h1, h2, vq] <;> rfl)
theorem EC (d : Dk) (hc : d.cache.length ≤ 1000000) (hr : ByteArray.size (aK d 1).1 ≤ 1000000) (h1 : (Prod.snd (aK d 1) == 0) = true) (h2 : (Prod.snd (aa (aK d 1).1) == 0) = true) (h3 : ((↑(ByteArray.size (aa (aK d 1).1).1) : Int) == 4) = false) (k : Nat) : ag PP GL XX HH NN (k + 7) 111 [A.agg (Dk.cs d)] [] = some ([Res.c (w4 (mi (eR d).1)), Res.c (ii (eR d).2)], []) := by
  exact rt (ec (kF d 1 hc (k + 3)) <| en h1 <| ec (dU (aK d 1).1 hr (k + 1)) <| en h2 <| ec (CX (aa (aK d 1).1).1 h3 (k + 4)) <| et9 <| e0) (by simp only [eR, h1, h2, h3, vq] <;> rfl)
theorem Ep (d : Dk) (hc : d.cache.length ≤ 1000000) (hr : ByteArray.size (aK d 1).1 ≤ 1000000) (h1 : (Prod.snd (aK d 1) == 0) = true) (h2 : (Prod.snd (aa (aK d 1).1) == 0) = true) (h3 : ((↑(ByteArray.size (aa (aK d 1).1).1) : Int) == 4) = true) (h4 : ByteArray.size (aa (aK d 1).1).1 = 4) (k : Nat) : ag PP GL XX HH NN (k + 7) 111 [A.agg (Dk.cs d)] [] = some ([Res.c (w4 (mi (eR d).1)), Res.c (ii (eR d).2)], []) := by
  rcases bft (g9 (BitVec.ofInt 32 (dY (Array.toList (ByteArray.data (aa (aK d 1).1).1)))) (IntKind.wrap .i64 ((↑(d.sure.length) : Int) - 2))) with z0 | z0
  · exact rt (ec (kF d 1 hc (k + 3)) <| en h1 <| ec (dU (aK d 1).1 hr (k + 1)) <| en h2 <| ec (rM (aa (aK d 1).1).1 h4 (k + 4)) <| ef4 <| ep (af (eS) d.sure) <| eg (G.len (d.sure.length)) <| ef2 <| ec (j3 (BitVec.ofInt 32 (dY (Array.toList (ByteArray.data (aa (aK d 1).1).1)))) (IntKind.wrap .i64 ((↑(d.sure.length) : Int) - 2)) (k + 2)) <| ef2 <| en z0 <| e0) (by simp only [eR, h1, h2, h3, z0, vq] <;> rfl)
  · exact rt (ec (kF d 1 hc (k + 3)) <| en h1 <| ec (dU (aK d 1).1 hr (k + 1)) <| en h2 <| ec (rM (aa (aK d 1).1).1 h4 (k + 4)) <| ef4 <| ep (af (eS) d.sure) <| eg (G.len (d.sure.length)) <| ef2 <| ec (j3 (BitVec.ofInt 32 (dY (Array.toList (ByteArray.data (aa (aK d 1).1).1)))) (IntKind.wrap .i64 ((↑(d.sure.length) : Int) - 2)) (k + 2)) <| ef2 <| en z0 <| e0) (by simp only [eR, h1, h2, h3, z0, vq] <;> rfl)
theorem B4 (d : Dk) (hc : d.cache.length ≤ 1000000) (hr : (aK d 1).1.size ≤ 1000000) (k : Nat) : ag PP GL XX HH NN (k + 7) 111 [.agg d.cs] [] = some ([.c (w4 (mi (eR d).1)), .c (ii (eR d).2)], []) := by
  cases h1 : (aK d 1).2 == 0 with
  | false => exact Er d hc hr h1 k
  | true =>
    cases h2 : (aa (aK d 1).1).2 == 0 with
    | false => exact DD d hc hr h1 h2 k
    | true =>
      cases h3 : ((aa (aK d 1).1).1.size : Int) == 4 with
      | false => exact EC d hc hr h1 h2 h3 k
      | true => exact Ep d hc hr h1 h2 h3 (by have := eq_of_beq h3; omega) k
theorem BK (d : Dk) (m : BitVec 32) (hc : List.length (aV d).cache ≤ 1000) (k : Nat) : ag PP GL XX HH NN (k + 5) 164 [A.agg (Dk.cs d), A.c (w4 (mi m))] [] = some ([Res.agg (Dk.cs (dx d m).1), Res.c (ii (dx d m).2)], []) := by
  rcases bft (g9 m (IntKind.wrap .i64 ((↑(d.sure.length) : Int) - 2))) with z0 | z0
  · exact rt (ep (af (eS) d.sure) <| eg (G.len (d.sure.length)) <| ec (j3 m (IntKind.wrap .i64 ((↑(d.sure.length) : Int) - 2)) k) <| en z0 <| ec (re (mi m) (k + 2)) <| ec (oQ (cZ (mi m)) (show ByteArray.size (cZ (mi m)) ≤ 1000000 from by first | omega | (simp only [vu] at *; omega)) k) <| ec (lx d 1 (bg (cZ (mi m))) (show List.length (aV d).cache ≤ 1000000 from by omega) (k + 2)) <| e0) (by simp only [dx, z0, vq] <;> rfl)
  · exact rt (ep (af (eS) d.sure) <| eg (G.len (d.sure.length)) <| ec (j3 m (IntKind.wrap .i64 ((↑(d.sure.length) : Int) - 2)) k) <| en z0 <| e0) (by simp only [dx, z0, vq] <;> rfl)
theorem GV (d : Dk) (m : BitVec 32) (hc : List.length (aV d).cache ≤ 1000) (h1 : List.length (Dk.sure (dx d m).1) ≤ 1000000) (h2 : List.length (Dk.cache (dx d m).1) ≤ 1000000) (k : Nat) : ag PP GL XX HH NN (k + 6) 154 [A.agg (Dk.cs d), A.c (w4 (mi m))] [] = some ([Res.agg (Dk.cs (gd d m).1), Res.c (ii (gd d m).2)], []) := by
  rcases bft (Prod.snd (dx d m) == 0) with z0 | z0
  · exact rt (ec (BK d m hc k) <| en z0 <| ec (v7 (dx d m).1 h1 h2 (k + 1)) <| e0) (by simp only [gd, z0, vq] <;> rfl)
  · exact rt (ec (BK d m hc k) <| en z0 <| e0) (by simp only [gd, z0, vq] <;> rfl)
theorem kC (d : Dk) (i : Int) (k : Nat) : ag PP GL XX HH NN (k + 1) 128 [A.agg (Dk.cs d), A.c (ii i)] [] = some ([Res.c (bo (ey d i))], []) := by
  rcases bft (decide (i ≥ 0)) with z0 | z0
  · exact rt (eb4 z0 <| ep (af (eS) d.sure) <| eg (G.len (d.sure.length)) <| eb3 z0 <| e0) (by simp only [ey, z0, vq] <;> rfl)
  · exact rt (eb7 z0 <| e0) (by simp only [ey, z0, vq] <;> rfl)
theorem wo (d : Dk) (i : Int) (hc : d.cache.length ≤ 1000000) (k : Nat) : ag PP GL XX HH NN (k + 4) 98 [A.agg (Dk.cs d), A.c (ii i)] [] = some ([Res.c (st (ak d i).1), Res.c (ii (ak d i).2)], []) := by
  rcases bft (ey d i) with z0 | z0
  · rcases bft (Prod.snd (aK d (IntKind.wrap .i64 (i + 2))) == 0) with z1 | z1
    · rcases bft ((↑(ByteArray.size (aK d (IntKind.wrap .i64 (i + 2))).1) : Int) == 8) with z2 | z2
      · exact rt (ec (kC d i (k + 2)) <| en z0 <| ec (kF d (IntKind.wrap .i64 (i + 2)) hc k) <| en z1 <| en z2 <| e0) (by simp only [ak, z0, z1, z2, vq] <;> rfl)
      · exact rt (ec (kC d i (k + 2)) <| en z0 <| ec (kF d (IntKind.wrap .i64 (i + 2)) hc k) <| en z1 <| en z2 <| e0) (by simp only [ak, z0, z1, z2, vq] <;> rfl)
    · exact rt (ec (kC d i (k + 2)) <| en z0 <| ec (kF d (IntKind.wrap .i64 (i + 2)) hc k) <| en z1 <| e0) (by simp only [ak, z0, z1, vq] <;> rfl)
  · exact rt (ec (kC d i (k + 2)) <| en z0 <| e0) (by simp only [ak, z0, vq] <;> rfl)
theorem Fx (d : Dk) (i : Int) (data : ByteArray) (hc : List.length (aV d).cache ≤ 1000) (h1 : List.length (Dk.sure (bd d (IntKind.wrap .i64 (i + 2)) data).1) ≤ 1000000) (h2 : List.length (Dk.cache (bd d (IntKind.wrap .i64 (i + 2)) data).1) ≤ 1000000) (k : Nat) : ag PP GL XX HH NN (k + 5) 132 [A.agg (Dk.cs d), A.c (ii i), A.c (st data)] [] = some ([Res.agg (Dk.cs (gS d i data).1), Res.c (ii (gS d i data).2)], []) := by
  rcases bft (ey d i) with z0 | z0
  · rcases bft ((↑(data.size) : Int) == 8) with z1 | z1
    · rcases bft (Prod.snd (bd d (IntKind.wrap .i64 (i + 2)) data) == 0) with z2 | z2
      · exact rt (ec (kC d i (k + 3)) <| en z0 <| en z1 <| ec (lx d (IntKind.wrap .i64 (i + 2)) data (show List.length (aV d).cache ≤ 1000000 from by omega) (k + 2)) <| en z2 <| ec (v7 (bd d (IntKind.wrap .i64 (i + 2)) data).1 h1 h2 k) <| e0) (by simp only [gS, z0, z1, z2, vq] <;> rfl)
      · exact rt (ec (kC d i (k + 3)) <| en z0 <| en z1 <| ec (lx d (IntKind.wrap .i64 (i + 2)) data (show List.length (aV d).cache ≤ 1000000 from by omega) (k + 2)) <| en z2 <| e0) (by simp only [gS, z0, z1, z2, vq] <;> rfl)
    · exact rt (ec (kC d i (k + 3)) <| en z0 <| en z1 <| e0) (by simp only [gS, z0, z1, vq] <;> rfl)
  · exact rt (ec (kC d i (k + 3)) <| en z0 <| e0) (by simp only [gS, z0, vq] <;> rfl)
end Go.Dm
namespace Go.Dm
open Go
set_option maxHeartbeats 1000000
def zf (d : Dk) (c0 : List (List C)) (c1 : Int) : St := St.mk (T.hole :: T.k (K.v (V.ptr 0 0)) :: T.hole :: T.hole :: T.k (K.v (V.own 1 c0 (Tk.tok 0))) :: tc (ii c1) :: hs 24 []) [[V.c (C.slice 1 (List.map eS d.sure)), V.c (C.slice 2 (List.map Wr.cs d.cache)), V.c (ii d.fuse), V.c (bo d.dead)]] [c0.length]
theorem Dq (d : Dk) (l : List ByteArray) (i : Nat) (hc : d.cache.length ≤ 1000000) (hl : l.length ≤ 1000000) (k : Nat) (z0 : (decide ((↑i : Int) < IntKind.wrap .i64 ((↑(d.sure.length) : Int) - 2))) = true) (z1 : (Prod.snd (ak d (↑i : Int)) == 0) = true) : ax (EE (k + 4)) (HH 112) NN (LB PP 112 3) 1 1 (zf d (List.map eS l) (↑i : Int)) (zf d (List.map eS (l ++ [Prod.fst (ak d (↑i : Int))])) (IntKind.wrap .i64 ((↑i : Int) + 1))) :=
  nx (ep (af (eS) d.sure) <| eg (G.len (d.sure.length)) <| eb z0 <| ec (wo d ((↑i : Int)) hc k) <| en z1 <| ep (a9 (eS) (l) ([Prod.fst (ak d (↑i : Int))])) <| ep (ar (eS) (l := l ++ [Prod.fst (ak d (↑i : Int))]) (n := 1073741824) (by simp only [vr]; omega)) <| ep (Eq.refl (List.length (List.map eS l))) <| eg (G.app (List.map eS (l ++ [Prod.fst (ak d (↑i : Int))]))) <| e0)
def mm (d : Dk) (l : List ByteArray) (i : Nat) : St := St.mk (T.hole :: T.k (K.v (V.ptr 0 0)) :: T.k (K.v (V.own 1 [] Tk.exact)) :: tc (ii (ak d (↑i : Int)).2) :: T.k (K.v (V.own 1 (List.map eS l) (Tk.tok 0))) :: tc (ii (↑i : Int)) :: tc (st (ak d (↑i : Int)).1) :: tc (ii (ak d (↑i : Int)).2) :: tc (ii (↑i : Int)) :: T.k (K.v (V.ptr 0 0)) :: tc (C.slice 1 (List.map eS d.sure)) :: tc (ii (↑(d.sure.length) : Int)) :: tc (ii (IntKind.wrap .i64 ((↑(d.sure.length) : Int) - 2))) :: tc (bo (decide ((↑i : Int) < IntKind.wrap .i64 ((↑(d.sure.length) : Int) - 2)))) :: T.hole :: T.hole :: T.tup [K.v (V.c (st (ak d (↑i : Int)).1)), K.v (V.c (ii (ak d (↑i : Int)).2))] :: T.k (K.agg [V.c (C.slice 1 (List.map eS d.sure)), V.c (C.slice 2 (List.map Wr.cs d.cache)), V.c (ii d.fuse), V.c (bo d.dead)]) :: tc (ii (↑i : Int)) :: T.tup [K.v (V.c (st (ak d (↑i : Int)).1)), K.v (V.c (ii (ak d (↑i : Int)).2))] :: tc (st (ak d (↑i : Int)).1) :: tc (ii (ak d (↑i : Int)).2) :: tc (ii (ak d (↑i : Int)).2) :: tc (bo (Prod.snd (ak d (↑i : Int)) != 0)) :: tc (ii (ak d (↑i : Int)).2) :: hs 5 []) [[V.c (C.slice 1 (List.map eS d.sure)), V.c (C.slice 2 (List.map Wr.cs d.cache)), V.c (ii d.fuse), V.c (bo d.dead)]] [List.length (List.map eS l)]
theorem Ei (d : Dk) (l : List ByteArray) (i : Nat) (hc : d.cache.length ≤ 1000000) (k : Nat) (z0 : (decide ((↑i : Int) < IntKind.wrap .i64 ((↑(d.sure.length) : Int) - 2))) = true) (z1 : (Prod.snd (ak d (↑i : Int)) == 0) = false) : bj (EE (k + 4)) (HH 112) NN (LB PP 112 3) (zf d (List.map eS l) (↑i : Int)) (Ext.ret) (mm d l i) :=
  ou (ep (af (eS) d.sure) <| eg (G.len (d.sure.length)) <| eb z0 <| ec (wo d ((↑i : Int)) hc k) <| en z1 <| e0)
def me (d : Dk) (l : List ByteArray) (i : Nat) : St := St.mk (T.hole :: T.k (K.v (V.ptr 0 0)) :: T.hole :: T.hole :: T.k (K.v (V.own 1 (List.map eS l) (Tk.tok 0))) :: tc (ii (↑i : Int)) :: T.hole :: T.hole :: tc (ii (↑i : Int)) :: T.k (K.v (V.ptr 0 0)) :: tc (C.slice 1 (List.map eS d.sure)) :: tc (ii (↑(d.sure.length) : Int)) :: tc (ii (IntKind.wrap .i64 ((↑(d.sure.length) : Int) - 2))) :: tc (bo (decide ((↑i : Int) < IntKind.wrap .i64 ((↑(d.sure.length) : Int) - 2)))) :: hs 16 []) [[V.c (C.slice 1 (List.map eS d.sure)), V.c (C.slice 2 (List.map Wr.cs d.cache)), V.c (ii d.fuse), V.c (bo d.dead)]] [List.length (List.map eS l)]
theorem De (d : Dk) (l : List ByteArray) (i : Nat) (k : Nat) (z0 : (decide ((↑i : Int) < IntKind.wrap .i64 ((↑(d.sure.length) : Int) - 2))) = false) : bj (EE (k + 4)) (HH 112) NN (LB PP 112 3) (zf d (List.map eS l) (↑i : Int)) (Ext.exit 0) (me d l i) :=
  ou (ep (af (eS) d.sure) <| eg (G.len (d.sure.length)) <| eb z0 <| e0)
theorem Hj (d : Dk) (hs : d.sure.length ≤ 1000000) (hc : d.cache.length ≤ 1000000) :
    ((iD d = ((List.range (d.sure.length - 2)).map fun (i : Nat) => (ak d (i : Int)).1, 0)) ∧ ∀ k, aA (EE (k + 4)) (HH 112) NN (LB PP 112 3) (zf d [] 0) (.exit 0) (me d ((List.range (d.sure.length - 2)).map fun (i : Nat) => (ak d (i : Int)).1) (d.sure.length - 2 : Nat))) ∨
    ∃ (l : List ByteArray) (i : Nat), iD d = ([], (ak d (i : Int)).2) ∧ ∀ k, aA (EE (k + 4)) (HH 112) NN (LB PP 112 3) (zf d [] 0) .ret (mm d l i) := by
  have hn : ∀ i : Nat, i < d.sure.length - 2 → decide ((i : Int) < IntKind.wrap .i64 ((d.sure.length : Int) - 2)) = true := fun i hi => decide_eq_true (by rw [cI (by omega) (by omega)]; omega)
  have hn2 : decide (((d.sure.length - 2 : Nat) : Int) < IntKind.wrap .i64 ((d.sure.length : Int) - 2)) = false := decide_eq_false (by rw [cI (by omega) (by omega)]; omega)
  rcases gA (E := fun k => EE (k + 4)) (H := HH 112) (n := NN) (b := LB PP 112 3) (fun i => zf d (((List.range i).map fun (i : Nat) => (ak d (i : Int)).1).map eS) (i : Nat)) (List.range (d.sure.length - 2)) (fun (i : Nat) => !((ak d (i : Int)).2 == 0)) (fun i x => mm d ((List.range i).map fun (i : Nat) => (ak d (i : Int)).1) i) (me d ((List.range (d.sure.length - 2)).map fun (i : Nat) => (ak d (i : Int)).1) (d.sure.length - 2 : Nat)) (nv := 1) (nt := 1) (e := .ret) (e' := .exit 0) (by kernel_rfl) (by kernel_rfl)
    (fun k i x hx hp => by
      have hi := bO hx
      rw [List.length_range] at hi
      have hxi : x = i := by have := (List.getElem?_eq_some_iff.1 hx).2; simpa using this.symm
      subst hxi
      have := Dq d ((List.range x).map fun (i : Nat) => (ak d (i : Int)).1) x hc (by simp; omega) k (hn x hi) (by simpa using hp)
      rw [w64 hi (by omega)] at this
      rw [List.range_succ, List.map_append, List.map_cons, List.map_nil]
      exact this)
    (fun k i x hx hp => by
      have hi := bO hx
      rw [List.length_range] at hi
      have hxi : x = i := by have := (List.getElem?_eq_some_iff.1 hx).2; simpa using this.symm
      subst hxi
      exact Ei d _ x hc k (hn x hi) (by simpa using hp))
    (fun k => by rw [List.length_range]; exact De d _ _ k hn2) (by rw [List.length_range]; unfold NN; omega) with ⟨h1, h2⟩ | ⟨h1, i, x, hx, hp, hf, _, h2⟩
  · refine .inl ⟨?_, h2⟩
    unfold iD
    have : (List.range (d.sure.length - 2)).find? (fun (i : Nat) => !((ak d (i : Int)).2 == 0)) = none := by
      rw [List.find?_eq_none]
      rw [List.any_eq_false] at h1
      exact h1
    rw [this]
  · have hxi : x = i := by have := (List.getElem?_eq_some_iff.1 hx).2; simpa using this.symm
    subst hxi
    refine .inr ⟨_, x, ?_, h2⟩
    unfold iD
    rw [hf]
theorem Hw (d : Dk) (l : List ByteArray) (i : Nat) (hL : ∀ k, aA (EE (k + 4)) (HH 112) NN (LB PP 112 3) (zf d [] 0) Ext.ret (mm d l i)) (k : Nat) : ag PP GL XX HH NN (k + 5) 112 [A.agg (Dk.cs d)] [] = some ([Res.top 1 [], Res.c (ii (ak d (↑i : Int)).2)], []) := by
  exact ro (eg (G.loop Ext.ret (mm d l i)) <| ep (hL k) <| e0)
theorem HU (d : Dk) (l : List ByteArray) (i : Nat) (hL : ∀ k, aA (EE (k + 4)) (HH 112) NN (LB PP 112 3) (zf d [] 0) (Ext.exit 0) (me d l i)) (k : Nat) : ag PP GL XX HH NN (k + 5) 112 [A.agg (Dk.cs d)] [] = some ([Res.top 1 (List.map eS l), Res.c (ii 0)], []) := by
  exact ro (eg (G.loop (Ext.exit 0) (me d l i)) <| ep (hL k) <| eq1 (List.length (List.map eS l)) <| e0)
theorem G3 (d : Dk) (hs : d.sure.length ≤ 1000000) (hc : d.cache.length ≤ 1000000) (k : Nat) : ag PP GL XX HH NN (k + 5) 112 [.agg d.cs] [] = some ([.top 1 ((iD d).1.map eS), .c (ii (iD d).2)], []) := by
  rcases Hj d hs hc with ⟨h1, h2⟩ | ⟨l, i, h1, h2⟩
  · rw [h1]; exact HU d _ _ h2 k
  · rw [h1]; exact Hw d l i h2 k
theorem DN (s : Su) (q : Bool) (m : BitVec 32) (k : Nat) : ag PP GL XX HH NN (k + 1) 133 [A.agg (Su.cs s), A.c (bo q), A.c (w4 (mi m))] [] = some ([Res.agg (He.cs (EP s q m))], []) := by
  rcases bft s.pri with z0 | z0
  · exact rt (eb3 z0 <| e0) (by simp only [EP, z0, vq] <;> rfl)
  · exact rt (eb3 z0 <| e0) (by simp only [EP, z0, vq] <;> rfl)
theorem cn (h : He) (k : Nat) : ag PP GL XX HH NN (k + 5) 146 [A.agg (He.cs h)] [] = some ([Res.c (bo (cQ h))], []) := by
  rcases bft (decide (He.blocks h ≥ 1)) with z0 | z0
  · rcases bft (decide (He.blocks h ≤ 32)) with z1 | z1
    · rcases bft (Ve.cur h.v == 0) with z2 | z2
      · exact rt (eb4 z0 <| eb5 z1 <| en6 z2 <| kj <| e0) (by simp only [cQ, z0, z1, z2, vq] <;> rfl)
      · rcases bft (g9 h.mask h.blocks) with z3 | z3
        · rcases bft h.pri with z4 | z4
          · rcases bft h.was with z5 | z5
            · exact rt (eb4 z0 <| eb5 z1 <| en5 z2 <| ec (j3 h.mask h.blocks k) <| en z2 <| eb3 z3 <| eb2 z4 <| eb z3 <| eb z4 <| eb2 z3 <| en6 z5 <| e0) (by simp only [cQ, z0, z1, z2, z3, z4, z5, vq] <;> rfl)
            · exact rt (eb4 z0 <| eb5 z1 <| en5 z2 <| ec (j3 h.mask h.blocks k) <| en z2 <| eb3 z3 <| eb2 z4 <| eb z3 <| eb z4 <| eb2 z3 <| en3 z5 <| eb2 z4 <| en z5 <| eb z4 <| en2 z5 <| e0) (by simp only [cQ, z0, z1, z2, z3, z4, z5, vq] <;> rfl)
          · exact rt (eb4 z0 <| eb5 z1 <| en5 z2 <| ec (j3 h.mask h.blocks k) <| en z2 <| eb3 z3 <| eb2 z4 <| eb z3 <| eb z4 <| eb2 z3 <| et3 <| eb2 z4 <| et <| eb z4 <| et2 <| e0) (by simp only [cQ, z0, z1, z2, z3, z4, vq] <;> rfl)
        · exact rt (eb4 z0 <| eb5 z1 <| en5 z2 <| ec (j3 h.mask h.blocks k) <| en z2 <| eb6 z3 <| ef6 <| e0) (by simp only [cQ, z0, z1, z2, z3, vq] <;> rfl)
    · exact rt (eb4 z0 <| eb5 z1 <| kj <| ef6 <| e0) (by simp only [cQ, z0, z1, vq] <;> rfl)
  · exact rt (eb4 z0 <| kj <| qu <| e0) (by simp only [cQ, z0, vq] <;> rfl)
theorem wI (h : He) (k : Nat) : ag PP GL XX HH NN (k + 6) 149 [A.agg (He.cs h)] [] = some ([Res.c (st (iZ h).1), Res.c (ii (iZ h).2)], []) := by
  rcases bft (cQ h) with z0 | z0
  · exact rt (ec (cn h k) <| en z0 <| ec (C6 h.inc h.was h.dis h.pri (k + 4)) <| ep (rfl : some ([IntKind.wrap .u8 h.blocks, fl h.inc (1 : Int) + fl h.was (2 : Int) + fl h.dis (4 : Int) + fl h.pri (8 : Int)]) = some ([IntKind.wrap .u8 h.blocks, fl h.inc (1 : Int) + fl h.was (2 : Int) + fl h.dis (4 : Int) + fl h.pri (8 : Int)])) <| eg (G.str [IntKind.wrap .u8 h.blocks, fl h.inc 1 + fl h.was 2 + fl h.dis 4 + fl h.pri 8]) <| ec (kK h.v.cur (k + 3)) <| ep (show ByteArray.size (bH [IntKind.wrap .u8 h.blocks, fl h.inc (1 : Int) + fl h.was (2 : Int) + fl h.dis (4 : Int) + fl h.pri (8 : Int)]) + ByteArray.size (dO h.v.cur) ≤ 9223372036854775807 from by first | omega | (simp only [vu] at *; omega)) <| eg (G.ok) <| ec (kK h.v.bit (k + 3)) <| ep (show ByteArray.size (bH [IntKind.wrap .u8 h.blocks, fl h.inc (1 : Int) + fl h.was (2 : Int) + fl h.dis (4 : Int) + fl h.pri (8 : Int)] ++ dO h.v.cur) + ByteArray.size (dO h.v.bit) ≤ 9223372036854775807 from by first | omega | (simp only [vu] at *; omega)) <| eg (G.ok) <| ec (kK h.v.o0 (k + 3)) <| ep (show ByteArray.size (bH [IntKind.wrap .u8 h.blocks, fl h.inc (1 : Int) + fl h.was (2 : Int) + fl h.dis (4 : Int) + fl h.pri (8 : Int)] ++ dO h.v.cur ++ dO h.v.bit) + ByteArray.size (dO h.v.o0) ≤ 9223372036854775807 from by first | omega | (simp only [vu] at *; omega)) <| eg (G.ok) <| ec (kK h.v.o1 (k + 3)) <| ep (show ByteArray.size (bH [IntKind.wrap .u8 h.blocks, fl h.inc (1 : Int) + fl h.was (2 : Int) + fl h.dis (4 : Int) + fl h.pri (8 : Int)] ++ dO h.v.cur ++ dO h.v.bit ++ dO h.v.o0) + ByteArray.size (dO h.v.o1) ≤ 9223372036854775807 from by first | omega | (simp only [vu] at *; omega)) <| eg (G.ok) <| ec (re (mi h.mask) (k + 3)) <| ep (show ByteArray.size (bH [IntKind.wrap .u8 h.blocks, fl h.inc (1 : Int) + fl h.was (2 : Int) + fl h.dis (4 : Int) + fl h.pri (8 : Int)] ++ dO h.v.cur ++ dO h.v.bit ++ dO h.v.o0 ++ dO h.v.o1) + ByteArray.size (cZ (mi h.mask)) ≤ 9223372036854775807 from by first | omega | (simp only [vu] at *; omega)) <| eg (G.ok) <| e0) (by simp only [iZ, jN, z0, vq] <;> rfl)
  · exact rt (ec (cn h k) <| en z0 <| e0) (by simp only [iZ, jN, z0, vq] <;> rfl)
theorem vl (t : ByteArray) (a : Nat) (hw : IntKind.wrap .i64 ((↑a : Int) + 8) = (↑(a + 8) : Int)) (hl : a ≤ a + 8) (hs : a + 8 ≤ t.size) (he : ByteArray.size (ByteArray.extract t a (a + 8)) = 8) (k : Nat) : ag PP GL XX HH NN (k + 3) 145 [A.c (st t), A.c (ii (↑a : Int))] [] = some ([Res.c (u (bf t a))], []) := by
  exact rt (ep hw <| ep (rfl : (↑a : Int) = (↑a : Int)) <| ep hl <| ep hs <| eg (G.cut a (a + 8) []) <| ec (hU (ByteArray.extract t a (a + 8)) he k) <| e0) (by simp only [bf, vq] <;> rfl)
theorem kR (t : ByteArray) (a : Nat) (ha : a ≤ 1000) (h : a + 8 ≤ t.size) (k : Nat) : ag PP GL XX HH NN (k + 3) 145 [.c (st t), .c (ii (a : Int))] [] = some ([.c (u (bf t a))], []) :=
  vl t a (by rw [cI (by omega) (by omega)]; omega) (by omega) h (by rw [ByteArray.size_extract]; omega) k
theorem DA (t : ByteArray) (h : t.size = 38) (k : Nat) : ag PP GL XX HH NN (k + 3) 145 [.c (st t), .c (ii 2)] [] = some ([.c (u (bf t 2))], []) := kR t 2 (by omega) (by omega) k
theorem zT (t : ByteArray) (h : t.size = 38) (k : Nat) : ag PP GL XX HH NN (k + 3) 145 [.c (st t), .c (ii 10)] [] = some ([.c (u (bf t 10))], []) := kR t 10 (by omega) (by omega) k
theorem Au (t : ByteArray) (h : t.size = 38) (k : Nat) : ag PP GL XX HH NN (k + 3) 145 [.c (st t), .c (ii 18)] [] = some ([.c (u (bf t 18))], []) := kR t 18 (by omega) (by omega) k
theorem Aq (t : ByteArray) (h : t.size = 38) (k : Nat) : ag PP GL XX HH NN (k + 3) 145 [.c (st t), .c (ii 26)] [] = some ([.c (u (bf t 26))], []) := kR t 26 (by omega) (by omega) k
theorem CH (b : ByteArray) (h1 : ((↑(b.size) : Int) == 38) = false) (k : Nat) : ag PP GL XX HH NN (k + 6) 115 [A.c (st b)] [] = some ([Res.agg (He.cs (eQ b).1), Res.c (ii (eQ b).2)], []) := by
  exact rt (en4 h1 <| et <| e0) (by simp only [eQ, h1, vq] <;> rfl)
theorem Dg (b : ByteArray) (h1 : ((↑(b.size) : Int) == 38) = true) (h2 : b[1]? = some (ac b 1)) (h3 : decide ((↑(UInt8.toNat (ac b 1)) : Int) > 15) = true) (k : Nat) : ag PP GL XX HH NN (k + 6) 115 [A.c (st b)] [] = some ([Res.agg (He.cs (eQ b).1), Res.c (ii (eQ b).2)], []) := by
  exact rt (en2 h1 <| ep (rfl : (1 : Int) = (1 : Int)) <| ep h2 <| eg (G.byte 1 (ac b 1)) <| en2 h1 <| eb h3 <| e0) (by simp only [eQ, h1, h3, vq] <;> rfl)
theorem C9 (b : ByteArray) (h1 : ((↑(b.size) : Int) == 38) = true) (hs : b.size = 38) (h0 : b[0]? = some (ac b 0)) (h2 : b[1]? = some (ac b 1)) (h3 : decide ((↑(UInt8.toNat (ac b 1)) : Int) > 15) = false) (h4 : UInt8.toNat (ac b 1) ≤ 15) (h5 : ByteArray.size (ByteArray.extract b 34 (b.size)) = 4) (k : Nat) : ag PP GL XX HH NN (k + 6) 115 [A.c (st b)] [] = some ([Res.agg (He.cs (eQ b).1), Res.c (ii (eQ b).2)], []) := by
  rcases bft (cQ (He.mk (IntKind.wrap .i64 (↑(UInt8.toNat (ac b 0)) : Int)) ((Ve.mk (bf b 2) (bf b 10) (bf b 18) (bf b 26))) (aI (ac b 1) 0) (aI (ac b 1) 1) (aI (ac b 1) 2) (aI (ac b 1) 3) (BitVec.ofInt 32 (dY (Array.toList (ByteArray.data (ByteArray.extract b 34 (b.size)))))))) with z0 | z0
  · exact rt (en2 h1 <| ep (rfl : (1 : Int) = (1 : Int)) <| ep h2 <| eg (G.byte 1 (ac b 1)) <| en2 h1 <| eb h3 <| ep (rfl : (1 : Int) = (1 : Int)) <| ep h2 <| eg (G.byte 1 (ac b 1)) <| ec (vj (ac b 1) h4 (k + 4)) <| ep (rfl : b.size = b.size) <| ep (rfl : (34 : Int) = (34 : Int)) <| ep (show (34 : Nat) ≤ b.size from by omega) <| ep (show b.size ≤ b.size from by omega) <| eg (G.cut 34 (b.size) []) <| ec (rM (ByteArray.extract b 34 (b.size)) h5 (k + 3)) <| ep (rfl : (0 : Int) = (0 : Int)) <| ep h0 <| eg (G.byte 0 (ac b 0)) <| ep (rfl : (0 : Int) = (0 : Int)) <| ep (rfl : some ([bo (aI (ac b (1 : Nat)) (0 : Nat))]) = some ([bo (aI (ac b (1 : Nat)) (0 : Nat))])) <| eg (G.idx 0 [bo (aI (ac b 1) 0)]) <| ep (rfl : (1 : Int) = (1 : Int)) <| ep (rfl : some ([bo (aI (ac b (1 : Nat)) (1 : Nat))]) = some ([bo (aI (ac b (1 : Nat)) (1 : Nat))])) <| eg (G.idx 1 [bo (aI (ac b 1) 1)]) <| ep (rfl : (2 : Int) = (2 : Int)) <| ep (rfl : some ([bo (aI (ac b (1 : Nat)) (2 : Nat))]) = some ([bo (aI (ac b (1 : Nat)) (2 : Nat))])) <| eg (G.idx 2 [bo (aI (ac b 1) 2)]) <| ep (rfl : (3 : Int) = (3 : Int)) <| ep (rfl : some ([bo (aI (ac b (1 : Nat)) (3 : Nat))]) = some ([bo (aI (ac b (1 : Nat)) (3 : Nat))])) <| eg (G.idx 3 [bo (aI (ac b 1) 3)]) <| ec (DA b hs (k + 2)) <| ec (zT b hs (k + 2)) <| ec (Au b hs (k + 2)) <| ec (Aq b hs (k + 2)) <| ec (cn ((He.mk (IntKind.wrap .i64 (↑(UInt8.toNat (ac b 0)) : Int)) ((Ve.mk (bf b 2) (bf b 10) (bf b 18) (bf b 26))) (aI (ac b 1) 0) (aI (ac b 1) 1) (aI (ac b 1) 2) (aI (ac b 1) 3) (BitVec.ofInt 32 (dY (Array.toList (ByteArray.data (ByteArray.extract b 34 (b.size)))))))) k) <| en z0 <| e0) (by simp only [eQ, EJ, h1, h3, z0, vq] <;> rfl)
  · exact rt (en2 h1 <| ep (rfl : (1 : Int) = (1 : Int)) <| ep h2 <| eg (G.byte 1 (ac b 1)) <| en2 h1 <| eb h3 <| ep (rfl : (1 : Int) = (1 : Int)) <| ep h2 <| eg (G.byte 1 (ac b 1)) <| ec (vj (ac b 1) h4 (k + 4)) <| ep (rfl : b.size = b.size) <| ep (rfl : (34 : Int) = (34 : Int)) <| ep (show (34 : Nat) ≤ b.size from by omega) <| ep (show b.size ≤ b.size from by omega) <| eg (G.cut 34 (b.size) []) <| ec (rM (ByteArray.extract b 34 (b.size)) h5 (k + 3)) <| ep (rfl : (0 : Int) = (0 : Int)) <| ep h0 <| eg (G.byte 0 (ac b 0)) <| ep (rfl : (0 : Int) = (0 : Int)) <| ep (rfl : some ([bo (aI (ac b (1 : Nat)) (0 : Nat))]) = some ([bo (aI (ac b (1 : Nat)) (0 : Nat))])) <| eg (G.idx 0 [bo (aI (ac b 1) 0)]) <| ep (rfl : (1 : Int) = (1 : Int)) <| ep (rfl : some ([bo (aI (ac b (1 : Nat)) (1 : Nat))]) = some ([bo (aI (ac b (1 : Nat)) (1 : Nat))])) <| eg (G.idx 1 [bo (aI (ac b 1) 1)]) <| ep (rfl : (2 : Int) = (2 : Int)) <| ep (rfl : some ([bo (aI (ac b (1 : Nat)) (2 : Nat))]) = some ([bo (aI (ac b (1 : Nat)) (2 : Nat))])) <| eg (G.idx 2 [bo (aI (ac b 1) 2)]) <| ep (rfl : (3 : Int) = (3 : Int)) <| ep (rfl : some ([bo (aI (ac b (1 : Nat)) (3 : Nat))]) = some ([bo (aI (ac b (1 : Nat)) (3 : Nat))])) <| eg (G.idx 3 [bo (aI (ac b 1) 3)]) <| ec (DA b hs (k + 2)) <| ec (zT b hs (k + 2)) <| ec (Au b hs (k + 2)) <| ec (Aq b hs (k + 2)) <| ec (cn ((He.mk (IntKind.wrap .i64 (↑(UInt8.toNat (ac b 0)) : Int)) ((Ve.mk (bf b 2) (bf b 10) (bf b 18) (bf b 26))) (aI (ac b 1) 0) (aI (ac b 1) 1) (aI (ac b 1) 2) (aI (ac b 1) 3) (BitVec.ofInt 32 (dY (Array.toList (ByteArray.data (ByteArray.extract b 34 (b.size)))))))) k) <| en z0 <| e0) (by simp only [eQ, EJ, h1, h3, z0, vq] <;> rfl)
theorem oL (b : ByteArray) (k : Nat) : ag PP GL XX HH NN (k + 6) 115 [.c (st b)] [] = some ([.agg (eQ b).1.cs, .c (ii (eQ b).2)], []) := by
  cases h1 : (b.size : Int) == 38 with
  | false => exact CH b h1 k
  | true =>
    have hs : b.size = 38 := by have := eq_of_beq h1; omega
    have h2 := eo (s := b) (i := 1) (by omega)
    cases h3 : decide (((ac b 1).toNat : Int) > 15) with
    | true => exact Dg b h1 h2 h3 k
    | false =>
      have h4 := of_decide_eq_false h3
      exact C9 b h1 hs (eo (by omega)) h2 h3 (by omega) (by rw [ByteArray.size_extract]; omega) k
theorem bA (k' : Int) (k : Nat) : ag PP GL XX HH NN (k + 1) 116 [A.c (ii k')] [] = some ([Res.c (bo (bG k'))], []) := by
  rcases bft (decide (k' ≥ 2)) with z0 | z0
  · exact rt (eb3 z0 <| e0) (by simp only [bG, z0, vq] <;> rfl)
  · exact rt (eb3 z0 <| e0) (by simp only [bG, z0, vq] <;> rfl)
theorem ku (k' : Int) (k : Nat) : ag PP GL XX HH NN (k + 1) 147 [A.c (ii k')] [] = some ([Res.c (bo (eC k'))], []) := by
  rcases bft (k' == 2) with z0 | z0
  · exact rt (eb3 z0 <| e0) (by simp only [eC, z0, vq] <;> rfl)
  · exact rt (eb3 z0 <| e0) (by simp only [eC, z0, vq] <;> rfl)
theorem bN (p : Pk) (k : Nat) : ag PP GL XX HH NN (k + 6) 117 [A.agg (Pk.cs p)] [] = some ([Res.c (bo (bt p))], []) := by
  rcases bft (decide (Pk.kind p < 1)) with z0 | z0
  · exact rt (eb4 z0 <| et <| e0) (by simp only [bt, dp, z0, vq] <;> rfl)
  · rcases bft (decide (Pk.kind p > 13)) with z1 | z1
    · exact rt (eb4 z0 <| eb z1 <| e0) (by simp only [bt, dp, z0, z1, vq] <;> rfl)
    · rcases bft (Pk.kind p == 1) with z2 | z2
      · rcases bft (cQ p.hello) with z3 | z3
        · rcases bft (decide (Pk.block p < 0)) with z4 | z4
          · exact rt (eb4 z0 <| eb z1 <| eb3 z2 <| ec (cn p.hello k) <| eb2 z2 <| en4 z3 <| en4 z2 <| en z3 <| en z2 <| en z3 <| ef <| eb4 z4 <| et8 <| e0) (by simp only [bt, dp, z0, z1, z2, z3, z4, vq] <;> rfl)
          · rcases bft (decide (Pk.block p > 31)) with z5 | z5
            · exact rt (eb4 z0 <| eb z1 <| eb3 z2 <| ec (cn p.hello k) <| eb2 z2 <| en4 z3 <| en4 z2 <| en z3 <| en z2 <| en z3 <| ef <| eb4 z4 <| eb7 z5 <| et <| e0) (by simp only [bt, dp, z0, z1, z2, z3, z4, z5, vq] <;> rfl)
            · rcases bft (bG p.kind) with z6 | z6
              · rcases bft (eC p.kind) with z7 | z7
                · exact rt (eb4 z0 <| eb z1 <| eb3 z2 <| ec (cn p.hello k) <| eb2 z2 <| en4 z3 <| en4 z2 <| en z3 <| en z2 <| en z3 <| ef <| eb4 z4 <| eb3 z5 <| ec (bA p.kind (k + 4)) <| eb2 z5 <| en3 z6 <| eb z5 <| en z6 <| eb z5 <| ef <| ec (ku p.kind (k + 4)) <| eb z7 <| e0) (by simp only [bt, dp, z0, z1, z2, z3, z4, z5, z6, z7, vq] <;> rfl)
                · exact rt (eb4 z0 <| eb z1 <| eb3 z2 <| ec (cn p.hello k) <| eb2 z2 <| en4 z3 <| en4 z2 <| en z3 <| en z2 <| en z3 <| ef <| eb4 z4 <| eb3 z5 <| ec (bA p.kind (k + 4)) <| eb2 z5 <| en3 z6 <| eb z5 <| en z6 <| eb z5 <| ef <| ec (ku p.kind (k + 4)) <| eb z7 <| e0) (by simp only [bt, dp, z0, z1, z2, z3, z4, z5, z6, z7, vq] <;> rfl)
              · rcases bft (Pk.block p == 0) with z7 | z7
                · rcases bft (eC p.kind) with z8 | z8
                  · exact rt (eb4 z0 <| eb z1 <| eb3 z2 <| ec (cn p.hello k) <| eb2 z2 <| en4 z3 <| en4 z2 <| en z3 <| en z2 <| en z3 <| ef <| eb4 z4 <| eb3 z5 <| ec (bA p.kind (k + 4)) <| eb2 z5 <| en3 z6 <| eb z5 <| en z6 <| eb z5 <| en z7 <| ec (ku p.kind (k + 4)) <| eb z8 <| e0) (by simp only [bt, dp, z0, z1, z2, z3, z4, z5, z6, z7, z8, vq] <;> rfl)
                  · exact rt (eb4 z0 <| eb z1 <| eb3 z2 <| ec (cn p.hello k) <| eb2 z2 <| en4 z3 <| en4 z2 <| en z3 <| en z2 <| en z3 <| ef <| eb4 z4 <| eb3 z5 <| ec (bA p.kind (k + 4)) <| eb2 z5 <| en3 z6 <| eb z5 <| en z6 <| eb z5 <| en z7 <| ec (ku p.kind (k + 4)) <| eb z8 <| e0) (by simp only [bt, dp, z0, z1, z2, z3, z4, z5, z6, z7, z8, vq] <;> rfl)
                · exact rt (eb4 z0 <| eb z1 <| eb3 z2 <| ec (cn p.hello k) <| eb2 z2 <| en4 z3 <| en4 z2 <| en z3 <| en z2 <| en z3 <| ef <| eb4 z4 <| eb3 z5 <| ec (bA p.kind (k + 4)) <| eb2 z5 <| en3 z6 <| eb z5 <| en z6 <| eb z5 <| en z7 <| e0) (by simp only [bt, dp, z0, z1, z2, z3, z4, z5, z6, z7, vq] <;> rfl)
        · exact rt (eb4 z0 <| eb z1 <| eb3 z2 <| ec (cn p.hello k) <| eb2 z2 <| en6 z3 <| et <| e0) (by simp only [bt, dp, z0, z1, z2, z3, vq] <;> rfl)
      · rcases bft (He.blocks p.hello == 0 && (Ve.cur p.hello.v == 0 && (Ve.bit p.hello.v == 0 && (Ve.o0 p.hello.v == 0 && (Ve.o1 p.hello.v == 0 && true) && true)) && (He.inc p.hello == false && (He.was p.hello == false && (He.dis p.hello == false && (He.pri p.hello == false && (mi p.hello.mask == 0 && true))))))) with z3 | z3
        · rcases bft (decide (Pk.block p < 0)) with z4 | z4
          · exact rt (eb4 z0 <| eb z1 <| eb5 z2 <| ef4 <| en4 z2 <| ef <| en z2 <| ef <| en z3 <| eb4 z4 <| et8 <| e0) (by simp only [bt, dp, z0, z1, z2, z3, z4, vq] <;> rfl)
          · rcases bft (decide (Pk.block p > 31)) with z5 | z5
            · exact rt (eb4 z0 <| eb z1 <| eb5 z2 <| ef4 <| en4 z2 <| ef <| en z2 <| ef <| en z3 <| eb4 z4 <| eb7 z5 <| et <| e0) (by simp only [bt, dp, z0, z1, z2, z3, z4, z5, vq] <;> rfl)
            · rcases bft (bG p.kind) with z6 | z6
              · rcases bft (eC p.kind) with z7 | z7
                · exact rt (eb4 z0 <| eb z1 <| eb5 z2 <| ef4 <| en4 z2 <| ef <| en z2 <| ef <| en z3 <| eb4 z4 <| eb3 z5 <| ec (bA p.kind (k + 4)) <| eb2 z5 <| en3 z6 <| eb z5 <| en z6 <| eb z5 <| ef <| ec (ku p.kind (k + 4)) <| eb z7 <| e0) (by simp only [bt, dp, z0, z1, z2, z3, z4, z5, z6, z7, vq] <;> rfl)
                · exact rt (eb4 z0 <| eb z1 <| eb5 z2 <| ef4 <| en4 z2 <| ef <| en z2 <| ef <| en z3 <| eb4 z4 <| eb3 z5 <| ec (bA p.kind (k + 4)) <| eb2 z5 <| en3 z6 <| eb z5 <| en z6 <| eb z5 <| ef <| ec (ku p.kind (k + 4)) <| eb z7 <| e0) (by simp only [bt, dp, z0, z1, z2, z3, z4, z5, z6, z7, vq] <;> rfl)
              · rcases bft (Pk.block p == 0) with z7 | z7
                · rcases bft (eC p.kind) with z8 | z8
                  · exact rt (eb4 z0 <| eb z1 <| eb5 z2 <| ef4 <| en4 z2 <| ef <| en z2 <| ef <| en z3 <| eb4 z4 <| eb3 z5 <| ec (bA p.kind (k + 4)) <| eb2 z5 <| en3 z6 <| eb z5 <| en z6 <| eb z5 <| en z7 <| ec (ku p.kind (k + 4)) <| eb z8 <| e0) (by simp only [bt, dp, z0, z1, z2, z3, z4, z5, z6, z7, z8, vq] <;> rfl)
                  · exact rt (eb4 z0 <| eb z1 <| eb5 z2 <| ef4 <| en4 z2 <| ef <| en z2 <| ef <| en z3 <| eb4 z4 <| eb3 z5 <| ec (bA p.kind (k + 4)) <| eb2 z5 <| en3 z6 <| eb z5 <| en z6 <| eb z5 <| en z7 <| ec (ku p.kind (k + 4)) <| eb z8 <| e0) (by simp only [bt, dp, z0, z1, z2, z3, z4, z5, z6, z7, z8, vq] <;> rfl)
                · exact rt (eb4 z0 <| eb z1 <| eb5 z2 <| ef4 <| en4 z2 <| ef <| en z2 <| ef <| en z3 <| eb4 z4 <| eb3 z5 <| ec (bA p.kind (k + 4)) <| eb2 z5 <| en3 z6 <| eb z5 <| en z6 <| eb z5 <| en z7 <| e0) (by simp only [bt, dp, z0, z1, z2, z3, z4, z5, z6, z7, vq] <;> rfl)
        · exact rt (eb4 z0 <| eb z1 <| eb5 z2 <| ef4 <| en4 z2 <| ef <| en z2 <| ef <| en z3 <| e0) (by simp only [bt, dp, z0, z1, z2, z3, vq] <;> rfl)
end Go.Dm
namespace Go.Dm
open Go
set_option maxHeartbeats 1000000
theorem tS (p : Pk) (hh : ByteArray.size (iZ p.hello).1 ≤ 38) (hd : p.data.size ≤ 1000000) (k : Nat) : ag PP GL XX HH NN (k + 7) 118 [A.agg (Pk.cs p)] [] = some ([Res.c (st (cw p))], []) := by
  rcases bft (Pk.kind p == 1) with z0 | z0
  · rcases bft (bG p.kind) with z1 | z1
    · exact rt (ep (rfl : some ([IntKind.wrap .u8 p.kind]) = some ([IntKind.wrap .u8 p.kind])) <| eg (G.str [IntKind.wrap .u8 p.kind]) <| ec (kK p.ses (k + 4)) <| ep (show ByteArray.size (bH [IntKind.wrap .u8 p.kind]) + ByteArray.size (dO p.ses) ≤ 9223372036854775807 from by first | omega | (simp only [vu] at *; omega)) <| eg (G.ok) <| eb z0 <| ec (wI p.hello k) <| ep (show ByteArray.size (bH [IntKind.wrap .u8 p.kind] ++ dO p.ses) + ByteArray.size (iZ p.hello).1 ≤ 9223372036854775807 from by first | omega | (simp only [vu] at *; omega)) <| eg (G.ok) <| ec (bA p.kind (k + 5)) <| eb z1 <| ep (rfl : some ([IntKind.wrap .u8 p.block]) = some ([IntKind.wrap .u8 p.block])) <| eg (G.str [IntKind.wrap .u8 p.block]) <| ep (show ByteArray.size (bH [IntKind.wrap .u8 p.kind] ++ dO p.ses ++ Prod.fst (iZ p.hello)) + ByteArray.size (bH [IntKind.wrap .u8 p.block]) ≤ 9223372036854775807 from by first | omega | (simp only [vu] at *; omega)) <| eg (G.ok) <| ep (show ByteArray.size (bH [IntKind.wrap .u8 p.kind] ++ dO p.ses ++ Prod.fst (iZ p.hello) ++ bH [IntKind.wrap .u8 p.block]) + p.data.size ≤ 9223372036854775807 from by first | omega | (simp only [vu] at *; omega)) <| eg (G.ok) <| e0) (by simp only [cw, jl, z0, z1, vq] <;> rfl)
    · exact rt (ep (rfl : some ([IntKind.wrap .u8 p.kind]) = some ([IntKind.wrap .u8 p.kind])) <| eg (G.str [IntKind.wrap .u8 p.kind]) <| ec (kK p.ses (k + 4)) <| ep (show ByteArray.size (bH [IntKind.wrap .u8 p.kind]) + ByteArray.size (dO p.ses) ≤ 9223372036854775807 from by first | omega | (simp only [vu] at *; omega)) <| eg (G.ok) <| eb z0 <| ec (wI p.hello k) <| ep (show ByteArray.size (bH [IntKind.wrap .u8 p.kind] ++ dO p.ses) + ByteArray.size (iZ p.hello).1 ≤ 9223372036854775807 from by first | omega | (simp only [vu] at *; omega)) <| eg (G.ok) <| ec (bA p.kind (k + 5)) <| eb z1 <| ep (show ByteArray.size (bH [IntKind.wrap .u8 p.kind] ++ dO p.ses ++ Prod.fst (iZ p.hello)) + p.data.size ≤ 9223372036854775807 from by first | omega | (simp only [vu] at *; omega)) <| eg (G.ok) <| e0) (by simp only [cw, jl, z0, z1, vq] <;> rfl)
  · rcases bft (bG p.kind) with z1 | z1
    · exact rt (ep (rfl : some ([IntKind.wrap .u8 p.kind]) = some ([IntKind.wrap .u8 p.kind])) <| eg (G.str [IntKind.wrap .u8 p.kind]) <| ec (kK p.ses (k + 4)) <| ep (show ByteArray.size (bH [IntKind.wrap .u8 p.kind]) + ByteArray.size (dO p.ses) ≤ 9223372036854775807 from by first | omega | (simp only [vu] at *; omega)) <| eg (G.ok) <| eb z0 <| ec (bA p.kind (k + 5)) <| eb z1 <| ep (rfl : some ([IntKind.wrap .u8 p.block]) = some ([IntKind.wrap .u8 p.block])) <| eg (G.str [IntKind.wrap .u8 p.block]) <| ep (show ByteArray.size (bH [IntKind.wrap .u8 p.kind] ++ dO p.ses) + ByteArray.size (bH [IntKind.wrap .u8 p.block]) ≤ 9223372036854775807 from by first | omega | (simp only [vu] at *; omega)) <| eg (G.ok) <| ep (show ByteArray.size (bH [IntKind.wrap .u8 p.kind] ++ dO p.ses ++ bH [IntKind.wrap .u8 p.block]) + p.data.size ≤ 9223372036854775807 from by first | omega | (simp only [vu] at *; omega)) <| eg (G.ok) <| e0) (by simp only [cw, jl, z0, z1, vq] <;> rfl)
    · exact rt (ep (rfl : some ([IntKind.wrap .u8 p.kind]) = some ([IntKind.wrap .u8 p.kind])) <| eg (G.str [IntKind.wrap .u8 p.kind]) <| ec (kK p.ses (k + 4)) <| ep (show ByteArray.size (bH [IntKind.wrap .u8 p.kind]) + ByteArray.size (dO p.ses) ≤ 9223372036854775807 from by first | omega | (simp only [vu] at *; omega)) <| eg (G.ok) <| eb z0 <| ec (bA p.kind (k + 5)) <| eb z1 <| ep (show ByteArray.size (bH [IntKind.wrap .u8 p.kind] ++ dO p.ses) + p.data.size ≤ 9223372036854775807 from by first | omega | (simp only [vu] at *; omega)) <| eg (G.ok) <| e0) (by simp only [cw, jl, z0, z1, vq] <;> rfl)
theorem dw (p : Pk) (hd : p.data.size ≤ 1000000) (k : Nat) : ag PP GL XX HH NN (k + 7) 118 [.agg p.cs] [] = some ([.c (st (cw p))], []) := tS p (jR _) hd k
theorem qY (p : Pk) : (jl p).size ≤ 48 := by
  have h := jR p.hello
  unfold jl
  cases bG p.kind <;> cases p.kind == 1 <;> simp only [cond_true, cond_false, ByteArray.size_append, cW, bX, List.length_cons, List.length_nil] <;> omega
theorem pm (p : Pk) : (cw p).size ≤ p.data.size + 48 := by
  have := qY p
  unfold cw
  rw [ByteArray.size_append]
  omega
theorem yi (p : Pk) (hd : p.data.size ≤ 900000) (hz : ByteArray.size (cw p) ≤ 1000000) (k : Nat) : ag PP GL XX HH NN (k + 8) 96 [A.agg (Pk.cs p)] [] = some ([Res.c (st (jy p).1), Res.c (ii (jy p).2)], []) := by
  rcases bft (bt p) with z0 | z0
  · exact rt (ec (bN p (k + 1)) <| en z0 <| ec (dw p (show p.data.size ≤ 1000000 from by first | omega | (simp only [vu] at *; omega)) k) <| ec (oQ (cw p) hz (k + 3)) <| e0) (by simp only [jy, z0, vq] <;> rfl)
  · exact rt (ec (bN p (k + 1)) <| en z0 <| e0) (by simp only [jy, z0, vq] <;> rfl)
theorem BY (p : Pk) (hd : p.data.size ≤ 900000) (k : Nat) : ag PP GL XX HH NN (k + 8) 96 [.agg p.cs] [] = some ([.c (st (jy p).1), .c (ii (jy p).2)], []) := yi p hd (by have := pm p; omega) k
theorem CL (b : ByteArray) (hb : b.size ≤ 800000) (h1 : (Prod.snd (aa b) == 0) = false) (k : Nat) : ag PP GL XX HH NN (k + 8) 83 [A.c (st b)] [] = some ([Res.agg (Pk.cs (cx b).1), Res.c (ii (cx b).2)], []) := by
  exact rt (ec (dU b (show b.size ≤ 1000000 from by omega) (k + 2)) <| en h1 <| e0) (by simp only [cx, h1, vq] <;> rfl)
theorem DB (b : ByteArray) (hb : b.size ≤ 800000) (h1 : (Prod.snd (aa b) == 0) = true) (h2 : decide ((↑(ByteArray.size (aa b).1) : Int) < 9) = true) (k : Nat) : ag PP GL XX HH NN (k + 8) 83 [A.c (st b)] [] = some ([Res.agg (Pk.cs (cx b).1), Res.c (ii (cx b).2)], []) := by
  exact rt (ec (dU b (show b.size ≤ 1000000 from by omega) (k + 2)) <| en h1 <| eb h2 <| e0) (by simp only [cx, eM, h1, h2, vq] <;> rfl)
theorem Ew (b : ByteArray) (hb : b.size ≤ 800000) (h1 : (Prod.snd (aa b) == 0) = true) (h2 : decide ((↑(ByteArray.size (aa b).1) : Int) < 9) = false) (hs : (9 : Nat) ≤ ByteArray.size (aa b).1) (hs2 : ByteArray.size (aa b).1 ≤ 800000) (h3 : (aa b).1[0]? = some (ac (aa b).1 0)) (h4 : ByteArray.size (ByteArray.extract (aa b).1 1 9) = 8) (h5 : (IntKind.wrap .i64 (↑(UInt8.toNat (ac (aa b).1 0)) : Int) == 1) = true) (h6 : bG (IntKind.wrap .i64 (↑(UInt8.toNat (ac (aa b).1 0)) : Int)) = false) (k : Nat) : ag PP GL XX HH NN (k + 8) 83 [A.c (st b)] [] = some ([Res.agg (Pk.cs (cx b).1), Res.c (ii (cx b).2)], []) := by
  rcases bft (Prod.snd (eQ (ByteArray.extract (aa b).1 9 (ByteArray.size (aa b).1))) == 0) with z0 | z0
  · rcases bft (bt (Pk.mk (IntKind.wrap .i64 (↑(UInt8.toNat (ac (aa b).1 0)) : Int)) (dY (Array.toList (ByteArray.data (ByteArray.extract (aa b).1 1 9)))) (eQ (ByteArray.extract (aa b).1 9 (ByteArray.size (aa b).1))).1 0 ⟨#[]⟩)) with z1 | z1
    · rcases bft (cw (Pk.mk (IntKind.wrap .i64 (↑(UInt8.toNat (ac (aa b).1 0)) : Int)) (dY (Array.toList (ByteArray.data (ByteArray.extract (aa b).1 1 9)))) (eQ (ByteArray.extract (aa b).1 9 (ByteArray.size (aa b).1))).1 0 ⟨#[]⟩) == Prod.fst (aa b)) with z2 | z2
      · exact rt (ec (dU b (show b.size ≤ 1000000 from by omega) (k + 2)) <| en h1 <| eb h2 <| ep (rfl : (9 : Int) = (9 : Int)) <| ep (rfl : (1 : Int) = (1 : Int)) <| ep (show (1 : Nat) ≤ 9 from by decide) <| ep hs <| eg (G.cut 1 9 []) <| ec (hU (ByteArray.extract (aa b).1 1 9) h4 (k + 5)) <| ep (rfl : (0 : Int) = (0 : Int)) <| ep h3 <| eg (G.byte 0 (ac (aa b).1 0)) <| ep (rfl : ByteArray.size (aa b).1 = ByteArray.size (aa b).1) <| ep (rfl : (9 : Int) = (9 : Int)) <| ep hs <| ep (show ByteArray.size (aa b).1 ≤ ByteArray.size (aa b).1 from by omega) <| eg (G.cut 9 (ByteArray.size (aa b).1) []) <| eb h5 <| ec (oL (ByteArray.extract (aa b).1 9 (ByteArray.size (aa b).1)) (k + 1)) <| en z0 <| ec (bA (IntKind.wrap .i64 (↑(UInt8.toNat (ac (aa b).1 0)) : Int)) (k + 6)) <| eb4 h6 <| ef <| ec (bN ((Pk.mk (IntKind.wrap .i64 (↑(UInt8.toNat (ac (aa b).1 0)) : Int)) (dY (Array.toList (ByteArray.data (ByteArray.extract (aa b).1 1 9)))) (eQ (ByteArray.extract (aa b).1 9 (ByteArray.size (aa b).1))).1 0 ⟨#[]⟩)) (k + 1)) <| en2 z1 <| ec (dw ((Pk.mk (IntKind.wrap .i64 (↑(UInt8.toNat (ac (aa b).1 0)) : Int)) (dY (Array.toList (ByteArray.data (ByteArray.extract (aa b).1 1 9)))) (eQ (ByteArray.extract (aa b).1 9 (ByteArray.size (aa b).1))).1 0 ⟨#[]⟩)) (show ByteArray.size ⟨#[]⟩ ≤ 1000000 from by decide) k) <| en3 z1 <| en z2 <| e0) (by simp only [cx, eM, qt, h1, h2, h5, z0, z1, z2, vq] <;> rfl)
      · exact rt (ec (dU b (show b.size ≤ 1000000 from by omega) (k + 2)) <| en h1 <| eb h2 <| ep (rfl : (9 : Int) = (9 : Int)) <| ep (rfl : (1 : Int) = (1 : Int)) <| ep (show (1 : Nat) ≤ 9 from by decide) <| ep hs <| eg (G.cut 1 9 []) <| ec (hU (ByteArray.extract (aa b).1 1 9) h4 (k + 5)) <| ep (rfl : (0 : Int) = (0 : Int)) <| ep h3 <| eg (G.byte 0 (ac (aa b).1 0)) <| ep (rfl : ByteArray.size (aa b).1 = ByteArray.size (aa b).1) <| ep (rfl : (9 : Int) = (9 : Int)) <| ep hs <| ep (show ByteArray.size (aa b).1 ≤ ByteArray.size (aa b).1 from by omega) <| eg (G.cut 9 (ByteArray.size (aa b).1) []) <| eb h5 <| ec (oL (ByteArray.extract (aa b).1 9 (ByteArray.size (aa b).1)) (k + 1)) <| en z0 <| ec (bA (IntKind.wrap .i64 (↑(UInt8.toNat (ac (aa b).1 0)) : Int)) (k + 6)) <| eb4 h6 <| ef <| ec (bN ((Pk.mk (IntKind.wrap .i64 (↑(UInt8.toNat (ac (aa b).1 0)) : Int)) (dY (Array.toList (ByteArray.data (ByteArray.extract (aa b).1 1 9)))) (eQ (ByteArray.extract (aa b).1 9 (ByteArray.size (aa b).1))).1 0 ⟨#[]⟩)) (k + 1)) <| en2 z1 <| ec (dw ((Pk.mk (IntKind.wrap .i64 (↑(UInt8.toNat (ac (aa b).1 0)) : Int)) (dY (Array.toList (ByteArray.data (ByteArray.extract (aa b).1 1 9)))) (eQ (ByteArray.extract (aa b).1 9 (ByteArray.size (aa b).1))).1 0 ⟨#[]⟩)) (show ByteArray.size ⟨#[]⟩ ≤ 1000000 from by decide) k) <| en3 z1 <| en z2 <| e0) (by simp only [cx, eM, qt, h1, h2, h5, z0, z1, z2, vq] <;> rfl)
    · exact rt (ec (dU b (show b.size ≤ 1000000 from by omega) (k + 2)) <| en h1 <| eb h2 <| ep (rfl : (9 : Int) = (9 : Int)) <| ep (rfl : (1 : Int) = (1 : Int)) <| ep (show (1 : Nat) ≤ 9 from by decide) <| ep hs <| eg (G.cut 1 9 []) <| ec (hU (ByteArray.extract (aa b).1 1 9) h4 (k + 5)) <| ep (rfl : (0 : Int) = (0 : Int)) <| ep h3 <| eg (G.byte 0 (ac (aa b).1 0)) <| ep (rfl : ByteArray.size (aa b).1 = ByteArray.size (aa b).1) <| ep (rfl : (9 : Int) = (9 : Int)) <| ep hs <| ep (show ByteArray.size (aa b).1 ≤ ByteArray.size (aa b).1 from by omega) <| eg (G.cut 9 (ByteArray.size (aa b).1) []) <| eb h5 <| ec (oL (ByteArray.extract (aa b).1 9 (ByteArray.size (aa b).1)) (k + 1)) <| en z0 <| ec (bA (IntKind.wrap .i64 (↑(UInt8.toNat (ac (aa b).1 0)) : Int)) (k + 6)) <| eb4 h6 <| ef <| ec (bN ((Pk.mk (IntKind.wrap .i64 (↑(UInt8.toNat (ac (aa b).1 0)) : Int)) (dY (Array.toList (ByteArray.data (ByteArray.extract (aa b).1 1 9)))) (eQ (ByteArray.extract (aa b).1 9 (ByteArray.size (aa b).1))).1 0 ⟨#[]⟩)) (k + 1)) <| en5 z1 <| et <| e0) (by simp only [cx, eM, qt, h1, h2, h5, z0, z1, vq] <;> rfl)
  · exact rt (ec (dU b (show b.size ≤ 1000000 from by omega) (k + 2)) <| en h1 <| eb h2 <| ep (rfl : (9 : Int) = (9 : Int)) <| ep (rfl : (1 : Int) = (1 : Int)) <| ep (show (1 : Nat) ≤ 9 from by decide) <| ep hs <| eg (G.cut 1 9 []) <| ec (hU (ByteArray.extract (aa b).1 1 9) h4 (k + 5)) <| ep (rfl : (0 : Int) = (0 : Int)) <| ep h3 <| eg (G.byte 0 (ac (aa b).1 0)) <| ep (rfl : ByteArray.size (aa b).1 = ByteArray.size (aa b).1) <| ep (rfl : (9 : Int) = (9 : Int)) <| ep hs <| ep (show ByteArray.size (aa b).1 ≤ ByteArray.size (aa b).1 from by omega) <| eg (G.cut 9 (ByteArray.size (aa b).1) []) <| eb h5 <| ec (oL (ByteArray.extract (aa b).1 9 (ByteArray.size (aa b).1)) (k + 1)) <| en z0 <| e0) (by simp only [cx, eM, qt, h1, h2, h5, z0, vq] <;> rfl)
theorem C0 (b : ByteArray) (hb : b.size ≤ 800000) (h1 : (Prod.snd (aa b) == 0) = true) (h2 : decide ((↑(ByteArray.size (aa b).1) : Int) < 9) = false) (hs : (9 : Nat) ≤ ByteArray.size (aa b).1) (hs2 : ByteArray.size (aa b).1 ≤ 800000) (h3 : (aa b).1[0]? = some (ac (aa b).1 0)) (h4 : ByteArray.size (ByteArray.extract (aa b).1 1 9) = 8) (h5 : (IntKind.wrap .i64 (↑(UInt8.toNat (ac (aa b).1 0)) : Int) == 1) = false) (h6 : bG (IntKind.wrap .i64 (↑(UInt8.toNat (ac (aa b).1 0)) : Int)) = false) (h7 : ByteArray.size (ByteArray.extract (aa b).1 9 (ByteArray.size (aa b).1)) ≤ 800000) (k : Nat) : ag PP GL XX HH NN (k + 8) 83 [A.c (st b)] [] = some ([Res.agg (Pk.cs (cx b).1), Res.c (ii (cx b).2)], []) := by
  rcases bft (bt (Pk.mk (IntKind.wrap .i64 (↑(UInt8.toNat (ac (aa b).1 0)) : Int)) (dY (Array.toList (ByteArray.data (ByteArray.extract (aa b).1 1 9)))) hz0 0 (ByteArray.extract (aa b).1 9 (ByteArray.size (aa b).1)))) with z0 | z0
  · rcases bft (cw (Pk.mk (IntKind.wrap .i64 (↑(UInt8.toNat (ac (aa b).1 0)) : Int)) (dY (Array.toList (ByteArray.data (ByteArray.extract (aa b).1 1 9)))) hz0 0 (ByteArray.extract (aa b).1 9 (ByteArray.size (aa b).1))) == Prod.fst (aa b)) with z1 | z1
    · exact rt (ec (dU b (show b.size ≤ 1000000 from by omega) (k + 2)) <| en h1 <| eb h2 <| ep (rfl : (9 : Int) = (9 : Int)) <| ep (rfl : (1 : Int) = (1 : Int)) <| ep (show (1 : Nat) ≤ 9 from by decide) <| ep hs <| eg (G.cut 1 9 []) <| ec (hU (ByteArray.extract (aa b).1 1 9) h4 (k + 5)) <| ep (rfl : (0 : Int) = (0 : Int)) <| ep h3 <| eg (G.byte 0 (ac (aa b).1 0)) <| ep (rfl : ByteArray.size (aa b).1 = ByteArray.size (aa b).1) <| ep (rfl : (9 : Int) = (9 : Int)) <| ep hs <| ep (show ByteArray.size (aa b).1 ≤ ByteArray.size (aa b).1 from by omega) <| eg (G.cut 9 (ByteArray.size (aa b).1) []) <| eb h5 <| ec (bA (IntKind.wrap .i64 (↑(UInt8.toNat (ac (aa b).1 0)) : Int)) (k + 6)) <| eb4 h6 <| ef <| ec (bN ((Pk.mk (IntKind.wrap .i64 (↑(UInt8.toNat (ac (aa b).1 0)) : Int)) (dY (Array.toList (ByteArray.data (ByteArray.extract (aa b).1 1 9)))) hz0 0 (ByteArray.extract (aa b).1 9 (ByteArray.size (aa b).1)))) (k + 1)) <| en2 z0 <| ec (dw ((Pk.mk (IntKind.wrap .i64 (↑(UInt8.toNat (ac (aa b).1 0)) : Int)) (dY (Array.toList (ByteArray.data (ByteArray.extract (aa b).1 1 9)))) hz0 0 (ByteArray.extract (aa b).1 9 (ByteArray.size (aa b).1)))) (show ByteArray.size (ByteArray.extract (aa b).1 (9 : Nat) (ByteArray.size (aa b).1)) ≤ 1000000 from by first | omega | (simp only [vu] at *; omega)) k) <| en3 z0 <| en z1 <| e0) (by simp only [cx, eM, qt, he0, h1, h2, h5, h6, z0, z1, vq] <;> rfl)
    · exact rt (ec (dU b (show b.size ≤ 1000000 from by omega) (k + 2)) <| en h1 <| eb h2 <| ep (rfl : (9 : Int) = (9 : Int)) <| ep (rfl : (1 : Int) = (1 : Int)) <| ep (show (1 : Nat) ≤ 9 from by decide) <| ep hs <| eg (G.cut 1 9 []) <| ec (hU (ByteArray.extract (aa b).1 1 9) h4 (k + 5)) <| ep (rfl : (0 : Int) = (0 : Int)) <| ep h3 <| eg (G.byte 0 (ac (aa b).1 0)) <| ep (rfl : ByteArray.size (aa b).1 = ByteArray.size (aa b).1) <| ep (rfl : (9 : Int) = (9 : Int)) <| ep hs <| ep (show ByteArray.size (aa b).1 ≤ ByteArray.size (aa b).1 from by omega) <| eg (G.cut 9 (ByteArray.size (aa b).1) []) <| eb h5 <| ec (bA (IntKind.wrap .i64 (↑(UInt8.toNat (ac (aa b).1 0)) : Int)) (k + 6)) <| eb4 h6 <| ef <| ec (bN ((Pk.mk (IntKind.wrap .i64 (↑(UInt8.toNat (ac (aa b).1 0)) : Int)) (dY (Array.toList (ByteArray.data (ByteArray.extract (aa b).1 1 9)))) hz0 0 (ByteArray.extract (aa b).1 9 (ByteArray.size (aa b).1)))) (k + 1)) <| en2 z0 <| ec (dw ((Pk.mk (IntKind.wrap .i64 (↑(UInt8.toNat (ac (aa b).1 0)) : Int)) (dY (Array.toList (ByteArray.data (ByteArray.extract (aa b).1 1 9)))) hz0 0 (ByteArray.extract (aa b).1 9 (ByteArray.size (aa b).1)))) (show ByteArray.size (ByteArray.extract (aa b).1 (9 : Nat) (ByteArray.size (aa b).1)) ≤ 1000000 from by first | omega | (simp only [vu] at *; omega)) k) <| en3 z0 <| en z1 <| e0) (by simp only [cx, eM, qt, he0, h1, h2, h5, h6, z0, z1, vq] <;> rfl)
  · exact rt (ec (dU b (show b.size ≤ 1000000 from by omega) (k + 2)) <| en h1 <| eb h2 <| ep (rfl : (9 : Int) = (9 : Int)) <| ep (rfl : (1 : Int) = (1 : Int)) <| ep (show (1 : Nat) ≤ 9 from by decide) <| ep hs <| eg (G.cut 1 9 []) <| ec (hU (ByteArray.extract (aa b).1 1 9) h4 (k + 5)) <| ep (rfl : (0 : Int) = (0 : Int)) <| ep h3 <| eg (G.byte 0 (ac (aa b).1 0)) <| ep (rfl : ByteArray.size (aa b).1 = ByteArray.size (aa b).1) <| ep (rfl : (9 : Int) = (9 : Int)) <| ep hs <| ep (show ByteArray.size (aa b).1 ≤ ByteArray.size (aa b).1 from by omega) <| eg (G.cut 9 (ByteArray.size (aa b).1) []) <| eb h5 <| ec (bA (IntKind.wrap .i64 (↑(UInt8.toNat (ac (aa b).1 0)) : Int)) (k + 6)) <| eb4 h6 <| ef <| ec (bN ((Pk.mk (IntKind.wrap .i64 (↑(UInt8.toNat (ac (aa b).1 0)) : Int)) (dY (Array.toList (ByteArray.data (ByteArray.extract (aa b).1 1 9)))) hz0 0 (ByteArray.extract (aa b).1 9 (ByteArray.size (aa b).1)))) (k + 1)) <| en5 z0 <| et <| e0) (by simp only [cx, eM, qt, he0, h1, h2, h5, h6, z0, vq] <;> rfl)
theorem DQ (b : ByteArray) (hb : b.size ≤ 800000) (h1 : (Prod.snd (aa b) == 0) = true) (h2 : decide ((↑(ByteArray.size (aa b).1) : Int) < 9) = false) (hs : (9 : Nat) ≤ ByteArray.size (aa b).1) (hs2 : ByteArray.size (aa b).1 ≤ 800000) (h3 : (aa b).1[0]? = some (ac (aa b).1 0)) (h4 : ByteArray.size (ByteArray.extract (aa b).1 1 9) = 8) (h5 : (IntKind.wrap .i64 (↑(UInt8.toNat (ac (aa b).1 0)) : Int) == 1) = false) (h6 : bG (IntKind.wrap .i64 (↑(UInt8.toNat (ac (aa b).1 0)) : Int)) = true) (h7 : ByteArray.size (ByteArray.extract (aa b).1 9 (ByteArray.size (aa b).1)) ≤ 800000) (h8 : decide ((↑(ByteArray.size (ByteArray.extract (aa b).1 9 (ByteArray.size (aa b).1))) : Int) > 0) = false) (h8r : qz (aa b).1 = false) (k : Nat) : ag PP GL XX HH NN (k + 8) 83 [A.c (st b)] [] = some ([Res.agg (Pk.cs (cx b).1), Res.c (ii (cx b).2)], []) := by
  rcases bft (bt (Pk.mk (IntKind.wrap .i64 (↑(UInt8.toNat (ac (aa b).1 0)) : Int)) (dY (Array.toList (ByteArray.data (ByteArray.extract (aa b).1 1 9)))) hz0 0 (ByteArray.extract (aa b).1 9 (ByteArray.size (aa b).1)))) with z0 | z0
  · rcases bft (cw (Pk.mk (IntKind.wrap .i64 (↑(UInt8.toNat (ac (aa b).1 0)) : Int)) (dY (Array.toList (ByteArray.data (ByteArray.extract (aa b).1 1 9)))) hz0 0 (ByteArray.extract (aa b).1 9 (ByteArray.size (aa b).1))) == Prod.fst (aa b)) with z1 | z1
    · exact rt (ec (dU b (show b.size ≤ 1000000 from by omega) (k + 2)) <| en h1 <| eb h2 <| ep (rfl : (9 : Int) = (9 : Int)) <| ep (rfl : (1 : Int) = (1 : Int)) <| ep (show (1 : Nat) ≤ 9 from by decide) <| ep hs <| eg (G.cut 1 9 []) <| ec (hU (ByteArray.extract (aa b).1 1 9) h4 (k + 5)) <| ep (rfl : (0 : Int) = (0 : Int)) <| ep h3 <| eg (G.byte 0 (ac (aa b).1 0)) <| ep (rfl : ByteArray.size (aa b).1 = ByteArray.size (aa b).1) <| ep (rfl : (9 : Int) = (9 : Int)) <| ep hs <| ep (show ByteArray.size (aa b).1 ≤ ByteArray.size (aa b).1 from by omega) <| eg (G.cut 9 (ByteArray.size (aa b).1) []) <| eb h5 <| ec (bA (IntKind.wrap .i64 (↑(UInt8.toNat (ac (aa b).1 0)) : Int)) (k + 6)) <| eb4 h6 <| eb h8 <| ec (bN ((Pk.mk (IntKind.wrap .i64 (↑(UInt8.toNat (ac (aa b).1 0)) : Int)) (dY (Array.toList (ByteArray.data (ByteArray.extract (aa b).1 1 9)))) hz0 0 (ByteArray.extract (aa b).1 9 (ByteArray.size (aa b).1)))) (k + 1)) <| en2 z0 <| ec (dw ((Pk.mk (IntKind.wrap .i64 (↑(UInt8.toNat (ac (aa b).1 0)) : Int)) (dY (Array.toList (ByteArray.data (ByteArray.extract (aa b).1 1 9)))) hz0 0 (ByteArray.extract (aa b).1 9 (ByteArray.size (aa b).1)))) (show ByteArray.size (ByteArray.extract (aa b).1 (9 : Nat) (ByteArray.size (aa b).1)) ≤ 1000000 from by first | omega | (simp only [vu] at *; omega)) k) <| en3 z0 <| en z1 <| e0) (by simp only [cx, eM, qt, he0, h1, h2, h5, h6, h8r, z0, z1, vq] <;> rfl)
    · exact rt (ec (dU b (show b.size ≤ 1000000 from by omega) (k + 2)) <| en h1 <| eb h2 <| ep (rfl : (9 : Int) = (9 : Int)) <| ep (rfl : (1 : Int) = (1 : Int)) <| ep (show (1 : Nat) ≤ 9 from by decide) <| ep hs <| eg (G.cut 1 9 []) <| ec (hU (ByteArray.extract (aa b).1 1 9) h4 (k + 5)) <| ep (rfl : (0 : Int) = (0 : Int)) <| ep h3 <| eg (G.byte 0 (ac (aa b).1 0)) <| ep (rfl : ByteArray.size (aa b).1 = ByteArray.size (aa b).1) <| ep (rfl : (9 : Int) = (9 : Int)) <| ep hs <| ep (show ByteArray.size (aa b).1 ≤ ByteArray.size (aa b).1 from by omega) <| eg (G.cut 9 (ByteArray.size (aa b).1) []) <| eb h5 <| ec (bA (IntKind.wrap .i64 (↑(UInt8.toNat (ac (aa b).1 0)) : Int)) (k + 6)) <| eb4 h6 <| eb h8 <| ec (bN ((Pk.mk (IntKind.wrap .i64 (↑(UInt8.toNat (ac (aa b).1 0)) : Int)) (dY (Array.toList (ByteArray.data (ByteArray.extract (aa b).1 1 9)))) hz0 0 (ByteArray.extract (aa b).1 9 (ByteArray.size (aa b).1)))) (k + 1)) <| en2 z0 <| ec (dw ((Pk.mk (IntKind.wrap .i64 (↑(UInt8.toNat (ac (aa b).1 0)) : Int)) (dY (Array.toList (ByteArray.data (ByteArray.extract (aa b).1 1 9)))) hz0 0 (ByteArray.extract (aa b).1 9 (ByteArray.size (aa b).1)))) (show ByteArray.size (ByteArray.extract (aa b).1 (9 : Nat) (ByteArray.size (aa b).1)) ≤ 1000000 from by first | omega | (simp only [vu] at *; omega)) k) <| en3 z0 <| en z1 <| e0) (by simp only [cx, eM, qt, he0, h1, h2, h5, h6, h8r, z0, z1, vq] <;> rfl)
  · exact rt (ec (dU b (show b.size ≤ 1000000 from by omega) (k + 2)) <| en h1 <| eb h2 <| ep (rfl : (9 : Int) = (9 : Int)) <| ep (rfl : (1 : Int) = (1 : Int)) <| ep (show (1 : Nat) ≤ 9 from by decide) <| ep hs <| eg (G.cut 1 9 []) <| ec (hU (ByteArray.extract (aa b).1 1 9) h4 (k + 5)) <| ep (rfl : (0 : Int) = (0 : Int)) <| ep h3 <| eg (G.byte 0 (ac (aa b).1 0)) <| ep (rfl : ByteArray.size (aa b).1 = ByteArray.size (aa b).1) <| ep (rfl : (9 : Int) = (9 : Int)) <| ep hs <| ep (show ByteArray.size (aa b).1 ≤ ByteArray.size (aa b).1 from by omega) <| eg (G.cut 9 (ByteArray.size (aa b).1) []) <| eb h5 <| ec (bA (IntKind.wrap .i64 (↑(UInt8.toNat (ac (aa b).1 0)) : Int)) (k + 6)) <| eb4 h6 <| eb h8 <| ec (bN ((Pk.mk (IntKind.wrap .i64 (↑(UInt8.toNat (ac (aa b).1 0)) : Int)) (dY (Array.toList (ByteArray.data (ByteArray.extract (aa b).1 1 9)))) hz0 0 (ByteArray.extract (aa b).1 9 (ByteArray.size (aa b).1)))) (k + 1)) <| en5 z0 <| et <| e0) (by simp only [cx, eM, qt, he0, h1, h2, h5, h6, h8r, z0, vq] <;> rfl)
theorem DS (b : ByteArray) (hb : b.size ≤ 800000) (h1 : (Prod.snd (aa b) == 0) = true) (h2 : decide ((↑(ByteArray.size (aa b).1) : Int) < 9) = false) (hs : (9 : Nat) ≤ ByteArray.size (aa b).1) (hs2 : ByteArray.size (aa b).1 ≤ 800000) (h3 : (aa b).1[0]? = some (ac (aa b).1 0)) (h4 : ByteArray.size (ByteArray.extract (aa b).1 1 9) = 8) (h5 : (IntKind.wrap .i64 (↑(UInt8.toNat (ac (aa b).1 0)) : Int) == 1) = false) (h6 : bG (IntKind.wrap .i64 (↑(UInt8.toNat (ac (aa b).1 0)) : Int)) = true) (h7 : ByteArray.size (ByteArray.extract (aa b).1 9 (ByteArray.size (aa b).1)) ≤ 800000) (h8 : decide ((↑(ByteArray.size (ByteArray.extract (aa b).1 9 (ByteArray.size (aa b).1))) : Int) > 0) = true) (h8r : qz (aa b).1 = true) (h9 : (ByteArray.extract (aa b).1 9 (ByteArray.size (aa b).1))[0]? = some (ac (ByteArray.extract (aa b).1 9 (ByteArray.size (aa b).1)) 0)) (h10 : (1 : Nat) ≤ ByteArray.size (ByteArray.extract (aa b).1 9 (ByteArray.size (aa b).1))) (h11 : ByteArray.size (ByteArray.extract (ByteArray.extract (aa b).1 9 (ByteArray.size (aa b).1)) 1 (ByteArray.size (ByteArray.extract (aa b).1 9 (ByteArray.size (aa b).1)))) ≤ 800000) (k : Nat) : ag PP GL XX HH NN (k + 8) 83 [A.c (st b)] [] = some ([Res.agg (Pk.cs (cx b).1), Res.c (ii (cx b).2)], []) := by
  rcases bft (bt (Pk.mk (IntKind.wrap .i64 (↑(UInt8.toNat (ac (aa b).1 0)) : Int)) (dY (Array.toList (ByteArray.data (ByteArray.extract (aa b).1 1 9)))) hz0 (IntKind.wrap .i64 (↑(UInt8.toNat (ac (ByteArray.extract (aa b).1 9 (ByteArray.size (aa b).1)) 0)) : Int)) (ByteArray.extract (ByteArray.extract (aa b).1 9 (ByteArray.size (aa b).1)) 1 (ByteArray.size (ByteArray.extract (aa b).1 9 (ByteArray.size (aa b).1)))))) with z0 | z0
  · rcases bft (cw (Pk.mk (IntKind.wrap .i64 (↑(UInt8.toNat (ac (aa b).1 0)) : Int)) (dY (Array.toList (ByteArray.data (ByteArray.extract (aa b).1 1 9)))) hz0 (IntKind.wrap .i64 (↑(UInt8.toNat (ac (ByteArray.extract (aa b).1 9 (ByteArray.size (aa b).1)) 0)) : Int)) (ByteArray.extract (ByteArray.extract (aa b).1 9 (ByteArray.size (aa b).1)) 1 (ByteArray.size (ByteArray.extract (aa b).1 9 (ByteArray.size (aa b).1))))) == Prod.fst (aa b)) with z1 | z1
    · exact rt (ec (dU b (show b.size ≤ 1000000 from by omega) (k + 2)) <| en h1 <| eb h2 <| ep (rfl : (9 : Int) = (9 : Int)) <| ep (rfl : (1 : Int) = (1 : Int)) <| ep (show (1 : Nat) ≤ 9 from by decide) <| ep hs <| eg (G.cut 1 9 []) <| ec (hU (ByteArray.extract (aa b).1 1 9) h4 (k + 5)) <| ep (rfl : (0 : Int) = (0 : Int)) <| ep h3 <| eg (G.byte 0 (ac (aa b).1 0)) <| ep (rfl : ByteArray.size (aa b).1 = ByteArray.size (aa b).1) <| ep (rfl : (9 : Int) = (9 : Int)) <| ep hs <| ep (show ByteArray.size (aa b).1 ≤ ByteArray.size (aa b).1 from by omega) <| eg (G.cut 9 (ByteArray.size (aa b).1) []) <| eb h5 <| ec (bA (IntKind.wrap .i64 (↑(UInt8.toNat (ac (aa b).1 0)) : Int)) (k + 6)) <| eb4 h6 <| eb h8 <| ep (rfl : (0 : Int) = (0 : Int)) <| ep h9 <| eg (G.byte 0 (ac (ByteArray.extract (aa b).1 9 (ByteArray.size (aa b).1)) 0)) <| ep (rfl : ByteArray.size (ByteArray.extract (aa b).1 (9 : Nat) (ByteArray.size (aa b).1)) = ByteArray.size (ByteArray.extract (aa b).1 (9 : Nat) (ByteArray.size (aa b).1))) <| ep (rfl : (1 : Int) = (1 : Int)) <| ep h10 <| ep (show ByteArray.size (ByteArray.extract (aa b).1 (9 : Nat) (ByteArray.size (aa b).1)) ≤ ByteArray.size (ByteArray.extract (aa b).1 (9 : Nat) (ByteArray.size (aa b).1)) from by first | omega | (simp only [vu] at *; omega)) <| eg (G.cut 1 (ByteArray.size (ByteArray.extract (aa b).1 9 (ByteArray.size (aa b).1))) []) <| ec (bN ((Pk.mk (IntKind.wrap .i64 (↑(UInt8.toNat (ac (aa b).1 0)) : Int)) (dY (Array.toList (ByteArray.data (ByteArray.extract (aa b).1 1 9)))) hz0 (IntKind.wrap .i64 (↑(UInt8.toNat (ac (ByteArray.extract (aa b).1 9 (ByteArray.size (aa b).1)) 0)) : Int)) (ByteArray.extract (ByteArray.extract (aa b).1 9 (ByteArray.size (aa b).1)) 1 (ByteArray.size (ByteArray.extract (aa b).1 9 (ByteArray.size (aa b).1)))))) (k + 1)) <| en2 z0 <| ec (dw ((Pk.mk (IntKind.wrap .i64 (↑(UInt8.toNat (ac (aa b).1 0)) : Int)) (dY (Array.toList (ByteArray.data (ByteArray.extract (aa b).1 1 9)))) hz0 (IntKind.wrap .i64 (↑(UInt8.toNat (ac (ByteArray.extract (aa b).1 9 (ByteArray.size (aa b).1)) 0)) : Int)) (ByteArray.extract (ByteArray.extract (aa b).1 9 (ByteArray.size (aa b).1)) 1 (ByteArray.size (ByteArray.extract (aa b).1 9 (ByteArray.size (aa b).1)))))) (show ByteArray.size (ByteArray.extract (ByteArray.extract (aa b).1 (9 : Nat) (ByteArray.size (aa b).1)) (1 : Nat) (ByteArray.size (ByteArray.extract (aa b).1 (9 : Nat) (ByteArray.size (aa b).1)))) ≤ 1000000 from by first | omega | (simp only [vu] at *; omega)) k) <| en3 z0 <| en z1 <| e0) (by simp only [cx, eM, qt, he0, h1, h2, h5, h6, h8r, z0, z1, vq] <;> rfl)
    · exact rt (ec (dU b (show b.size ≤ 1000000 from by omega) (k + 2)) <| en h1 <| eb h2 <| ep (rfl : (9 : Int) = (9 : Int)) <| ep (rfl : (1 : Int) = (1 : Int)) <| ep (show (1 : Nat) ≤ 9 from by decide) <| ep hs <| eg (G.cut 1 9 []) <| ec (hU (ByteArray.extract (aa b).1 1 9) h4 (k + 5)) <| ep (rfl : (0 : Int) = (0 : Int)) <| ep h3 <| eg (G.byte 0 (ac (aa b).1 0)) <| ep (rfl : ByteArray.size (aa b).1 = ByteArray.size (aa b).1) <| ep (rfl : (9 : Int) = (9 : Int)) <| ep hs <| ep (show ByteArray.size (aa b).1 ≤ ByteArray.size (aa b).1 from by omega) <| eg (G.cut 9 (ByteArray.size (aa b).1) []) <| eb h5 <| ec (bA (IntKind.wrap .i64 (↑(UInt8.toNat (ac (aa b).1 0)) : Int)) (k + 6)) <| eb4 h6 <| eb h8 <| ep (rfl : (0 : Int) = (0 : Int)) <| ep h9 <| eg (G.byte 0 (ac (ByteArray.extract (aa b).1 9 (ByteArray.size (aa b).1)) 0)) <| ep (rfl : ByteArray.size (ByteArray.extract (aa b).1 (9 : Nat) (ByteArray.size (aa b).1)) = ByteArray.size (ByteArray.extract (aa b).1 (9 : Nat) (ByteArray.size (aa b).1))) <| ep (rfl : (1 : Int) = (1 : Int)) <| ep h10 <| ep (show ByteArray.size (ByteArray.extract (aa b).1 (9 : Nat) (ByteArray.size (aa b).1)) ≤ ByteArray.size (ByteArray.extract (aa b).1 (9 : Nat) (ByteArray.size (aa b).1)) from by first | omega | (simp only [vu] at *; omega)) <| eg (G.cut 1 (ByteArray.size (ByteArray.extract (aa b).1 9 (ByteArray.size (aa b).1))) []) <| ec (bN ((Pk.mk (IntKind.wrap .i64 (↑(UInt8.toNat (ac (aa b).1 0)) : Int)) (dY (Array.toList (ByteArray.data (ByteArray.extract (aa b).1 1 9)))) hz0 (IntKind.wrap .i64 (↑(UInt8.toNat (ac (ByteArray.extract (aa b).1 9 (ByteArray.size (aa b).1)) 0)) : Int)) (ByteArray.extract (ByteArray.extract (aa b).1 9 (ByteArray.size (aa b).1)) 1 (ByteArray.size (ByteArray.extract (aa b).1 9 (ByteArray.size (aa b).1)))))) (k + 1)) <| en2 z0 <| ec (dw ((Pk.mk (IntKind.wrap .i64 (↑(UInt8.toNat (ac (aa b).1 0)) : Int)) (dY (Array.toList (ByteArray.data (ByteArray.extract (aa b).1 1 9)))) hz0 (IntKind.wrap .i64 (↑(UInt8.toNat (ac (ByteArray.extract (aa b).1 9 (ByteArray.size (aa b).1)) 0)) : Int)) (ByteArray.extract (ByteArray.extract (aa b).1 9 (ByteArray.size (aa b).1)) 1 (ByteArray.size (ByteArray.extract (aa b).1 9 (ByteArray.size (aa b).1)))))) (show ByteArray.size (ByteArray.extract (ByteArray.extract (aa b).1 (9 : Nat) (ByteArray.size (aa b).1)) (1 : Nat) (ByteArray.size (ByteArray.extract (aa b).1 (9 : Nat) (ByteArray.size (aa b).1)))) ≤ 1000000 from by first | omega | (simp only [vu] at *; omega)) k) <| en3 z0 <| en z1 <| e0) (by simp only [cx, eM, qt, he0, h1, h2, h5, h6, h8r, z0, z1, vq] <;> rfl)
  · exact rt (ec (dU b (show b.size ≤ 1000000 from by omega) (k + 2)) <| en h1 <| eb h2 <| ep (rfl : (9 : Int) = (9 : Int)) <| ep (rfl : (1 : Int) = (1 : Int)) <| ep (show (1 : Nat) ≤ 9 from by decide) <| ep hs <| eg (G.cut 1 9 []) <| ec (hU (ByteArray.extract (aa b).1 1 9) h4 (k + 5)) <| ep (rfl : (0 : Int) = (0 : Int)) <| ep h3 <| eg (G.byte 0 (ac (aa b).1 0)) <| ep (rfl : ByteArray.size (aa b).1 = ByteArray.size (aa b).1) <| ep (rfl : (9 : Int) = (9 : Int)) <| ep hs <| ep (show ByteArray.size (aa b).1 ≤ ByteArray.size (aa b).1 from by omega) <| eg (G.cut 9 (ByteArray.size (aa b).1) []) <| eb h5 <| ec (bA (IntKind.wrap .i64 (↑(UInt8.toNat (ac (aa b).1 0)) : Int)) (k + 6)) <| eb4 h6 <| eb h8 <| ep (rfl : (0 : Int) = (0 : Int)) <| ep h9 <| eg (G.byte 0 (ac (ByteArray.extract (aa b).1 9 (ByteArray.size (aa b).1)) 0)) <| ep (rfl : ByteArray.size (ByteArray.extract (aa b).1 (9 : Nat) (ByteArray.size (aa b).1)) = ByteArray.size (ByteArray.extract (aa b).1 (9 : Nat) (ByteArray.size (aa b).1))) <| ep (rfl : (1 : Int) = (1 : Int)) <| ep h10 <| ep (show ByteArray.size (ByteArray.extract (aa b).1 (9 : Nat) (ByteArray.size (aa b).1)) ≤ ByteArray.size (ByteArray.extract (aa b).1 (9 : Nat) (ByteArray.size (aa b).1)) from by first | omega | (simp only [vu] at *; omega)) <| eg (G.cut 1 (ByteArray.size (ByteArray.extract (aa b).1 9 (ByteArray.size (aa b).1))) []) <| ec (bN ((Pk.mk (IntKind.wrap .i64 (↑(UInt8.toNat (ac (aa b).1 0)) : Int)) (dY (Array.toList (ByteArray.data (ByteArray.extract (aa b).1 1 9)))) hz0 (IntKind.wrap .i64 (↑(UInt8.toNat (ac (ByteArray.extract (aa b).1 9 (ByteArray.size (aa b).1)) 0)) : Int)) (ByteArray.extract (ByteArray.extract (aa b).1 9 (ByteArray.size (aa b).1)) 1 (ByteArray.size (ByteArray.extract (aa b).1 9 (ByteArray.size (aa b).1)))))) (k + 1)) <| en5 z0 <| et <| e0) (by simp only [cx, eM, qt, he0, h1, h2, h5, h6, h8r, z0, vq] <;> rfl)
theorem tI (b : ByteArray) : (aa b).1.size ≤ b.size := by
  unfold aa
  cases decide ((b.size : Int) < 4)
  · cases bg (b.extract 0 (b.size - 4)) == b
    · exact Nat.zero_le _
    · show (b.extract 0 (b.size - 4)).size ≤ _
      rw [ByteArray.size_extract]; omega
  · exact Nat.zero_le _
theorem qK (b : ByteArray) (hb : b.size ≤ 800000) (k : Nat) : ag PP GL XX HH NN (k + 8) 83 [.c (st b)] [] = some ([.agg (cx b).1.cs, .c (ii (cx b).2)], []) := by
  cases h1 : (aa b).2 == 0 with
  | false => exact CL b hb h1 k
  | true =>
    cases h2 : decide (((aa b).1.size : Int) < 9) with
    | true => exact DB b hb h1 h2 k
    | false =>
      have h2' := of_decide_eq_false h2
      have hs := tI b
      have h3 := eo (s := (aa b).1) (i := 0) (by omega)
      have h4 : ((aa b).1.extract 1 9).size = 8 := by rw [ByteArray.size_extract]; omega
      have h7 : ((aa b).1.extract 9 (aa b).1.size).size ≤ 800000 := by rw [ByteArray.size_extract]; omega
      cases h5 : IntKind.wrap .i64 ((ac (aa b).1 0).toNat : Int) == 1 with
      | true => exact Ew b hb h1 h2 (by omega) (by omega) h3 h4 h5 (by rw [eq_of_beq h5]; rfl) k
      | false =>
        cases h6 : bG (IntKind.wrap .i64 ((ac (aa b).1 0).toNat : Int)) with
        | false => exact C0 b hb h1 h2 (by omega) (by omega) h3 h4 h5 h6 h7 k
        | true =>
          cases h8 : decide ((((aa b).1.extract 9 (aa b).1.size).size : Int) > 0) with
          | false => exact DQ b hb h1 h2 (by omega) (by omega) h3 h4 h5 h6 h7 h8 h8 k
          | true =>
            have h8' := of_decide_eq_true h8
            exact DS b hb h1 h2 (by omega) (by omega) h3 h4 h5 h6 h7 h8 h8 (eo (by omega)) (by omega) (by rw [ByteArray.size_extract]; omega) k
theorem cg (b : ByteArray) (ses : Int) (hb : b.size ≤ 800000) (k : Nat) : ag PP GL XX HH NN (k + 9) 43 [A.c (st b), A.c (u ses)] [] = some ([Res.agg (Pk.cs (aE b ses).1), Res.c (ii (aE b ses).2)], []) := by
  rcases bft (Prod.snd (cx b) == 0) with z0 | z0
  · rcases bft (Pk.ses (cx b).1 == ses) with z1 | z1
    · exact rt (ec (qK b hb k) <| en z0 <| en z1 <| e0) (by simp only [aE, pk0, he0, z0, z1, vq] <;> rfl)
    · exact rt (ec (qK b hb k) <| en z0 <| en z1 <| e0) (by simp only [aE, pk0, he0, z0, z1, vq] <;> rfl)
  · exact rt (ec (qK b hb k) <| en z0 <| e0) (by simp only [aE, pk0, he0, z0, vq] <;> rfl)
end Go.Dm
namespace Go.Dm
open Go
set_option maxHeartbeats 1000000
theorem uO (l : Lk) (k : Nat) : ag PP GL XX HH NN (k + 1) 65 [A.agg (Lk.cs l)] [] = some ([Res.agg (Lk.cs (b6 l))], []) := by
  exact rt (e0) (by simp only [b6, vq] <;> rfl)
theorem ry (l : Lk) (k : Nat) : ag PP GL XX HH NN (k + 1) 67 [A.agg (Lk.cs l)] [] = some ([Res.agg (Lk.cs (aU l))], []) := by
  exact rt (e0) (by simp only [aU, vq] <;> rfl)
theorem AX (l : Lk) (to : Int) (ps : List ByteArray) (h0 : l.to0.length + ps.length ≤ 1000000) (h1 : l.to1.length + ps.length ≤ 1000000) (k : Nat) : ag PP GL XX HH NN (k + 1) 84 [A.agg (Lk.cs l), A.c (ii to), A.c (C.slice 1 (List.map eS ps))] [] = some ([Res.agg (Lk.cs (dd l to ps).1), Res.c (ii (dd l to ps).2)], []) := by
  rcases bft (to == 0) with z0 | z0
  · rcases bft l.up with z1 | z1
    · exact rt (en3 z0 <| ef <| en z1 <| ep (eq_of_beq z0) <| eg (G.at 0) <| ep (bq (List.map eS l.to0)) <| ep (ar (eS) (l := Lk.to0 l) (n := 1073741824) (by omega)) <| eg (G.app (List.map eS l.to0)) <| ep (a9 (eS) l.to0 (ps)) <| ep (ar (eS) (l := Lk.to0 l ++ ps) (n := 1073741824) (by simp only [vr]; omega)) <| ep (Eq.refl (List.length (List.map eS l.to0))) <| eg (G.app (List.map eS (Lk.to0 l ++ ps))) <| ep (eq_of_beq z0) <| eg (G.at 0) <| e0) (rs := [Res.agg (Lk.cs ({ l with to0 := Lk.to0 l ++ ps } : Lk)), Res.c (ii 0)]) (by simp only [dd, z0, z1, vq] <;> rfl)
    · exact rt (en3 z0 <| ef <| en z1 <| e0) (rs := [Res.agg (Lk.cs l), Res.c (ii 7)]) (by simp only [dd, z0, z1, vq] <;> rfl)
  · rcases bft (to == 1) with z1 | z1
    · rcases bft l.up with z2 | z2
      · exact rt (en3 z0 <| en z1 <| en z2 <| ep (eq_of_beq z1) <| eg (G.at 1) <| ep (bq (List.map eS l.to1)) <| ep (ar (eS) (l := Lk.to1 l) (n := 1073741824) (by omega)) <| eg (G.app (List.map eS l.to1)) <| ep (a9 (eS) l.to1 (ps)) <| ep (ar (eS) (l := Lk.to1 l ++ ps) (n := 1073741824) (by simp only [vr]; omega)) <| ep (Eq.refl (List.length (List.map eS l.to1))) <| eg (G.app (List.map eS (Lk.to1 l ++ ps))) <| ep (eq_of_beq z1) <| eg (G.at 1) <| e0) (rs := [Res.agg (Lk.cs ({ l with to1 := Lk.to1 l ++ ps } : Lk)), Res.c (ii 0)]) (by simp only [dd, z0, z1, z2, vq] <;> rfl)
      · exact rt (en3 z0 <| en z1 <| en z2 <| e0) (rs := [Res.agg (Lk.cs l), Res.c (ii 7)]) (by simp only [dd, z0, z1, z2, vq] <;> rfl)
    · exact rt (en3 z0 <| en z1 <| e0) (rs := [Res.agg (Lk.cs l), Res.c (ii 1)]) (by simp only [dd, z0, z1, vq] <;> rfl)
theorem GA (l : Lk) (he : Lk.to0 l = []) (k : Nat) : ag PP GL XX HH NN (k + 2) 37 [A.agg [bo l.up, u l.ses, C.slice 1 [], C.slice 1 (uC l.to1)], A.c (ii 0)] [] = some ([Res.c (st ByteArray.empty), Res.agg [bo l.up, u l.ses, C.slice 1 [], C.slice 1 (uC l.to1)], Res.c (bo false)], []) := by
  exact rt (ef8 <| ep (rz 0) <| eg (G.at 0) <| ef2 <| ep (rfl : (0 : Nat) = (0 : Nat)) <| eg (G.len 0) <| ef2 <| et <| e0) rfl
theorem F3 (l : Lk) (he : Lk.to1 l = []) (k : Nat) : ag PP GL XX HH NN (k + 2) 37 [A.agg [bo l.up, u l.ses, C.slice 1 (uC l.to0), C.slice 1 []], A.c (ii 1)] [] = some ([Res.c (st ByteArray.empty), Res.agg [bo l.up, u l.ses, C.slice 1 (uC l.to0), C.slice 1 []], Res.c (bo false)], []) := by
  exact rt (et3 <| ef5 <| ep (rz 1) <| eg (G.at 1) <| ef2 <| ep (rfl : (0 : Nat) = (0 : Nat)) <| eg (G.len 0) <| ef2 <| et <| e0) rfl
theorem Gn (l : Lk) (x : ByteArray) (r : List ByteArray) (hr : r.length ≤ 1000000) (k : Nat) : ag PP GL XX HH NN (k + 2) 37 [A.agg [bo l.up, u l.ses, C.slice 1 (uC (x :: r)), C.slice 1 (uC l.to1)], A.c (ii 0)] [] = some ([Res.c (st x), Res.agg [bo l.up, u l.ses, C.slice 1 (uC r), C.slice 1 (uC l.to1)], Res.c (bo true)], []) := by
  exact rt (ef8 <| ep (rz 0) <| eg (G.at 0) <| ef2 <| ep (af (eS) (x :: r)) <| eg (G.len (List.length (x :: r))) <| ef3 <| ep (rz 0) <| eg (G.at 0) <| ep (rfl : (0 : Int) = (0 : Int)) <| ep (ao (f := eS) (l := x :: r) (i := 0) (x := x) rfl) <| eg (G.idx 0 [st x]) <| ep (rz 0) <| eg (G.at 0) <| ep (af (eS) (x :: r)).symm <| ep (rfl : (1 : Int) = (1 : Int)) <| ep (show (1 : Nat) ≤ List.length (x :: r) from by simp only [vr]; omega) <| ep (Nat.le_of_eq (af (eS) (x :: r)).symm) <| ep (lz (eS) (x :: r) 1) <| eg (G.cut 1 (List.length (x :: r)) (List.map eS r)) <| ep (bq (List.map eS r)) <| ep (ar (eS) (l := r) (n := 1073741824) (by omega)) <| eg (G.app (List.map eS r)) <| ep (rz 0) <| eg (G.at 0) <| e0) rfl
theorem Gl (l : Lk) (x : ByteArray) (r : List ByteArray) (hr : r.length ≤ 1000000) (k : Nat) : ag PP GL XX HH NN (k + 2) 37 [A.agg [bo l.up, u l.ses, C.slice 1 (uC l.to0), C.slice 1 (uC (x :: r))], A.c (ii 1)] [] = some ([Res.c (st x), Res.agg [bo l.up, u l.ses, C.slice 1 (uC l.to0), C.slice 1 (uC r)], Res.c (bo true)], []) := by
  exact rt (et3 <| ef5 <| ep (rz 1) <| eg (G.at 1) <| ef2 <| ep (af (eS) (x :: r)) <| eg (G.len (List.length (x :: r))) <| ef3 <| ep (rz 1) <| eg (G.at 1) <| ep (rfl : (0 : Int) = (0 : Int)) <| ep (ao (f := eS) (l := x :: r) (i := 0) (x := x) rfl) <| eg (G.idx 0 [st x]) <| ep (rz 1) <| eg (G.at 1) <| ep (af (eS) (x :: r)).symm <| ep (rfl : (1 : Int) = (1 : Int)) <| ep (show (1 : Nat) ≤ List.length (x :: r) from by simp only [vr]; omega) <| ep (Nat.le_of_eq (af (eS) (x :: r)).symm) <| ep (lz (eS) (x :: r) 1) <| eg (G.cut 1 (List.length (x :: r)) (List.map eS r)) <| ep (bq (List.map eS r)) <| ep (ar (eS) (l := r) (n := 1073741824) (by omega)) <| eg (G.app (List.map eS r)) <| ep (rz 1) <| eg (G.at 1) <| e0) rfl
theorem HB (l : Lk) (to : Int) (t0 : (to == 0) = false) (t1 : (to == 1) = false) (k : Nat) : ag PP GL XX HH NN (k + 2) 37 [A.agg (Lk.cs l), A.c (ii to)] [] = some ([Res.c (st ByteArray.empty), Res.agg (Lk.cs l), Res.c (bo false)], []) := by
  exact rt (en3 t0 <| en9 t1 <| et <| e0) rfl
theorem pB (to : Int) : to = 0 ∨ to = 1 ∨ ((to == 0) = false ∧ (to == 1) = false) := by
  by_cases h0 : to = 0
  · exact .inl h0
  · by_cases h1 : to = 1
    · exact .inr (.inl h1)
    · exact .inr (.inr ⟨beq_false_of_ne h0, beq_false_of_ne h1⟩)
theorem wY (l : Lk) (to : Int) (h0 : l.to0.length ≤ 1000000) (h1 : l.to1.length ≤ 1000000) (k : Nat) : ag PP GL XX HH NN (k + 2) 37 [.agg l.cs, .c (ii to)] [] = some ([.c (st (df l to).1), .agg (df l to).2.1.cs, .c (bo (df l to).2.2)], []) := by
  obtain ⟨up, ses, to0, to1⟩ := l
  rcases pB to with rfl | rfl | ⟨t0, t1⟩
  · cases to0 with
    | nil => exact GA ⟨up, ses, [], to1⟩ rfl k
    | cons x r => exact Gn ⟨up, ses, [], to1⟩ x r (by simp at h0; omega) k
  · cases to1 with
    | nil => exact F3 ⟨up, ses, to0, []⟩ rfl k
    | cons x r => exact Gl ⟨up, ses, to0, []⟩ x r (by simp at h1; omega) k
  · have := HB ⟨up, ses, to0, to1⟩ to t0 t1 k
    simp only [df, t0, t1, cond]
    exact this
theorem bc (k : Nat) : ag PP GL XX HH NN (k + 1) 157 [] [] = some ([Res.agg (Vd.cs aq)], []) := by
  exact rt (e0) (by simp only [aq, vq] <;> rfl)
theorem bp (kd : Int) (src : Int) (t : He) (k : Nat) : ag PP GL XX HH NN (k + 2) 158 [A.c (ii kd), A.c (ii src), A.agg (He.cs t)] [] = some ([Res.agg (Vd.cs (aw kd src t))], []) := by
  rcases bft t.pri with z0 | z0
  · exact rt (eb3 z0 <| et <| ec (bc k) <| e0) (by simp only [aw, aq, z0, vq] <;> rfl)
  · rcases bft (kd == 4) with z1 | z1
    · exact rt (eb3 z0 <| eb z1 <| ec (bc k) <| e0) (by simp only [aw, aq, z0, z1, vq] <;> rfl)
    · exact rt (eb3 z0 <| eb z1 <| e0) (by simp only [aw, aq, z0, z1, vq] <;> rfl)
theorem j8 (s : He) (t : He) (k : Nat) : ag PP GL XX HH NN (k + 2) 159 [A.agg (He.cs s), A.agg (He.cs t)] [] = some ([Res.c (ii (dV s t))], []) := by
  rcases bft s.dis with z0 | z0
  · exact rt (eb z0 <| e0) (by simp only [dV, z0, vq] <;> rfl)
  · rcases bft (decide (aQ s.v t.v.bit ≥ 0)) with z1 | z1
    · exact rt (eb z0 <| ec (aT s.v t.v.bit k) <| eb z1 <| e0) (by simp only [dV, z0, z1, vq] <;> rfl)
    · rcases bft t.dis with z2 | z2
      · exact rt (eb z0 <| ec (aT s.v t.v.bit k) <| eb z1 <| eb z2 <| e0) (by simp only [dV, z0, z1, z2, vq] <;> rfl)
      · rcases bft (decide (aQ s.v t.v.cur < 0)) with z3 | z3
        · exact rt (eb z0 <| ec (aT s.v t.v.bit k) <| eb z1 <| eb z2 <| ec (aT s.v t.v.cur k) <| eb z3 <| e0) (by simp only [dV, z0, z1, z2, z3, vq] <;> rfl)
        · rcases bft (decide (aQ s.v t.v.cur ≤ 1)) with z4 | z4
          · exact rt (eb z0 <| ec (aT s.v t.v.bit k) <| eb z1 <| eb z2 <| ec (aT s.v t.v.cur k) <| eb z3 <| eb z4 <| e0) (by simp only [dV, z0, z1, z2, z3, z4, vq] <;> rfl)
          · exact rt (eb z0 <| ec (aT s.v t.v.bit k) <| eb z1 <| eb z2 <| ec (aT s.v t.v.cur k) <| eb z3 <| eb z4 <| e0) (by simp only [dV, z0, z1, z2, z3, z4, vq] <;> rfl)
end Go.Dm
namespace Go.Dm
open Go
set_option maxHeartbeats 1000000
theorem kl (v : Ve) (g : Int) : aQ v g = -1 ∨ aQ v g = ((0 : Nat) : Int) ∨ aQ v g = ((1 : Nat) : Int) ∨ aQ v g = ((2 : Nat) : Int) ∨ aQ v g = ((3 : Nat) : Int) := by
  unfold aQ
  cases g == 0 <;> cases v.cur == g <;> cases v.bit == g <;> cases v.o0 == g <;> cases v.o1 == g <;> simp
theorem HA (x : He) (y : He) (c0 : (He.blocks x == He.blocks y) = false) (k : Nat) : ag PP GL XX HH NN (k + 4) 134 [A.agg (He.cs x), A.agg (He.cs y)] [] = some ([Res.agg (Vd.cs (ap x y))], []) := by
  exact rt (en5 c0 <| xL <| ec (bc (k + 2)) <| e0) (by simp only [ap, aw, aq, c0, vq] <;> rfl)
theorem Hk (x : He) (y : He) (c0 : (He.blocks x == He.blocks y) = true) (c1 : He.inc x = true) (k : Nat) : ag PP GL XX HH NN (k + 4) 134 [A.agg (He.cs x), A.agg (He.cs y)] [] = some ([Res.agg (Vd.cs (ap x y))], []) := by
  rcases bft x.pri with z0 | z0
  · rcases bft y.pri with z1 | z1
    · exact rt (en3 c0 <| eb2 z0 <| en c0 <| eb z0 <| en c0 <| eb5 z1 <| et6 <| ec (bc (k + 2)) <| e0) (rs := [Res.agg (Vd.cs (Vd.mk 4 ((-1 : Int))))]) (by simp only [ap, aw, aq, c0, c1, z0, z1, vq] <;> rfl)
    · rcases bft y.inc with z2 | z2
      · exact rt (en3 c0 <| eb2 z0 <| en c0 <| eb z0 <| en c0 <| eb3 z1 <| eb2 c1 <| eb z1 <| eb c1 <| eb z1 <| eb5 z2 <| et <| ec (bc (k + 2)) <| e0) (rs := [Res.agg (Vd.cs (Vd.mk 4 ((-1 : Int))))]) (by simp only [ap, aw, aq, c0, c1, z0, z1, z2, vq] <;> rfl)
      · rcases bft x.dis with z3 | z3
        · rcases bft y.dis with z4 | z4
          · exact rt (en3 c0 <| eb2 z0 <| en c0 <| eb z0 <| en c0 <| eb3 z1 <| eb2 c1 <| eb z1 <| eb c1 <| eb z1 <| eb3 z2 <| eb2 z3 <| eb z2 <| eb z3 <| eb z2 <| eb z4 <| ec (bc (k + 2)) <| e0) (rs := [Res.agg (Vd.cs (Vd.mk 4 ((-1 : Int))))]) (by simp only [ap, aw, aq, c0, c1, z0, z1, z2, z3, z4, vq] <;> rfl)
          · exact rt (en3 c0 <| eb2 z0 <| en c0 <| eb z0 <| en c0 <| eb3 z1 <| eb2 c1 <| eb z1 <| eb c1 <| eb z1 <| eb3 z2 <| eb2 z3 <| eb z2 <| eb z3 <| eb z2 <| eb z4 <| eb c1 <| ec (j8 y x (k + 1)) <| ec (bp (dV y x) 1 x (k + 1)) <| e0) (rs := [Res.agg (Vd.cs (aw (dV y x) 1 x))]) (by simp only [ap, aw, aq, c0, c1, z0, z1, z2, z3, z4, vq] <;> rfl)
        · exact rt (en3 c0 <| eb2 z0 <| en c0 <| eb z0 <| en c0 <| eb3 z1 <| eb2 c1 <| eb z1 <| eb c1 <| eb z1 <| eb3 z2 <| eb2 z3 <| eb z2 <| eb z3 <| eb z2 <| ef <| eb c1 <| ec (j8 y x (k + 1)) <| ec (bp (dV y x) 1 x (k + 1)) <| e0) (rs := [Res.agg (Vd.cs (aw (dV y x) 1 x))]) (by simp only [ap, aw, aq, c0, c1, z0, z1, z2, z3, vq] <;> rfl)
  · rcases bft y.inc with z1 | z1
    · exact rt (en3 c0 <| eb2 z0 <| en c0 <| eb z0 <| en c0 <| ef3 <| eb2 c1 <| ef <| eb c1 <| ef <| eb5 z1 <| et <| ec (bc (k + 2)) <| e0) (rs := [Res.agg (Vd.cs (Vd.mk 4 ((-1 : Int))))]) (by simp only [ap, aw, aq, c0, c1, z0, z1, vq] <;> rfl)
    · rcases bft x.dis with z2 | z2
      · rcases bft y.dis with z3 | z3
        · exact rt (en3 c0 <| eb2 z0 <| en c0 <| eb z0 <| en c0 <| ef3 <| eb2 c1 <| ef <| eb c1 <| ef <| eb3 z1 <| eb2 z2 <| eb z1 <| eb z2 <| eb z1 <| eb z3 <| ec (bc (k + 2)) <| e0) (rs := [Res.agg (Vd.cs (Vd.mk 4 ((-1 : Int))))]) (by simp only [ap, aw, aq, c0, c1, z0, z1, z2, z3, vq] <;> rfl)
        · exact rt (en3 c0 <| eb2 z0 <| en c0 <| eb z0 <| en c0 <| ef3 <| eb2 c1 <| ef <| eb c1 <| ef <| eb3 z1 <| eb2 z2 <| eb z1 <| eb z2 <| eb z1 <| eb z3 <| eb c1 <| ec (j8 y x (k + 1)) <| ec (bp (dV y x) 1 x (k + 1)) <| e0) (rs := [Res.agg (Vd.cs (aw (dV y x) 1 x))]) (by simp only [ap, aw, aq, c0, c1, z0, z1, z2, z3, vq] <;> rfl)
      · exact rt (en3 c0 <| eb2 z0 <| en c0 <| eb z0 <| en c0 <| ef3 <| eb2 c1 <| ef <| eb c1 <| ef <| eb3 z1 <| eb2 z2 <| eb z1 <| eb z2 <| eb z1 <| ef <| eb c1 <| ec (j8 y x (k + 1)) <| ec (bp (dV y x) 1 x (k + 1)) <| e0) (rs := [Res.agg (Vd.cs (aw (dV y x) 1 x))]) (by simp only [ap, aw, aq, c0, c1, z0, z1, z2, vq] <;> rfl)
theorem HD (x : He) (y : He) (c0 : (He.blocks x == He.blocks y) = true) (c1 : He.inc x = false) (c2 : He.inc y = true) (k : Nat) : ag PP GL XX HH NN (k + 4) 134 [A.agg (He.cs x), A.agg (He.cs y)] [] = some ([Res.agg (Vd.cs (ap x y))], []) := by
  rcases bft x.pri with z0 | z0
  · rcases bft y.pri with z1 | z1
    · exact rt (en3 c0 <| eb2 z0 <| en c0 <| eb z0 <| en c0 <| eb5 z1 <| et6 <| ec (bc (k + 2)) <| e0) (rs := [Res.agg (Vd.cs (Vd.mk 4 ((-1 : Int))))]) (by simp only [ap, aw, aq, c0, c1, c2, z0, z1, vq] <;> rfl)
    · rcases bft x.dis with z2 | z2
      · rcases bft y.dis with z3 | z3
        · exact rt (en3 c0 <| eb2 z0 <| en c0 <| eb z0 <| en c0 <| eb3 z1 <| eb2 c1 <| eb z1 <| eb c1 <| eb z1 <| ef3 <| eb2 z2 <| ef <| eb z2 <| ef <| eb z3 <| ec (bc (k + 2)) <| e0) (rs := [Res.agg (Vd.cs (Vd.mk 4 ((-1 : Int))))]) (by simp only [ap, aw, aq, c0, c1, c2, z0, z1, z2, z3, vq] <;> rfl)
        · exact rt (en3 c0 <| eb2 z0 <| en c0 <| eb z0 <| en c0 <| eb3 z1 <| eb2 c1 <| eb z1 <| eb c1 <| eb z1 <| ef3 <| eb2 z2 <| ef <| eb z2 <| ef <| eb z3 <| eb c1 <| eb c2 <| ec (j8 x y (k + 1)) <| ec (bp (dV x y) 0 y (k + 1)) <| e0) (rs := [Res.agg (Vd.cs (aw (dV x y) 0 y))]) (by simp only [ap, aw, aq, c0, c1, c2, z0, z1, z2, z3, vq] <;> rfl)
      · exact rt (en3 c0 <| eb2 z0 <| en c0 <| eb z0 <| en c0 <| eb3 z1 <| eb2 c1 <| eb z1 <| eb c1 <| eb z1 <| ef3 <| eb2 z2 <| ef <| eb z2 <| ef2 <| eb c1 <| eb c2 <| ec (j8 x y (k + 1)) <| ec (bp (dV x y) 0 y (k + 1)) <| e0) (rs := [Res.agg (Vd.cs (aw (dV x y) 0 y))]) (by simp only [ap, aw, aq, c0, c1, c2, z0, z1, z2, vq] <;> rfl)
  · rcases bft x.dis with z1 | z1
    · rcases bft y.dis with z2 | z2
      · exact rt (en3 c0 <| eb2 z0 <| en c0 <| eb z0 <| en c0 <| ef3 <| eb2 c1 <| ef <| eb c1 <| ef4 <| eb2 z1 <| ef <| eb z1 <| ef <| eb z2 <| ec (bc (k + 2)) <| e0) (rs := [Res.agg (Vd.cs (Vd.mk 4 ((-1 : Int))))]) (by simp only [ap, aw, aq, c0, c1, c2, z0, z1, z2, vq] <;> rfl)
      · exact rt (en3 c0 <| eb2 z0 <| en c0 <| eb z0 <| en c0 <| ef3 <| eb2 c1 <| ef <| eb c1 <| ef4 <| eb2 z1 <| ef <| eb z1 <| ef <| eb z2 <| eb c1 <| eb c2 <| ec (j8 x y (k + 1)) <| ec (bp (dV x y) 0 y (k + 1)) <| e0) (rs := [Res.agg (Vd.cs (aw (dV x y) 0 y))]) (by simp only [ap, aw, aq, c0, c1, c2, z0, z1, z2, vq] <;> rfl)
    · exact rt (en3 c0 <| eb2 z0 <| en c0 <| eb z0 <| en c0 <| ef3 <| eb2 c1 <| ef <| eb c1 <| ef4 <| eb2 z1 <| ef <| eb z1 <| ef2 <| eb c1 <| eb c2 <| ec (j8 x y (k + 1)) <| ec (bp (dV x y) 0 y (k + 1)) <| e0) (rs := [Res.agg (Vd.cs (aw (dV x y) 0 y))]) (by simp only [ap, aw, aq, c0, c1, c2, z0, z1, vq] <;> rfl)
theorem HY (x : He) (y : He) (c0 : (He.blocks x == He.blocks y) = true) (c1 : He.inc x = false) (c2 : He.inc y = false) (c3 : He.dis x = true) (k : Nat) : ag PP GL XX HH NN (k + 4) 134 [A.agg (He.cs x), A.agg (He.cs y)] [] = some ([Res.agg (Vd.cs (ap x y))], []) := by
  rcases bft x.pri with z0 | z0
  · rcases bft y.pri with z1 | z1
    · exact rt (en3 c0 <| eb2 z0 <| en c0 <| eb z0 <| en c0 <| eb5 z1 <| et6 <| ec (bc (k + 2)) <| e0) (rs := [Res.agg (Vd.cs (Vd.mk 4 ((-1 : Int))))]) (by simp only [ap, aw, aq, c0, c1, c2, c3, z0, z1, vq] <;> rfl)
    · rcases bft y.dis with z2 | z2
      · exact rt (en3 c0 <| eb2 z0 <| en c0 <| eb z0 <| en c0 <| eb3 z1 <| eb2 c1 <| eb z1 <| eb c1 <| eb z1 <| ef3 <| eb2 c3 <| ef <| eb c3 <| ef <| eb z2 <| ec (bc (k + 2)) <| e0) (rs := [Res.agg (Vd.cs (Vd.mk 4 ((-1 : Int))))]) (by simp only [ap, aw, aq, c0, c1, c2, c3, z0, z1, z2, vq] <;> rfl)
      · exact rt (en3 c0 <| eb2 z0 <| en c0 <| eb z0 <| en c0 <| eb3 z1 <| eb2 c1 <| eb z1 <| eb c1 <| eb z1 <| ef3 <| eb2 c3 <| ef <| eb c3 <| ef <| eb z2 <| eb c1 <| eb c2 <| eb c3 <| ec (bp 3 1 x (k + 1)) <| e0) (rs := [Res.agg (Vd.cs (aw 3 1 x))]) (by simp only [ap, aw, aq, c0, c1, c2, c3, z0, z1, z2, vq] <;> rfl)
  · rcases bft y.dis with z1 | z1
    · exact rt (en3 c0 <| eb2 z0 <| en c0 <| eb z0 <| en c0 <| ef3 <| eb2 c1 <| ef <| eb c1 <| ef4 <| eb2 c3 <| ef <| eb c3 <| ef <| eb z1 <| ec (bc (k + 2)) <| e0) (rs := [Res.agg (Vd.cs (Vd.mk 4 ((-1 : Int))))]) (by simp only [ap, aw, aq, c0, c1, c2, c3, z0, z1, vq] <;> rfl)
    · exact rt (en3 c0 <| eb2 z0 <| en c0 <| eb z0 <| en c0 <| ef3 <| eb2 c1 <| ef <| eb c1 <| ef4 <| eb2 c3 <| ef <| eb c3 <| ef <| eb z1 <| eb c1 <| eb c2 <| eb c3 <| ec (bp 3 1 x (k + 1)) <| e0) (rs := [Res.agg (Vd.cs (aw 3 1 x))]) (by simp only [ap, aw, aq, c0, c1, c2, c3, z0, z1, vq] <;> rfl)
theorem Hv (x : He) (y : He) (c0 : (He.blocks x == He.blocks y) = true) (c1 : He.inc x = false) (c2 : He.inc y = false) (c3 : He.dis x = false) (c4 : He.dis y = true) (k : Nat) : ag PP GL XX HH NN (k + 4) 134 [A.agg (He.cs x), A.agg (He.cs y)] [] = some ([Res.agg (Vd.cs (ap x y))], []) := by
  rcases bft x.pri with z0 | z0
  · rcases bft y.pri with z1 | z1
    · exact rt (en3 c0 <| eb2 z0 <| en c0 <| eb z0 <| en c0 <| eb5 z1 <| et6 <| ec (bc (k + 2)) <| e0) (rs := [Res.agg (Vd.cs (Vd.mk 4 ((-1 : Int))))]) (by simp only [ap, aw, aq, c0, c1, c2, c3, c4, z0, z1, vq] <;> rfl)
    · exact rt (en3 c0 <| eb2 z0 <| en c0 <| eb z0 <| en c0 <| eb3 z1 <| eb2 c1 <| eb z1 <| eb c1 <| eb z1 <| ef3 <| eb2 c3 <| ef <| eb c3 <| ef2 <| eb c1 <| eb c2 <| eb c3 <| eb c4 <| ec (bp 3 0 y (k + 1)) <| e0) (rs := [Res.agg (Vd.cs (aw 3 0 y))]) (by simp only [ap, aw, aq, c0, c1, c2, c3, c4, z0, z1, vq] <;> rfl)
  · exact rt (en3 c0 <| eb2 z0 <| en c0 <| eb z0 <| en c0 <| ef3 <| eb2 c1 <| ef <| eb c1 <| ef4 <| eb2 c3 <| ef <| eb c3 <| ef2 <| eb c1 <| eb c2 <| eb c3 <| eb c4 <| ec (bp 3 0 y (k + 1)) <| e0) (rs := [Res.agg (Vd.cs (aw 3 0 y))]) (by simp only [ap, aw, aq, c0, c1, c2, c3, c4, z0, vq] <;> rfl)
theorem G9 (x : He) (y : He) (c0 : (He.blocks x == He.blocks y) = true) (c1 : He.inc x = false) (c2 : He.inc y = false) (c3 : He.dis x = false) (c4 : He.dis y = false) (c5 : (Ve.cur x.v == Ve.cur y.v) = true) (k : Nat) : ag PP GL XX HH NN (k + 4) 134 [A.agg (He.cs x), A.agg (He.cs y)] [] = some ([Res.agg (Vd.cs (ap x y))], []) := by
  rcases bft x.pri with z0 | z0
  · rcases bft y.pri with z1 | z1
    · exact rt (en3 c0 <| eb2 z0 <| en c0 <| eb z0 <| en c0 <| eb5 z1 <| et6 <| ec (bc (k + 2)) <| e0) (rs := [Res.agg (Vd.cs (Vd.mk 4 ((-1 : Int))))]) (by simp only [ap, aw, aq, c0, c1, c2, c3, c4, c5, z0, z1, vq] <;> rfl)
    · rcases bft (mi x.mask == 0) with z2 | z2
      · rcases bft (mi y.mask == 0) with z3 | z3
        · exact rt (en3 c0 <| eb2 z0 <| en c0 <| eb z0 <| en c0 <| eb3 z1 <| eb2 c1 <| eb z1 <| eb c1 <| eb z1 <| ef3 <| eb2 c3 <| ef <| eb c3 <| ef2 <| eb c1 <| eb c2 <| eb c3 <| eb c4 <| eb c5 <| eb4 z2 <| eb z3 <| e0) (rs := [Res.agg (Vd.cs (Vd.mk 1 ((-1 : Int))))]) (by simp only [ap, aw, aq, c0, c1, c2, c3, c4, c5, z0, z1, z2, z3, vq] <;> rfl)
        · exact rt (en3 c0 <| eb2 z0 <| en c0 <| eb z0 <| en c0 <| eb3 z1 <| eb2 c1 <| eb z1 <| eb c1 <| eb z1 <| ef3 <| eb2 c3 <| ef <| eb c3 <| ef2 <| eb c1 <| eb c2 <| eb c3 <| eb c4 <| eb c5 <| eb4 z2 <| eb z3 <| eb4 z1 <| en2 z0 <| eb z1 <| en z0 <| eb z1 <| ef3 <| eb z1 <| ef <| eb z1 <| ef <| ec (bp 2 0 y (k + 1)) <| e0) (rs := [Res.agg (Vd.cs (aw 2 0 y))]) (by simp only [ap, aw, aq, c0, c1, c2, c3, c4, c5, z0, z1, z2, z3, vq] <;> rfl)
      · exact rt (en3 c0 <| eb2 z0 <| en c0 <| eb z0 <| en c0 <| eb3 z1 <| eb2 c1 <| eb z1 <| eb c1 <| eb z1 <| ef3 <| eb2 c3 <| ef <| eb c3 <| ef2 <| eb c1 <| eb c2 <| eb c3 <| eb c4 <| eb c5 <| eb4 z2 <| ef <| eb4 z1 <| en2 z0 <| eb z1 <| en z0 <| eb z1 <| ef3 <| eb z1 <| ef <| eb z1 <| ef <| ec (bp 2 0 y (k + 1)) <| e0) (rs := [Res.agg (Vd.cs (aw 2 0 y))]) (by simp only [ap, aw, aq, c0, c1, c2, c3, c4, c5, z0, z1, z2, vq] <;> rfl)
  · rcases bft (mi x.mask == 0) with z1 | z1
    · rcases bft (mi y.mask == 0) with z2 | z2
      · exact rt (en3 c0 <| eb2 z0 <| en c0 <| eb z0 <| en c0 <| ef3 <| eb2 c1 <| ef <| eb c1 <| ef4 <| eb2 c3 <| ef <| eb c3 <| ef2 <| eb c1 <| eb c2 <| eb c3 <| eb c4 <| eb c5 <| eb4 z1 <| eb z2 <| e0) (rs := [Res.agg (Vd.cs (Vd.mk 1 ((-1 : Int))))]) (by simp only [ap, aw, aq, c0, c1, c2, c3, c4, c5, z0, z1, z2, vq] <;> rfl)
      · rcases bft y.pri with z3 | z3
        · exact rt (en3 c0 <| eb2 z0 <| en c0 <| eb z0 <| en c0 <| ef3 <| eb2 c1 <| ef <| eb c1 <| ef4 <| eb2 c3 <| ef <| eb c3 <| ef2 <| eb c1 <| eb c2 <| eb c3 <| eb c4 <| eb c5 <| eb4 z1 <| eb z2 <| eb8 z3 <| et <| ec (bp 2 1 x (k + 1)) <| e0) (rs := [Res.agg (Vd.cs (aw 2 1 x))]) (by simp only [ap, aw, aq, c0, c1, c2, c3, c4, c5, z0, z1, z2, z3, vq] <;> rfl)
        · rcases bft y.was with z4 | z4
          · rcases bft x.was with z5 | z5
            · exact rt (en3 c0 <| eb2 z0 <| en c0 <| eb z0 <| en c0 <| ef3 <| eb2 c1 <| ef <| eb c1 <| ef4 <| eb2 c3 <| ef <| eb c3 <| ef2 <| eb c1 <| eb c2 <| eb c3 <| eb c4 <| eb c5 <| eb4 z1 <| eb z2 <| eb4 z3 <| en2 z0 <| eb z3 <| en z0 <| eb z3 <| eb3 z4 <| eb z3 <| eb z4 <| eb z3 <| en z5 <| ec (bp 2 0 y (k + 1)) <| e0) (rs := [Res.agg (Vd.cs (aw 2 0 y))]) (by simp only [ap, aw, aq, c0, c1, c2, c3, c4, c5, z0, z1, z2, z3, z4, z5, vq] <;> rfl)
            · exact rt (en3 c0 <| eb2 z0 <| en c0 <| eb z0 <| en c0 <| ef3 <| eb2 c1 <| ef <| eb c1 <| ef4 <| eb2 c3 <| ef <| eb c3 <| ef2 <| eb c1 <| eb c2 <| eb c3 <| eb c4 <| eb c5 <| eb4 z1 <| eb z2 <| eb4 z3 <| en2 z0 <| eb z3 <| en z0 <| eb z3 <| eb3 z4 <| eb z3 <| eb z4 <| eb z3 <| en z5 <| ec (bp 2 1 x (k + 1)) <| e0) (rs := [Res.agg (Vd.cs (aw 2 1 x))]) (by simp only [ap, aw, aq, c0, c1, c2, c3, c4, c5, z0, z1, z2, z3, z4, z5, vq] <;> rfl)
          · exact rt (en3 c0 <| eb2 z0 <| en c0 <| eb z0 <| en c0 <| ef3 <| eb2 c1 <| ef <| eb c1 <| ef4 <| eb2 c3 <| ef <| eb c3 <| ef2 <| eb c1 <| eb c2 <| eb c3 <| eb c4 <| eb c5 <| eb4 z1 <| eb z2 <| eb4 z3 <| en2 z0 <| eb z3 <| en z0 <| eb z3 <| eb3 z4 <| eb z3 <| eb z4 <| eb z3 <| ef <| ec (bp 2 0 y (k + 1)) <| e0) (rs := [Res.agg (Vd.cs (aw 2 0 y))]) (by simp only [ap, aw, aq, c0, c1, c2, c3, c4, c5, z0, z1, z2, z3, z4, vq] <;> rfl)
    · rcases bft y.pri with z2 | z2
      · exact rt (en3 c0 <| eb2 z0 <| en c0 <| eb z0 <| en c0 <| ef3 <| eb2 c1 <| ef <| eb c1 <| ef4 <| eb2 c3 <| ef <| eb c3 <| ef2 <| eb c1 <| eb c2 <| eb c3 <| eb c4 <| eb c5 <| eb4 z1 <| ef <| eb8 z2 <| et <| ec (bp 2 1 x (k + 1)) <| e0) (rs := [Res.agg (Vd.cs (aw 2 1 x))]) (by simp only [ap, aw, aq, c0, c1, c2, c3, c4, c5, z0, z1, z2, vq] <;> rfl)
      · rcases bft y.was with z3 | z3
        · rcases bft x.was with z4 | z4
          · exact rt (en3 c0 <| eb2 z0 <| en c0 <| eb z0 <| en c0 <| ef3 <| eb2 c1 <| ef <| eb c1 <| ef4 <| eb2 c3 <| ef <| eb c3 <| ef2 <| eb c1 <| eb c2 <| eb c3 <| eb c4 <| eb c5 <| eb4 z1 <| ef <| eb4 z2 <| en2 z0 <| eb z2 <| en z0 <| eb z2 <| eb3 z3 <| eb z2 <| eb z3 <| eb z2 <| en z4 <| ec (bp 2 0 y (k + 1)) <| e0) (rs := [Res.agg (Vd.cs (aw 2 0 y))]) (by simp only [ap, aw, aq, c0, c1, c2, c3, c4, c5, z0, z1, z2, z3, z4, vq] <;> rfl)
          · exact rt (en3 c0 <| eb2 z0 <| en c0 <| eb z0 <| en c0 <| ef3 <| eb2 c1 <| ef <| eb c1 <| ef4 <| eb2 c3 <| ef <| eb c3 <| ef2 <| eb c1 <| eb c2 <| eb c3 <| eb c4 <| eb c5 <| eb4 z1 <| ef <| eb4 z2 <| en2 z0 <| eb z2 <| en z0 <| eb z2 <| eb3 z3 <| eb z2 <| eb z3 <| eb z2 <| en z4 <| ec (bp 2 1 x (k + 1)) <| e0) (rs := [Res.agg (Vd.cs (aw 2 1 x))]) (by simp only [ap, aw, aq, c0, c1, c2, c3, c4, c5, z0, z1, z2, z3, z4, vq] <;> rfl)
        · exact rt (en3 c0 <| eb2 z0 <| en c0 <| eb z0 <| en c0 <| ef3 <| eb2 c1 <| ef <| eb c1 <| ef4 <| eb2 c3 <| ef <| eb c3 <| ef2 <| eb c1 <| eb c2 <| eb c3 <| eb c4 <| eb c5 <| eb4 z1 <| ef <| eb4 z2 <| en2 z0 <| eb z2 <| en z0 <| eb z2 <| eb3 z3 <| eb z2 <| eb z3 <| eb z2 <| ef <| ec (bp 2 0 y (k + 1)) <| e0) (rs := [Res.agg (Vd.cs (aw 2 0 y))]) (by simp only [ap, aw, aq, c0, c1, c2, c3, c4, c5, z0, z1, z2, z3, vq] <;> rfl)
theorem Hp (x : He) (y : He) (c0 : (He.blocks x == He.blocks y) = true) (c1 : He.inc x = false) (c2 : He.inc y = false) (c3 : He.dis x = false) (c4 : He.dis y = false) (c5 : (Ve.cur x.v == Ve.cur y.v) = false) (g1 : decide (aQ x.v y.v.cur > 0) = false) (g2 : decide (aQ y.v x.v.cur > 0) = false) (k : Nat) : ag PP GL XX HH NN (k + 4) 134 [A.agg (He.cs x), A.agg (He.cs y)] [] = some ([Res.agg (Vd.cs (ap x y))], []) := by
  rcases bft x.pri with z0 | z0
  · rcases bft y.pri with z1 | z1
    · exact rt (en3 c0 <| eb2 z0 <| en c0 <| eb z0 <| en c0 <| eb5 z1 <| et6 <| ec (bc (k + 2)) <| e0) (by simp only [ap, aw, aq, c0, c1, c2, c3, c4, c5, g1, g2, z0, z1, vq] <;> rfl)
    · exact rt (en3 c0 <| eb2 z0 <| en c0 <| eb z0 <| en c0 <| eb3 z1 <| eb2 c1 <| eb z1 <| eb c1 <| eb z1 <| ef3 <| eb2 c3 <| ef <| eb c3 <| ef2 <| eb c1 <| eb c2 <| eb c3 <| eb c4 <| eb c5 <| ec (aT x.v y.v.cur (k + 2)) <| ec (aT y.v x.v.cur (k + 2)) <| eb3 g1 <| ef <| eb3 g2 <| ef <| ec (bc (k + 2)) <| e0) (by simp only [ap, aw, aq, c0, c1, c2, c3, c4, c5, g1, g2, z0, z1, vq] <;> rfl)
  · exact rt (en3 c0 <| eb2 z0 <| en c0 <| eb z0 <| en c0 <| ef3 <| eb2 c1 <| ef <| eb c1 <| ef4 <| eb2 c3 <| ef <| eb c3 <| ef2 <| eb c1 <| eb c2 <| eb c3 <| eb c4 <| eb c5 <| ec (aT x.v y.v.cur (k + 2)) <| ec (aT y.v x.v.cur (k + 2)) <| eb3 g1 <| ef <| eb3 g2 <| ef <| ec (bc (k + 2)) <| e0) (by simp only [ap, aw, aq, c0, c1, c2, c3, c4, c5, g1, g2, z0, vq] <;> rfl)
theorem FW (x : He) (y : He) (c0 : (He.blocks x == He.blocks y) = true) (c1 : He.inc x = false) (c2 : He.inc y = false) (c3 : He.dis x = false) (c4 : He.dis y = false) (c5 : (Ve.cur x.v == Ve.cur y.v) = false) (p1 : (0 : Int) ≤ aQ x.v y.v.cur) (p2 : aQ x.v y.v.cur ≤ 3) (g1 : decide (aQ x.v y.v.cur > 0) = true) (g3 : decide (aQ x.v y.v.cur < 0) = false) (k : Nat) : ag PP GL XX HH NN (k + 4) 134 [A.agg (He.cs x), A.agg (He.cs y)] [] = some ([Res.agg (Vd.cs (ap x y))], []) := by
  rcases bft x.pri with z0 | z0
  · rcases bft y.pri with z1 | z1
    · exact rt (en3 c0 <| eb2 z0 <| en c0 <| eb z0 <| en c0 <| eb5 z1 <| et6 <| ec (bc (k + 2)) <| e0) (rs := [Res.agg (Vd.cs (Vd.mk 4 ((-1 : Int))))]) (by simp only [ap, aw, aq, c0, c1, c2, c3, c4, c5, g1, g3, cb, z0, z1, vq] <;> rfl)
    · rcases bft (decide (aQ y.v x.v.cur < 0)) with z2 | z2
      · rcases bft (aQ x.v y.v.cur == 0) with z3 | z3
        · exact rt (en3 c0 <| eb2 z0 <| en c0 <| eb z0 <| en c0 <| eb3 z1 <| eb2 c1 <| eb z1 <| eb c1 <| eb z1 <| ef3 <| eb2 c3 <| ef <| eb c3 <| ef2 <| eb c1 <| eb c2 <| eb c3 <| eb c4 <| eb c5 <| ec (aT x.v y.v.cur (k + 2)) <| ec (aT y.v x.v.cur (k + 2)) <| eb3 g1 <| eb z2 <| ep (eq_of_beq z3) <| eg (G.at 0) <| ec (bp 4 0 y (k + 1)) <| e0) (rs := [Res.agg (Vd.cs (aw 4 0 y))]) (by simp only [ap, aw, aq, c0, c1, c2, c3, c4, c5, g1, g3, cb, z0, z1, z2, z3, vq] <;> rfl)
        · rcases bft (aQ x.v y.v.cur == 1) with z4 | z4
          · exact rt (en3 c0 <| eb2 z0 <| en c0 <| eb z0 <| en c0 <| eb3 z1 <| eb2 c1 <| eb z1 <| eb c1 <| eb z1 <| ef3 <| eb2 c3 <| ef <| eb c3 <| ef2 <| eb c1 <| eb c2 <| eb c3 <| eb c4 <| eb c5 <| ec (aT x.v y.v.cur (k + 2)) <| ec (aT y.v x.v.cur (k + 2)) <| eb3 g1 <| eb z2 <| ep (eq_of_beq z4) <| eg (G.at 1) <| ec (bp 2 0 y (k + 1)) <| e0) (rs := [Res.agg (Vd.cs (aw 2 0 y))]) (by simp only [ap, aw, aq, c0, c1, c2, c3, c4, c5, g1, g3, cb, z0, z1, z2, z3, z4, vq] <;> rfl)
          · rcases bft (aQ x.v y.v.cur == 2) with z5 | z5
            · exact rt (en3 c0 <| eb2 z0 <| en c0 <| eb z0 <| en c0 <| eb3 z1 <| eb2 c1 <| eb z1 <| eb c1 <| eb z1 <| ef3 <| eb2 c3 <| ef <| eb c3 <| ef2 <| eb c1 <| eb c2 <| eb c3 <| eb c4 <| eb c5 <| ec (aT x.v y.v.cur (k + 2)) <| ec (aT y.v x.v.cur (k + 2)) <| eb3 g1 <| eb z2 <| ep (eq_of_beq z5) <| eg (G.at 2) <| ec (bp 3 0 y (k + 1)) <| e0) (rs := [Res.agg (Vd.cs (aw 3 0 y))]) (by simp only [ap, aw, aq, c0, c1, c2, c3, c4, c5, g1, g3, cb, z0, z1, z2, z3, z4, z5, vq] <;> rfl)
            · exact rt (en3 c0 <| eb2 z0 <| en c0 <| eb z0 <| en c0 <| eb3 z1 <| eb2 c1 <| eb z1 <| eb c1 <| eb z1 <| ef3 <| eb2 c3 <| ef <| eb c3 <| ef2 <| eb c1 <| eb c2 <| eb c3 <| eb c4 <| eb c5 <| ec (aT x.v y.v.cur (k + 2)) <| ec (aT y.v x.v.cur (k + 2)) <| eb3 g1 <| eb z2 <| ep (show aQ x.v y.v.cur = 3 from by first | omega | (simp only [beq_eq_false_iff_ne, ne_eq] at *; omega) | simp_all) <| eg (G.at 3) <| ec (bp 3 0 y (k + 1)) <| e0) (rs := [Res.agg (Vd.cs (aw 3 0 y))]) (by simp only [ap, aw, aq, c0, c1, c2, c3, c4, c5, g1, g3, cb, z0, z1, z2, z3, z4, z5, vq] <;> rfl)
      · rcases bft (decide (aQ y.v x.v.cur > 0)) with z3 | z3
        · exact rt (en3 c0 <| eb2 z0 <| en c0 <| eb z0 <| en c0 <| eb3 z1 <| eb2 c1 <| eb z1 <| eb c1 <| eb z1 <| ef3 <| eb2 c3 <| ef <| eb c3 <| ef2 <| eb c1 <| eb c2 <| eb c3 <| eb c4 <| eb c5 <| ec (aT x.v y.v.cur (k + 2)) <| ec (aT y.v x.v.cur (k + 2)) <| eb3 g1 <| eb z2 <| eb3 z3 <| eb g3 <| ec (bc (k + 2)) <| e0) (rs := [Res.agg (Vd.cs (Vd.mk 4 ((-1 : Int))))]) (by simp only [ap, aw, aq, c0, c1, c2, c3, c4, c5, g1, g3, cb, z0, z1, z2, z3, vq] <;> rfl)
        · exact rt (en3 c0 <| eb2 z0 <| en c0 <| eb z0 <| en c0 <| eb3 z1 <| eb2 c1 <| eb z1 <| eb c1 <| eb z1 <| ef3 <| eb2 c3 <| ef <| eb c3 <| ef2 <| eb c1 <| eb c2 <| eb c3 <| eb c4 <| eb c5 <| ec (aT x.v y.v.cur (k + 2)) <| ec (aT y.v x.v.cur (k + 2)) <| eb3 g1 <| eb z2 <| eb3 z3 <| ef <| ec (bc (k + 2)) <| e0) (rs := [Res.agg (Vd.cs (Vd.mk 4 ((-1 : Int))))]) (by simp only [ap, aw, aq, c0, c1, c2, c3, c4, c5, g1, g3, cb, z0, z1, z2, z3, vq] <;> rfl)
  · rcases bft (decide (aQ y.v x.v.cur < 0)) with z1 | z1
    · rcases bft (aQ x.v y.v.cur == 0) with z2 | z2
      · exact rt (en3 c0 <| eb2 z0 <| en c0 <| eb z0 <| en c0 <| ef3 <| eb2 c1 <| ef <| eb c1 <| ef4 <| eb2 c3 <| ef <| eb c3 <| ef2 <| eb c1 <| eb c2 <| eb c3 <| eb c4 <| eb c5 <| ec (aT x.v y.v.cur (k + 2)) <| ec (aT y.v x.v.cur (k + 2)) <| eb3 g1 <| eb z1 <| ep (eq_of_beq z2) <| eg (G.at 0) <| ec (bp 4 0 y (k + 1)) <| e0) (rs := [Res.agg (Vd.cs (aw 4 0 y))]) (by simp only [ap, aw, aq, c0, c1, c2, c3, c4, c5, g1, g3, cb, z0, z1, z2, vq] <;> rfl)
      · rcases bft (aQ x.v y.v.cur == 1) with z3 | z3
        · exact rt (en3 c0 <| eb2 z0 <| en c0 <| eb z0 <| en c0 <| ef3 <| eb2 c1 <| ef <| eb c1 <| ef4 <| eb2 c3 <| ef <| eb c3 <| ef2 <| eb c1 <| eb c2 <| eb c3 <| eb c4 <| eb c5 <| ec (aT x.v y.v.cur (k + 2)) <| ec (aT y.v x.v.cur (k + 2)) <| eb3 g1 <| eb z1 <| ep (eq_of_beq z3) <| eg (G.at 1) <| ec (bp 2 0 y (k + 1)) <| e0) (rs := [Res.agg (Vd.cs (aw 2 0 y))]) (by simp only [ap, aw, aq, c0, c1, c2, c3, c4, c5, g1, g3, cb, z0, z1, z2, z3, vq] <;> rfl)
        · rcases bft (aQ x.v y.v.cur == 2) with z4 | z4
          · exact rt (en3 c0 <| eb2 z0 <| en c0 <| eb z0 <| en c0 <| ef3 <| eb2 c1 <| ef <| eb c1 <| ef4 <| eb2 c3 <| ef <| eb c3 <| ef2 <| eb c1 <| eb c2 <| eb c3 <| eb c4 <| eb c5 <| ec (aT x.v y.v.cur (k + 2)) <| ec (aT y.v x.v.cur (k + 2)) <| eb3 g1 <| eb z1 <| ep (eq_of_beq z4) <| eg (G.at 2) <| ec (bp 3 0 y (k + 1)) <| e0) (rs := [Res.agg (Vd.cs (aw 3 0 y))]) (by simp only [ap, aw, aq, c0, c1, c2, c3, c4, c5, g1, g3, cb, z0, z1, z2, z3, z4, vq] <;> rfl)
          · exact rt (en3 c0 <| eb2 z0 <| en c0 <| eb z0 <| en c0 <| ef3 <| eb2 c1 <| ef <| eb c1 <| ef4 <| eb2 c3 <| ef <| eb c3 <| ef2 <| eb c1 <| eb c2 <| eb c3 <| eb c4 <| eb c5 <| ec (aT x.v y.v.cur (k + 2)) <| ec (aT y.v x.v.cur (k + 2)) <| eb3 g1 <| eb z1 <| ep (show aQ x.v y.v.cur = 3 from by first | omega | (simp only [beq_eq_false_iff_ne, ne_eq] at *; omega) | simp_all) <| eg (G.at 3) <| ec (bp 3 0 y (k + 1)) <| e0) (rs := [Res.agg (Vd.cs (aw 3 0 y))]) (by simp only [ap, aw, aq, c0, c1, c2, c3, c4, c5, g1, g3, cb, z0, z1, z2, z3, z4, vq] <;> rfl)
    · rcases bft (decide (aQ y.v x.v.cur > 0)) with z2 | z2
      · exact rt (en3 c0 <| eb2 z0 <| en c0 <| eb z0 <| en c0 <| ef3 <| eb2 c1 <| ef <| eb c1 <| ef4 <| eb2 c3 <| ef <| eb c3 <| ef2 <| eb c1 <| eb c2 <| eb c3 <| eb c4 <| eb c5 <| ec (aT x.v y.v.cur (k + 2)) <| ec (aT y.v x.v.cur (k + 2)) <| eb3 g1 <| eb z1 <| eb3 z2 <| eb g3 <| ec (bc (k + 2)) <| e0) (rs := [Res.agg (Vd.cs (Vd.mk 4 ((-1 : Int))))]) (by simp only [ap, aw, aq, c0, c1, c2, c3, c4, c5, g1, g3, cb, z0, z1, z2, vq] <;> rfl)
      · exact rt (en3 c0 <| eb2 z0 <| en c0 <| eb z0 <| en c0 <| ef3 <| eb2 c1 <| ef <| eb c1 <| ef4 <| eb2 c3 <| ef <| eb c3 <| ef2 <| eb c1 <| eb c2 <| eb c3 <| eb c4 <| eb c5 <| ec (aT x.v y.v.cur (k + 2)) <| ec (aT y.v x.v.cur (k + 2)) <| eb3 g1 <| eb z1 <| eb3 z2 <| ef <| ec (bc (k + 2)) <| e0) (rs := [Res.agg (Vd.cs (Vd.mk 4 ((-1 : Int))))]) (by simp only [ap, aw, aq, c0, c1, c2, c3, c4, c5, g1, g3, cb, z0, z1, z2, vq] <;> rfl)
theorem Ff (x : He) (y : He) (c0 : (He.blocks x == He.blocks y) = true) (c1 : He.inc x = false) (c2 : He.inc y = false) (c3 : He.dis x = false) (c4 : He.dis y = false) (c5 : (Ve.cur x.v == Ve.cur y.v) = false) (p1 : (0 : Int) ≤ aQ y.v x.v.cur) (p2 : aQ y.v x.v.cur ≤ 3) (g1 : decide (aQ x.v y.v.cur > 0) = false) (g2 : decide (aQ y.v x.v.cur > 0) = true) (k : Nat) : ag PP GL XX HH NN (k + 4) 134 [A.agg (He.cs x), A.agg (He.cs y)] [] = some ([Res.agg (Vd.cs (ap x y))], []) := by
  rcases bft x.pri with z0 | z0
  · rcases bft y.pri with z1 | z1
    · exact rt (en3 c0 <| eb2 z0 <| en c0 <| eb z0 <| en c0 <| eb5 z1 <| et6 <| ec (bc (k + 2)) <| e0) (rs := [Res.agg (Vd.cs (Vd.mk 4 ((-1 : Int))))]) (by simp only [ap, aw, aq, c0, c1, c2, c3, c4, c5, g1, g2, cb, z0, z1, vq] <;> rfl)
    · rcases bft (decide (aQ x.v y.v.cur < 0)) with z2 | z2
      · rcases bft (aQ y.v x.v.cur == 0) with z3 | z3
        · exact rt (en3 c0 <| eb2 z0 <| en c0 <| eb z0 <| en c0 <| eb3 z1 <| eb2 c1 <| eb z1 <| eb c1 <| eb z1 <| ef3 <| eb2 c3 <| ef <| eb c3 <| ef2 <| eb c1 <| eb c2 <| eb c3 <| eb c4 <| eb c5 <| ec (aT x.v y.v.cur (k + 2)) <| ec (aT y.v x.v.cur (k + 2)) <| eb3 g1 <| ef <| eb3 g2 <| eb z2 <| ep (eq_of_beq z3) <| eg (G.at 0) <| ec (bp 4 1 x (k + 1)) <| e0) (rs := [Res.agg (Vd.cs (aw 4 1 x))]) (by simp only [ap, aw, aq, c0, c1, c2, c3, c4, c5, g1, g2, cb, z0, z1, z2, z3, vq] <;> rfl)
        · rcases bft (aQ y.v x.v.cur == 1) with z4 | z4
          · exact rt (en3 c0 <| eb2 z0 <| en c0 <| eb z0 <| en c0 <| eb3 z1 <| eb2 c1 <| eb z1 <| eb c1 <| eb z1 <| ef3 <| eb2 c3 <| ef <| eb c3 <| ef2 <| eb c1 <| eb c2 <| eb c3 <| eb c4 <| eb c5 <| ec (aT x.v y.v.cur (k + 2)) <| ec (aT y.v x.v.cur (k + 2)) <| eb3 g1 <| ef <| eb3 g2 <| eb z2 <| ep (eq_of_beq z4) <| eg (G.at 1) <| ec (bp 2 1 x (k + 1)) <| e0) (rs := [Res.agg (Vd.cs (aw 2 1 x))]) (by simp only [ap, aw, aq, c0, c1, c2, c3, c4, c5, g1, g2, cb, z0, z1, z2, z3, z4, vq] <;> rfl)
          · rcases bft (aQ y.v x.v.cur == 2) with z5 | z5
            · exact rt (en3 c0 <| eb2 z0 <| en c0 <| eb z0 <| en c0 <| eb3 z1 <| eb2 c1 <| eb z1 <| eb c1 <| eb z1 <| ef3 <| eb2 c3 <| ef <| eb c3 <| ef2 <| eb c1 <| eb c2 <| eb c3 <| eb c4 <| eb c5 <| ec (aT x.v y.v.cur (k + 2)) <| ec (aT y.v x.v.cur (k + 2)) <| eb3 g1 <| ef <| eb3 g2 <| eb z2 <| ep (eq_of_beq z5) <| eg (G.at 2) <| ec (bp 3 1 x (k + 1)) <| e0) (rs := [Res.agg (Vd.cs (aw 3 1 x))]) (by simp only [ap, aw, aq, c0, c1, c2, c3, c4, c5, g1, g2, cb, z0, z1, z2, z3, z4, z5, vq] <;> rfl)
            · exact rt (en3 c0 <| eb2 z0 <| en c0 <| eb z0 <| en c0 <| eb3 z1 <| eb2 c1 <| eb z1 <| eb c1 <| eb z1 <| ef3 <| eb2 c3 <| ef <| eb c3 <| ef2 <| eb c1 <| eb c2 <| eb c3 <| eb c4 <| eb c5 <| ec (aT x.v y.v.cur (k + 2)) <| ec (aT y.v x.v.cur (k + 2)) <| eb3 g1 <| ef <| eb3 g2 <| eb z2 <| ep (show aQ y.v x.v.cur = 3 from by first | omega | (simp only [beq_eq_false_iff_ne, ne_eq] at *; omega) | simp_all) <| eg (G.at 3) <| ec (bp 3 1 x (k + 1)) <| e0) (rs := [Res.agg (Vd.cs (aw 3 1 x))]) (by simp only [ap, aw, aq, c0, c1, c2, c3, c4, c5, g1, g2, cb, z0, z1, z2, z3, z4, z5, vq] <;> rfl)
      · exact rt (en3 c0 <| eb2 z0 <| en c0 <| eb z0 <| en c0 <| eb3 z1 <| eb2 c1 <| eb z1 <| eb c1 <| eb z1 <| ef3 <| eb2 c3 <| ef <| eb c3 <| ef2 <| eb c1 <| eb c2 <| eb c3 <| eb c4 <| eb c5 <| ec (aT x.v y.v.cur (k + 2)) <| ec (aT y.v x.v.cur (k + 2)) <| eb3 g1 <| ef <| eb3 g2 <| eb z2 <| ec (bc (k + 2)) <| e0) (rs := [Res.agg (Vd.cs (Vd.mk 4 ((-1 : Int))))]) (by simp only [ap, aw, aq, c0, c1, c2, c3, c4, c5, g1, g2, cb, z0, z1, z2, vq] <;> rfl)
  · rcases bft (decide (aQ x.v y.v.cur < 0)) with z1 | z1
    · rcases bft (aQ y.v x.v.cur == 0) with z2 | z2
      · exact rt (en3 c0 <| eb2 z0 <| en c0 <| eb z0 <| en c0 <| ef3 <| eb2 c1 <| ef <| eb c1 <| ef4 <| eb2 c3 <| ef <| eb c3 <| ef2 <| eb c1 <| eb c2 <| eb c3 <| eb c4 <| eb c5 <| ec (aT x.v y.v.cur (k + 2)) <| ec (aT y.v x.v.cur (k + 2)) <| eb3 g1 <| ef <| eb3 g2 <| eb z1 <| ep (eq_of_beq z2) <| eg (G.at 0) <| ec (bp 4 1 x (k + 1)) <| e0) (rs := [Res.agg (Vd.cs (aw 4 1 x))]) (by simp only [ap, aw, aq, c0, c1, c2, c3, c4, c5, g1, g2, cb, z0, z1, z2, vq] <;> rfl)
      · rcases bft (aQ y.v x.v.cur == 1) with z3 | z3
        · exact rt (en3 c0 <| eb2 z0 <| en c0 <| eb z0 <| en c0 <| ef3 <| eb2 c1 <| ef <| eb c1 <| ef4 <| eb2 c3 <| ef <| eb c3 <| ef2 <| eb c1 <| eb c2 <| eb c3 <| eb c4 <| eb c5 <| ec (aT x.v y.v.cur (k + 2)) <| ec (aT y.v x.v.cur (k + 2)) <| eb3 g1 <| ef <| eb3 g2 <| eb z1 <| ep (eq_of_beq z3) <| eg (G.at 1) <| ec (bp 2 1 x (k + 1)) <| e0) (rs := [Res.agg (Vd.cs (aw 2 1 x))]) (by simp only [ap, aw, aq, c0, c1, c2, c3, c4, c5, g1, g2, cb, z0, z1, z2, z3, vq] <;> rfl)
        · rcases bft (aQ y.v x.v.cur == 2) with z4 | z4
          · exact rt (en3 c0 <| eb2 z0 <| en c0 <| eb z0 <| en c0 <| ef3 <| eb2 c1 <| ef <| eb c1 <| ef4 <| eb2 c3 <| ef <| eb c3 <| ef2 <| eb c1 <| eb c2 <| eb c3 <| eb c4 <| eb c5 <| ec (aT x.v y.v.cur (k + 2)) <| ec (aT y.v x.v.cur (k + 2)) <| eb3 g1 <| ef <| eb3 g2 <| eb z1 <| ep (eq_of_beq z4) <| eg (G.at 2) <| ec (bp 3 1 x (k + 1)) <| e0) (rs := [Res.agg (Vd.cs (aw 3 1 x))]) (by simp only [ap, aw, aq, c0, c1, c2, c3, c4, c5, g1, g2, cb, z0, z1, z2, z3, z4, vq] <;> rfl)
          · exact rt (en3 c0 <| eb2 z0 <| en c0 <| eb z0 <| en c0 <| ef3 <| eb2 c1 <| ef <| eb c1 <| ef4 <| eb2 c3 <| ef <| eb c3 <| ef2 <| eb c1 <| eb c2 <| eb c3 <| eb c4 <| eb c5 <| ec (aT x.v y.v.cur (k + 2)) <| ec (aT y.v x.v.cur (k + 2)) <| eb3 g1 <| ef <| eb3 g2 <| eb z1 <| ep (show aQ y.v x.v.cur = 3 from by first | omega | (simp only [beq_eq_false_iff_ne, ne_eq] at *; omega) | simp_all) <| eg (G.at 3) <| ec (bp 3 1 x (k + 1)) <| e0) (rs := [Res.agg (Vd.cs (aw 3 1 x))]) (by simp only [ap, aw, aq, c0, c1, c2, c3, c4, c5, g1, g2, cb, z0, z1, z2, z3, z4, vq] <;> rfl)
    · exact rt (en3 c0 <| eb2 z0 <| en c0 <| eb z0 <| en c0 <| ef3 <| eb2 c1 <| ef <| eb c1 <| ef4 <| eb2 c3 <| ef <| eb c3 <| ef2 <| eb c1 <| eb c2 <| eb c3 <| eb c4 <| eb c5 <| ec (aT x.v y.v.cur (k + 2)) <| ec (aT y.v x.v.cur (k + 2)) <| eb3 g1 <| ef <| eb3 g2 <| eb z1 <| ec (bc (k + 2)) <| e0) (rs := [Res.agg (Vd.cs (Vd.mk 4 ((-1 : Int))))]) (by simp only [ap, aw, aq, c0, c1, c2, c3, c4, c5, g1, g2, cb, z0, z1, vq] <;> rfl)
theorem sM (x y : He) (k : Nat) : ag PP GL XX HH NN (k + 4) 134 [.agg x.cs, .agg y.cs] [] = some ([.agg (ap x y).cs], []) := by
  cases c0 : x.blocks == y.blocks with
  | false => exact HA x y c0 k
  | true =>
    cases c1 : x.inc with
    | true => exact Hk x y c0 c1 k
    | false =>
      cases c2 : y.inc with
      | true => exact HD x y c0 c1 c2 k
      | false =>
        cases c3 : x.dis with
        | true => exact HY x y c0 c1 c2 c3 k
        | false =>
          cases c4 : y.dis with
          | true => exact Hv x y c0 c1 c2 c3 c4 k
          | false =>
            cases c5 : x.v.cur == y.v.cur with
            | true => exact G9 x y c0 c1 c2 c3 c4 c5 k
            | false =>
              rcases kl x.v y.v.cur with h | h | h | h | h
              case inr.inr.inl => exact FW x y c0 c1 c2 c3 c4 c5 (by rw [h]; decide) (by rw [h]; decide) (by rw [h]; rfl) (by rw [h]; rfl) k
              case inr.inr.inr.inl => exact FW x y c0 c1 c2 c3 c4 c5 (by rw [h]; decide) (by rw [h]; decide) (by rw [h]; rfl) (by rw [h]; rfl) k
              case inr.inr.inr.inr => exact FW x y c0 c1 c2 c3 c4 c5 (by rw [h]; decide) (by rw [h]; decide) (by rw [h]; rfl) (by rw [h]; rfl) k
              all_goals
                have g1 : decide (aQ x.v y.v.cur > 0) = false := by rw [h]; rfl
                rcases kl y.v x.v.cur with e | e | e | e | e
                case inr.inr.inl => exact Ff x y c0 c1 c2 c3 c4 c5 (by rw [e]; decide) (by rw [e]; decide) g1 (by rw [e]; rfl) k
                case inr.inr.inr.inl => exact Ff x y c0 c1 c2 c3 c4 c5 (by rw [e]; decide) (by rw [e]; decide) g1 (by rw [e]; rfl) k
                case inr.inr.inr.inr => exact Ff x y c0 c1 c2 c3 c4 c5 (by rw [e]; decide) (by rw [e]; decide) g1 (by rw [e]; rfl) k
                all_goals exact Hp x y c0 c1 c2 c3 c4 c5 g1 (by rw [e]; rfl) k
end Go.Dm
namespace Go.Dm
open Go
set_option maxHeartbeats 1000000
theorem wU (a b : BitVec 32) (k : Nat) : ag PP GL XX HH NN (k + 6) 136 [.c (.slice 1 [[w4 (mi a)], [w4 (mi b)]])] [] = some ([.c (w4 (mi (a ||| b)))], []) :=
  (DX [a, b] (by simp) k).trans (by simp [orI])
theorem Fv (a : BitVec 32) (i : Int) (k : Nat) : ag PP GL XX HH NN (k + 4) 131 [.c (w4 (mi a)), .c (.slice 1 [[ii i]])] [] = some ([.c (w4 (mi (yp a [i])))], []) := G6 a [i] (by simp) k
theorem qL (a : BitVec 32) (i : Int) (k : Nat) : ag PP GL XX HH NN (k + 4) 163 [.c (w4 (mi a)), .c (.slice 1 [[ii i]])] [] = some ([.c (w4 (mi (qT a [i])))], []) := Hf a [i] (by simp) k
theorem Ad (v : Vd) (x : He) (y : He) (k : Nat) : ag PP GL XX HH NN (k + 7) 135 [A.agg (Vd.cs v), A.agg (He.cs x), A.agg (He.cs y)] [] = some ([Res.c (w4 (mi (tN v x y)))], []) := by
  rcases bft (Vd.kind v == 2) with z0 | z0
  · exact rt (eb z0 <| ec (wU x.mask y.mask k) <| e0) (by simp only [tN, z0, vq] <;> rfl)
  · rcases bft (Vd.kind v == 3) with z1 | z1
    · exact rt (eb z0 <| eb z1 <| ec (Hy x.blocks (k + 3)) <| e0) (by simp only [tN, z0, z1, vq] <;> rfl)
    · exact rt (eb z0 <| eb z1 <| e0) (by simp only [tN, z0, z1, vq] <;> rfl)
theorem rA (d : Dk) (s : Su) (hs : d.sure.length ≤ 1000000) (hc : d.cache.length ≤ 900) (k : Nat) : ag PP GL XX HH NN (k + 6) 127 [.agg d.cs, .agg s.cs] [] = some ([.agg (bW d s).1.cs, .c (ii (bW d s).2)], []) :=
  BZ d s (by rw [gM]; omega) (by rw [fK]; exact hs) (by have := dT d 0 (aY s).1; omega) k
theorem zY (d : Dk) (m : BitVec 32) (hs : d.sure.length ≤ 1000000) (hc : d.cache.length ≤ 900) (k : Nat) : ag PP GL XX HH NN (k + 6) 154 [.agg d.cs, .c (w4 (mi m))] [] = some ([.agg (gd d m).1.cs, .c (ii (gd d m).2)], []) :=
  GV d m (by rw [gM]; omega) (by rw [pj]; exact hs) (by have := ng d m; omega) k
theorem AB (d : Dk) (m : BitVec 32) (hc : d.cache.length ≤ 900) (k : Nat) : ag PP GL XX HH NN (k + 5) 164 [.agg d.cs, .c (w4 (mi m))] [] = some ([.agg (dx d m).1.cs, .c (ii (dx d m).2)], []) :=
  BK d m (by rw [gM]; omega) k
theorem Dc (d : Dk) (i : Int) (x : ByteArray) (hs : d.sure.length ≤ 1000000) (hc : d.cache.length ≤ 900) (k : Nat) : ag PP GL XX HH NN (k + 5) 132 [.agg d.cs, .c (ii i), .c (st x)] [] = some ([.agg (gS d i x).1.cs, .c (ii (gS d i x).2)], []) :=
  Fx d i x (by rw [gM]; omega) (by rw [fK]; exact hs) (by have := dT d (IntKind.wrap .i64 (i + 2)) x; omega) k
theorem kV (d : Dk) (hs : d.sure.length ≤ 1000000) (hc : d.cache.length ≤ 900) (h0 : ByteArray.size (aK d 0).1 ≤ 1000000) (h1 : ByteArray.size (aK d 1).1 ≤ 1000000) (k : Nat) : ag PP GL XX HH NN (k + 8) 82 [A.agg (Dk.cs d)] [] = some ([Res.agg (So.cs (bh d).1), Res.c (ii (bh d).2)], []) := by
  rcases bft (Prod.snd (gQ d) == 0) with z0 | z0
  · rcases bft (Prod.snd (eR d) == 0) with z1 | z1
    · rcases bft (Prod.snd (iD d) == 0) with z2 | z2
      · exact rt (ec (yN d (show d.cache.length ≤ 1000000 from by omega) h0 k) <| en z0 <| ec (B4 d (show d.cache.length ≤ 1000000 from by omega) h1 k) <| en z1 <| ec (G3 d hs (show d.cache.length ≤ 1000000 from by omega) (k + 2)) <| en z2 <| e0) (by simp only [bh, so0, su0, z0, z1, z2, vq] <;> rfl)
      · exact rt (ec (yN d (show d.cache.length ≤ 1000000 from by omega) h0 k) <| en z0 <| ec (B4 d (show d.cache.length ≤ 1000000 from by omega) h1 k) <| en z1 <| ec (G3 d hs (show d.cache.length ≤ 1000000 from by omega) (k + 2)) <| en z2 <| e0) (by simp only [bh, so0, su0, z0, z1, z2, vq] <;> rfl)
    · exact rt (ec (yN d (show d.cache.length ≤ 1000000 from by omega) h0 k) <| en z0 <| ec (B4 d (show d.cache.length ≤ 1000000 from by omega) h1 k) <| en z1 <| e0) (by simp only [bh, so0, su0, z0, z1, vq] <;> rfl)
  · exact rt (ec (yN d (show d.cache.length ≤ 1000000 from by omega) h0 k) <| en z0 <| e0) (by simp only [bh, so0, su0, z0, vq] <;> rfl)
theorem sc (s : So) (b : Su) (hs : s.disk.sure.length ≤ 1000000) (hc : s.disk.cache.length ≤ 900) (k : Nat) : ag PP GL XX HH NN (k + 7) 97 [A.agg (So.cs s), A.agg (Su.cs b)] [] = some ([Res.agg (So.cs (bS s b).1), Res.c (ii (bS s b).2)], []) := by
  rcases bft (Su.blocks b == Su.blocks s.super && (Ve.cur b.v == Ve.cur s.super.v && (Ve.bit b.v == Ve.bit s.super.v && (Ve.o0 b.v == Ve.o0 s.super.v && (Ve.o1 b.v == Ve.o1 s.super.v && true) && true)) && (Su.inc b == Su.inc s.super && (Su.pri b == Su.pri s.super && (Su.dis b == Su.dis s.super && true))))) with z0 | z0
  · exact rt (eb z0 <| e0) (by simp only [bS, EL, z0, vq] <;> rfl)
  · rcases bft (Prod.snd (bW s.disk b) == 0) with z1 | z1
    · exact rt (eb z0 <| ec (rA s.disk b hs hc k) <| eb z1 <| e0) (by simp only [bS, EL, z0, z1, vq] <;> rfl)
    · exact rt (eb z0 <| ec (rA s.disk b hs hc k) <| eb z1 <| e0) (by simp only [bS, EL, z0, z1, vq] <;> rfl)
theorem Av (s : So) (m : BitVec 32) (hs : s.disk.sure.length ≤ 1000000) (hc : s.disk.cache.length ≤ 900) (k : Nat) : ag PP GL XX HH NN (k + 7) 130 [A.agg (So.cs s), A.c (w4 (mi m))] [] = some ([Res.agg (So.cs (jC s m).1), Res.c (ii (jC s m).2)], []) := by
  rcases bft (mi m == mi s.mask) with z0 | z0
  · exact rt (eb z0 <| e0) (by simp only [jC, z0, vq] <;> rfl)
  · rcases bft (Prod.snd (gd s.disk m) == 0) with z1 | z1
    · exact rt (eb z0 <| ec (zY s.disk m hs hc k) <| eb z1 <| e0) (by simp only [jC, z0, z1, vq] <;> rfl)
    · exact rt (eb z0 <| ec (zY s.disk m hs hc k) <| eb z1 <| e0) (by simp only [jC, z0, z1, vq] <;> rfl)
theorem zN (s : So) (i : Int) (hs : s.disk.sure.length ≤ 1000000) (hc : s.disk.cache.length ≤ 900) (k : Nat) : ag PP GL XX HH NN (k + 8) 100 [A.agg (So.cs s), A.c (ii i)] [] = some ([Res.agg (So.cs (gR s i).1), Res.c (ii (gR s i).2)], []) := by
  rcases bft (decide (i < 0)) with z0 | z0
  · exact rt (eb6 z0 <| et <| e0) (by simp only [gR, xM, z0, vq] <;> rfl)
  · rcases bft (decide (i ≥ Su.blocks s.super)) with z1 | z1
    · exact rt (eb6 z0 <| eb z1 <| e0) (by simp only [gR, xM, z0, z1, vq] <;> rfl)
    · exact rt (eb6 z0 <| eb z1 <| ec (Fv s.mask i (k + 3)) <| ec (Av s (yp s.mask [i]) hs hc k) <| e0) (by simp only [gR, xM, z0, z1, vq] <;> rfl)
theorem CQ (s : So) (i : Int) (hc : s.disk.cache.length ≤ 900) (k : Nat) : ag PP GL XX HH NN (k + 6) 138 [A.agg (So.cs s), A.c (ii i)] [] = some ([Res.agg (So.cs (gD s i).1), Res.c (ii (gD s i).2)], []) := by
  rcases bft (decide (i < 0)) with z0 | z0
  · exact rt (eb6 z0 <| et <| e0) (by simp only [gD, xM, z0, vq] <;> rfl)
  · rcases bft (decide (i ≥ Su.blocks s.super)) with z1 | z1
    · exact rt (eb6 z0 <| eb z1 <| e0) (by simp only [gD, xM, z0, z1, vq] <;> rfl)
    · rcases bft (mi (qT s.mask [i]) == mi s.mask) with z2 | z2
      · exact rt (eb6 z0 <| eb z1 <| ec (qL s.mask i (k + 1)) <| eb z2 <| e0) (by simp only [gD, xM, z0, z1, z2, vq] <;> rfl)
      · rcases bft (Prod.snd (dx s.disk (qT s.mask [i])) == 0) with z3 | z3
        · exact rt (eb6 z0 <| eb z1 <| ec (qL s.mask i (k + 1)) <| eb z2 <| ec (AB s.disk (qT s.mask [i]) hc k) <| eb z3 <| e0) (by simp only [gD, xM, z0, z1, z2, z3, vq] <;> rfl)
        · exact rt (eb6 z0 <| eb z1 <| ec (qL s.mask i (k + 1)) <| eb z2 <| ec (AB s.disk (qT s.mask [i]) hc k) <| eb z3 <| e0) (by simp only [gD, xM, z0, z1, z2, z3, vq] <;> rfl)
theorem rL (s : So) (m : BitVec 32) (hs : s.disk.sure.length ≤ 1000000) (hc : s.disk.cache.length ≤ 900) (k : Nat) : ag PP GL XX HH NN (k + 8) 106 [A.agg (So.cs s), A.c (w4 (mi m))] [] = some ([Res.agg (So.cs (qg s m).1), Res.c (ii (qg s m).2)], []) := by
  exact rt (ec (wU s.mask m (k + 1)) <| ec (Av s (So.mask s ||| m) hs hc k) <| e0) (by simp only [qg, vq] <;> rfl)
theorem ze (s : So) (i : Int) (x : ByteArray) (hs : s.disk.sure.length ≤ 1000000) (hc : s.disk.cache.length ≤ 900) (k : Nat) : ag PP GL XX HH NN (k + 6) 102 [A.agg (So.cs s), A.c (ii i), A.c (st x)] [] = some ([Res.agg (So.cs (ft s i x).1), Res.c (ii (ft s i x).2)], []) := by
  exact rt (ec (Dc s.disk i x hs hc k) <| e0) (by simp only [ft, vq] <;> rfl)
theorem Ap (s : So) (i : Int) (hc : s.disk.cache.length ≤ 900) (k : Nat) : ag PP GL XX HH NN (k + 5) 62 [A.agg (So.cs s), A.c (ii i)] [] = some ([Res.c (st (ak s.disk i).1), Res.c (ii (ak s.disk i).2)], []) := by
  exact rt (ec (wo s.disk i (show s.disk.cache.length ≤ 1000000 from by omega) k) <| e0) rfl
end Go.Dm
namespace Go.Dm
open Go
set_option maxHeartbeats 1000000
theorem r3 (n : Nd) (k : Nat) : ag PP GL XX HH NN (k + 2) 39 [A.agg (Nd.cs n)] [] = some ([Res.agg (Nd.cs (fQ n))], []) := by
  exact rt (ec (DC n.store.disk k) <| e0) (by simp only [fQ, rq0, he0, su0, vq] <;> rfl)
theorem br (n : Nd) (id : Int) (e : Int) (x : ByteArray) (k : Nat) : ag PP GL XX HH NN (k + 1) 41 [A.agg (Nd.cs n), A.c (ii id), A.c (ii e), A.c (st x)] [] = some ([Res.agg (Ou.cs (ae n id e x))], []) := by
  exact rt (e0) (by simp only [ae, vq] <;> rfl)
theorem B6 (n : Nd) (p : Pk) (q : Pk) (hq : q = ({ p with ses := Nd.ses n } : Pk)) (hd : p.data.size ≤ 900000) (hL : ∀ k, ag PP GL XX HH NN (k + 8) 96 [A.agg (Pk.cs ({ p with ses := Nd.ses n } : Pk))] [] = some ([Res.c (st (jy q).1), Res.c (ii (jy q).2)], [])) (k : Nat) : ag PP GL XX HH NN (k + 9) 60 [A.agg (Nd.cs n), A.agg (Pk.cs p)] [] = some ([Res.agg (Ou.cs (Ou.mk 1 n.id 0 0 (jy q).1))], []) := by
  exact rt (ec (hL k) <| e0) rfl
theorem d4 (n : Nd) (p : Pk) (hd : p.data.size ≤ 900000) (k : Nat) : ag PP GL XX HH NN (k + 9) 60 [.agg n.cs, .agg p.cs] [] = some ([.agg (az n p).cs], []) :=
  B6 n p _ rfl hd (fun k => BY { p with ses := n.ses } hd k) k
theorem bw (n : Nd) (b : Su) (hs : n.store.disk.sure.length ≤ 1000000) (hc : n.store.disk.cache.length ≤ 900) (k : Nat) : ag PP GL XX HH NN (k + 8) 61 [A.agg (Nd.cs n), A.agg (Su.cs b)] [] = some ([Res.agg (Nd.cs (ab n b).1), Res.c (bo (ab n b).2)], []) := by
  rcases bft (Prod.snd (bS n.store b) == 0) with z0 | z0
  · exact rt (ec (sc n.store b hs hc k) <| en z0 <| e0) (by simp only [ab, z0, vq] <;> rfl)
  · exact rt (ec (sc n.store b hs hc k) <| en z0 <| ec (r3 (({ n with store := Prod.fst (bS n.store b) } : Nd)) (k + 5)) <| e0) (by simp only [ab, z0, vq] <;> rfl)
theorem bM (n : Nd) (id : Int) (e : Int) (k : Nat) : ag PP GL XX HH NN (k + 2) 58 [A.agg (Nd.cs n), A.c (ii id), A.c (ii e)] [] = some ([Res.agg (Nd.cs n), Res.top 5 (List.map Ou.cs [ae n id e ⟨#[]⟩])], []) := by
  exact rt (ec (br n id e ⟨#[]⟩ k) <| e0) rfl
theorem iV (n : Nd) (k : Nat) : ag PP GL XX HH NN (k + 1) 59 [A.agg (Nd.cs n)] [] = some ([Res.c (bo (iB n))], []) := by
  rcases bft (Nd.state n == 2) with z0 | z0
  · exact rt (eb4 z0 <| e0) (by simp only [iB, z0, vq] <;> rfl)
  · exact rt (eb4 z0 <| e0) (by simp only [iB, z0, vq] <;> rfl)
end Go.Dm
namespace Go.Dm
open Go
set_option maxHeartbeats 1000000
theorem pd (n : Nd) (id : Int) (hs : n.store.disk.sure.length ≤ 1000000) (hc : n.store.disk.cache.length ≤ 900) (k : Nat) : ag PP GL XX HH NN (k + 10) 30 [A.agg (Nd.cs n), A.c (ii id)] [] = some ([Res.agg (Nd.cs (bz n id).1), Res.top 5 (List.map Ou.cs (bz n id).2)], []) := by
  rcases bft n.up with z0 | z0
  · rcases bft n.primary with z1 | z1
    · exact rt (en z0 <| eb z1 <| ec (bM n id 8 (k + 7)) <| eq1 1 <| e0) (rs := [Res.agg (Nd.cs n), Res.top 5 (List.map Ou.cs [(Ou.mk 2 n.id id 8 ⟨#[]⟩)])]) (by simp only [bz, pkk, he0, z0, z1, vq] <;> rfl)
    · rcases bft n.store.super.inc with z2 | z2
      · exact rt (en z0 <| eb z1 <| eb z2 <| ec (bM n id 9 (k + 7)) <| eq1 1 <| e0) (rs := [Res.agg (Nd.cs n), Res.top 5 (List.map Ou.cs [(Ou.mk 2 n.id id 9 ⟨#[]⟩)])]) (by simp only [bz, pkk, he0, z0, z1, z2, vq] <;> rfl)
      · rcases bft n.store.super.dis with z3 | z3
        · exact rt (en z0 <| eb z1 <| eb z2 <| eb z3 <| ec (bM n id 10 (k + 7)) <| eq1 1 <| e0) (rs := [Res.agg (Nd.cs n), Res.top 5 (List.map Ou.cs [(Ou.mk 2 n.id id 10 ⟨#[]⟩)])]) (by simp only [bz, pkk, he0, z0, z1, z2, z3, vq] <;> rfl)
        · rcases bft (Nd.state n == 1) with z4 | z4
          · exact rt (en z0 <| eb z1 <| eb z2 <| eb z3 <| eb4 z4 <| et4 <| ec (bM n id 11 (k + 7)) <| eq1 1 <| e0) (rs := [Res.agg (Nd.cs n), Res.top 5 (List.map Ou.cs [(Ou.mk 2 n.id id 11 ⟨#[]⟩)])]) (by simp only [bz, pkk, he0, z0, z1, z2, z3, z4, vq] <;> rfl)
          · rcases bft (Nd.state n == 4) with z5 | z5
            · exact rt (en z0 <| eb z1 <| eb z2 <| eb z3 <| eb4 z4 <| eb3 z5 <| et <| ec (bM n id 11 (k + 7)) <| eq1 1 <| e0) (rs := [Res.agg (Nd.cs n), Res.top 5 (List.map Ou.cs [(Ou.mk 2 n.id id 11 ⟨#[]⟩)])]) (by simp only [bz, pkk, he0, z0, z1, z2, z3, z4, z5, vq] <;> rfl)
            · rcases bft n.asking with z6 | z6
              · exact rt (en z0 <| eb z1 <| eb z2 <| eb z3 <| eb4 z4 <| eb3 z5 <| eb z6 <| ec (bM n id 11 (k + 7)) <| eq1 1 <| e0) (rs := [Res.agg (Nd.cs n), Res.top 5 (List.map Ou.cs [(Ou.mk 2 n.id id 11 ⟨#[]⟩)])]) (by simp only [bz, pkk, he0, z0, z1, z2, z3, z4, z5, z6, vq] <;> rfl)
              · rcases bft n.peerPri with z7 | z7
                · exact rt (en z0 <| eb z1 <| eb z2 <| eb z3 <| eb4 z4 <| eb3 z5 <| eb z6 <| eb z7 <| ec (bM n id 12 (k + 7)) <| eq1 1 <| e0) (rs := [Res.agg (Nd.cs n), Res.top 5 (List.map Ou.cs [(Ou.mk 2 n.id id 12 ⟨#[]⟩)])]) (by simp only [bz, pkk, he0, z0, z1, z2, z3, z4, z5, z6, z7, vq] <;> rfl)
                · rcases bft (iB n) with z8 | z8
                  · exact rt (en z0 <| eb z1 <| eb z2 <| eb z3 <| eb4 z4 <| eb3 z5 <| eb z6 <| eb z7 <| ec (iV n (k + 8)) <| eb z8 <| ec (d4 (({ n with asking := true, askId := id } : Nd)) ((Pk.mk 10 0 hz0 0 ⟨#[]⟩)) (show ByteArray.size ⟨#[]⟩ ≤ 900000 from by decide) k) <| e0) (rs := [Res.agg (Nd.cs ({ n with asking := true, askId := id } : Nd)), Res.top 5 (List.map Ou.cs [az ({ n with asking := true, askId := id } : Nd) (Pk.mk 10 0 hz0 0 ⟨#[]⟩)])]) (by simp only [bz, pkk, he0, z0, z1, z2, z3, z4, z5, z6, z7, z8, vq] <;> rfl)
                  · rcases bft (ab n ({ So.super n.store with pri := true } : Su)).2 with z9 | z9
                    · exact rt (en z0 <| eb z1 <| eb z2 <| eb z3 <| eb4 z4 <| eb3 z5 <| eb z6 <| eb z7 <| ec (iV n (k + 8)) <| eb z8 <| ec (bw n (({ So.super n.store with pri := true } : Su)) hs hc (k + 1)) <| en z9 <| ec (br (({ Prod.fst (ab n ({ So.super n.store with pri := true } : Su)) with primary := true } : Nd)) id 0 ⟨#[]⟩ (k + 8)) <| e0) (rs := [Res.agg (Nd.cs ({ Prod.fst (ab n ({ So.super n.store with pri := true } : Su)) with primary := true } : Nd)), Res.top 5 (List.map Ou.cs [ae ({ Prod.fst (ab n ({ So.super n.store with pri := true } : Su)) with primary := true } : Nd) id 0 ⟨#[]⟩])]) (by simp_all only [bz, pkk, he0, vq] <;> rfl)
                    · exact rt (en z0 <| eb z1 <| eb z2 <| eb z3 <| eb4 z4 <| eb3 z5 <| eb z6 <| eb z7 <| ec (iV n (k + 8)) <| eb z8 <| ec (bw n (({ So.super n.store with pri := true } : Su)) hs hc (k + 1)) <| en z9 <| e0) (rs := [Res.agg (Nd.cs (ab n ({ So.super n.store with pri := true } : Su)).1), Res.top 5 (List.map Ou.cs [])]) (by simp_all only [bz, pkk, he0, vq] <;> rfl)
  · exact rt (en z0 <| ec (bM n id 7 (k + 7)) <| eq1 1 <| e0) (rs := [Res.agg (Nd.cs n), Res.top 5 (List.map Ou.cs [(Ou.mk 2 n.id id 7 ⟨#[]⟩)])]) (by simp only [bz, pkk, he0, z0, vq] <;> rfl)
theorem sn (n : Nd) (id : Int) (hs : n.store.disk.sure.length ≤ 1000000) (hc : n.store.disk.cache.length ≤ 900) (k : Nat) : ag PP GL XX HH NN (k + 10) 31 [A.agg (Nd.cs n), A.c (ii id)] [] = some ([Res.agg (Nd.cs (cD n id).1), Res.top 5 (List.map Ou.cs (cD n id).2)], []) := by
  rcases bft n.up with z0 | z0
  · rcases bft n.primary with z1 | z1
    · rcases bft n.req.on with z2 | z2
      · exact rt (en z0 <| en z1 <| eb4 z2 <| et <| ec (bM n id 11 (k + 7)) <| eq1 1 <| e0) (by simp only [cD, pkk, he0, z0, z1, z2, vq] <;> rfl)
      · rcases bft (Nd.state n == 1) with z3 | z3
        · exact rt (en z0 <| en z1 <| eb4 z2 <| eb z3 <| ec (bM n id 11 (k + 7)) <| eq1 1 <| e0) (by simp only [cD, pkk, he0, z0, z1, z2, z3, vq] <;> rfl)
        · rcases bft (ab n ({ So.super n.store with pri := false } : Su)).2 with z4 | z4
          · rcases bft (iB ({ Prod.fst (ab n ({ So.super n.store with pri := false } : Su)) with primary := false } : Nd)) with z5 | z5
            · exact rt (en z0 <| en z1 <| eb4 z2 <| eb z3 <| ec (bw n (({ So.super n.store with pri := false } : Su)) hs hc (k + 1)) <| en z4 <| ec (iV (({ Prod.fst (ab n ({ So.super n.store with pri := false } : Su)) with primary := false } : Nd)) (k + 8)) <| eb z5 <| ec (d4 (({ Prod.fst (ab n ({ So.super n.store with pri := false } : Su)) with primary := false } : Nd)) ((Pk.mk 13 0 hz0 0 ⟨#[]⟩)) (show ByteArray.size ⟨#[]⟩ ≤ 900000 from by decide) k) <| ep (bq ([[ii (az ({ Prod.fst (ab n ({ So.super n.store with pri := false } : Su)) with primary := false } : Nd) (Pk.mk 13 0 hz0 0 ⟨#[]⟩)).kind, ii (az ({ Prod.fst (ab n ({ So.super n.store with pri := false } : Su)) with primary := false } : Nd) (Pk.mk 13 0 hz0 0 ⟨#[]⟩)).node, ii (az ({ Prod.fst (ab n ({ So.super n.store with pri := false } : Su)) with primary := false } : Nd) (Pk.mk 13 0 hz0 0 ⟨#[]⟩)).id, ii (az ({ Prod.fst (ab n ({ So.super n.store with pri := false } : Su)) with primary := false } : Nd) (Pk.mk 13 0 hz0 0 ⟨#[]⟩)).err, st (az ({ Prod.fst (ab n ({ So.super n.store with pri := false } : Su)) with primary := false } : Nd) (Pk.mk 13 0 hz0 0 ⟨#[]⟩)).data]])) <| ep (show List.length [[ii (az ({ Prod.fst (ab n ({ So.super n.store with pri := false } : Su)) with primary := false } : Nd) (Pk.mk 13 0 hz0 0 ⟨#[]⟩)).kind, ii (az ({ Prod.fst (ab n ({ So.super n.store with pri := false } : Su)) with primary := false } : Nd) (Pk.mk 13 0 hz0 0 ⟨#[]⟩)).node, ii (az ({ Prod.fst (ab n ({ So.super n.store with pri := false } : Su)) with primary := false } : Nd) (Pk.mk 13 0 hz0 0 ⟨#[]⟩)).id, ii (az ({ Prod.fst (ab n ({ So.super n.store with pri := false } : Su)) with primary := false } : Nd) (Pk.mk 13 0 hz0 0 ⟨#[]⟩)).err, st (az ({ Prod.fst (ab n ({ So.super n.store with pri := false } : Su)) with primary := false } : Nd) (Pk.mk 13 0 hz0 0 ⟨#[]⟩)).data]] ≤ 1073741824 from by simp only [vr]; omega) <| eg (G.app [[ii (az ({ Prod.fst (ab n ({ So.super n.store with pri := false } : Su)) with primary := false } : Nd) (Pk.mk 13 0 hz0 0 ⟨#[]⟩)).kind, ii (az ({ Prod.fst (ab n ({ So.super n.store with pri := false } : Su)) with primary := false } : Nd) (Pk.mk 13 0 hz0 0 ⟨#[]⟩)).node, ii (az ({ Prod.fst (ab n ({ So.super n.store with pri := false } : Su)) with primary := false } : Nd) (Pk.mk 13 0 hz0 0 ⟨#[]⟩)).id, ii (az ({ Prod.fst (ab n ({ So.super n.store with pri := false } : Su)) with primary := false } : Nd) (Pk.mk 13 0 hz0 0 ⟨#[]⟩)).err, st (az ({ Prod.fst (ab n ({ So.super n.store with pri := false } : Su)) with primary := false } : Nd) (Pk.mk 13 0 hz0 0 ⟨#[]⟩)).data]]) <| ec (br (({ Prod.fst (ab n ({ So.super n.store with pri := false } : Su)) with primary := false } : Nd)) id 0 ⟨#[]⟩ (k + 8)) <| ep (rfl : [[ii (az ({ Prod.fst (ab n ({ So.super n.store with pri := false } : Su)) with primary := false } : Nd) (Pk.mk 13 0 hz0 0 ⟨#[]⟩)).kind, ii (az ({ Prod.fst (ab n ({ So.super n.store with pri := false } : Su)) with primary := false } : Nd) (Pk.mk 13 0 hz0 0 ⟨#[]⟩)).node, ii (az ({ Prod.fst (ab n ({ So.super n.store with pri := false } : Su)) with primary := false } : Nd) (Pk.mk 13 0 hz0 0 ⟨#[]⟩)).id, ii (az ({ Prod.fst (ab n ({ So.super n.store with pri := false } : Su)) with primary := false } : Nd) (Pk.mk 13 0 hz0 0 ⟨#[]⟩)).err, st (az ({ Prod.fst (ab n ({ So.super n.store with pri := false } : Su)) with primary := false } : Nd) (Pk.mk 13 0 hz0 0 ⟨#[]⟩)).data], [ii (ae ({ Prod.fst (ab n ({ So.super n.store with pri := false } : Su)) with primary := false } : Nd) id (0 : Int) ⟨#[]⟩).kind, ii (ae ({ Prod.fst (ab n ({ So.super n.store with pri := false } : Su)) with primary := false } : Nd) id (0 : Int) ⟨#[]⟩).node, ii (ae ({ Prod.fst (ab n ({ So.super n.store with pri := false } : Su)) with primary := false } : Nd) id (0 : Int) ⟨#[]⟩).id, ii (ae ({ Prod.fst (ab n ({ So.super n.store with pri := false } : Su)) with primary := false } : Nd) id (0 : Int) ⟨#[]⟩).err, st (ae ({ Prod.fst (ab n ({ So.super n.store with pri := false } : Su)) with primary := false } : Nd) id (0 : Int) ⟨#[]⟩).data]] = [[ii (az ({ Prod.fst (ab n ({ So.super n.store with pri := false } : Su)) with primary := false } : Nd) (Pk.mk 13 0 hz0 0 ⟨#[]⟩)).kind, ii (az ({ Prod.fst (ab n ({ So.super n.store with pri := false } : Su)) with primary := false } : Nd) (Pk.mk 13 0 hz0 0 ⟨#[]⟩)).node, ii (az ({ Prod.fst (ab n ({ So.super n.store with pri := false } : Su)) with primary := false } : Nd) (Pk.mk 13 0 hz0 0 ⟨#[]⟩)).id, ii (az ({ Prod.fst (ab n ({ So.super n.store with pri := false } : Su)) with primary := false } : Nd) (Pk.mk 13 0 hz0 0 ⟨#[]⟩)).err, st (az ({ Prod.fst (ab n ({ So.super n.store with pri := false } : Su)) with primary := false } : Nd) (Pk.mk 13 0 hz0 0 ⟨#[]⟩)).data], [ii (ae ({ Prod.fst (ab n ({ So.super n.store with pri := false } : Su)) with primary := false } : Nd) id (0 : Int) ⟨#[]⟩).kind, ii (ae ({ Prod.fst (ab n ({ So.super n.store with pri := false } : Su)) with primary := false } : Nd) id (0 : Int) ⟨#[]⟩).node, ii (ae ({ Prod.fst (ab n ({ So.super n.store with pri := false } : Su)) with primary := false } : Nd) id (0 : Int) ⟨#[]⟩).id, ii (ae ({ Prod.fst (ab n ({ So.super n.store with pri := false } : Su)) with primary := false } : Nd) id (0 : Int) ⟨#[]⟩).err, st (ae ({ Prod.fst (ab n ({ So.super n.store with pri := false } : Su)) with primary := false } : Nd) id (0 : Int) ⟨#[]⟩).data]]) <| ep (show List.length [[ii (az ({ Prod.fst (ab n ({ So.super n.store with pri := false } : Su)) with primary := false } : Nd) (Pk.mk 13 0 hz0 0 ⟨#[]⟩)).kind, ii (az ({ Prod.fst (ab n ({ So.super n.store with pri := false } : Su)) with primary := false } : Nd) (Pk.mk 13 0 hz0 0 ⟨#[]⟩)).node, ii (az ({ Prod.fst (ab n ({ So.super n.store with pri := false } : Su)) with primary := false } : Nd) (Pk.mk 13 0 hz0 0 ⟨#[]⟩)).id, ii (az ({ Prod.fst (ab n ({ So.super n.store with pri := false } : Su)) with primary := false } : Nd) (Pk.mk 13 0 hz0 0 ⟨#[]⟩)).err, st (az ({ Prod.fst (ab n ({ So.super n.store with pri := false } : Su)) with primary := false } : Nd) (Pk.mk 13 0 hz0 0 ⟨#[]⟩)).data], [ii (ae ({ Prod.fst (ab n ({ So.super n.store with pri := false } : Su)) with primary := false } : Nd) id (0 : Int) ⟨#[]⟩).kind, ii (ae ({ Prod.fst (ab n ({ So.super n.store with pri := false } : Su)) with primary := false } : Nd) id (0 : Int) ⟨#[]⟩).node, ii (ae ({ Prod.fst (ab n ({ So.super n.store with pri := false } : Su)) with primary := false } : Nd) id (0 : Int) ⟨#[]⟩).id, ii (ae ({ Prod.fst (ab n ({ So.super n.store with pri := false } : Su)) with primary := false } : Nd) id (0 : Int) ⟨#[]⟩).err, st (ae ({ Prod.fst (ab n ({ So.super n.store with pri := false } : Su)) with primary := false } : Nd) id (0 : Int) ⟨#[]⟩).data]] ≤ 1073741824 from by simp only [vr]; omega) <| ep ((rfl : (1 : Nat) = (1 : Nat))).symm <| eg (G.app [[ii (az ({ Prod.fst (ab n ({ So.super n.store with pri := false } : Su)) with primary := false } : Nd) (Pk.mk 13 0 hz0 0 ⟨#[]⟩)).kind, ii (az ({ Prod.fst (ab n ({ So.super n.store with pri := false } : Su)) with primary := false } : Nd) (Pk.mk 13 0 hz0 0 ⟨#[]⟩)).node, ii (az ({ Prod.fst (ab n ({ So.super n.store with pri := false } : Su)) with primary := false } : Nd) (Pk.mk 13 0 hz0 0 ⟨#[]⟩)).id, ii (az ({ Prod.fst (ab n ({ So.super n.store with pri := false } : Su)) with primary := false } : Nd) (Pk.mk 13 0 hz0 0 ⟨#[]⟩)).err, st (az ({ Prod.fst (ab n ({ So.super n.store with pri := false } : Su)) with primary := false } : Nd) (Pk.mk 13 0 hz0 0 ⟨#[]⟩)).data], [ii (ae ({ Prod.fst (ab n ({ So.super n.store with pri := false } : Su)) with primary := false } : Nd) id 0 ⟨#[]⟩).kind, ii (ae ({ Prod.fst (ab n ({ So.super n.store with pri := false } : Su)) with primary := false } : Nd) id 0 ⟨#[]⟩).node, ii (ae ({ Prod.fst (ab n ({ So.super n.store with pri := false } : Su)) with primary := false } : Nd) id 0 ⟨#[]⟩).id, ii (ae ({ Prod.fst (ab n ({ So.super n.store with pri := false } : Su)) with primary := false } : Nd) id 0 ⟨#[]⟩).err, st (ae ({ Prod.fst (ab n ({ So.super n.store with pri := false } : Su)) with primary := false } : Nd) id 0 ⟨#[]⟩).data]]) <| ep ((rfl : (2 : Nat) = (2 : Nat))).symm <| e0) (by simp only [cD, pkk, he0, z0, z1, z2, z3, z4, z5, vq] <;> rfl)
            · exact rt (en z0 <| en z1 <| eb4 z2 <| eb z3 <| ec (bw n (({ So.super n.store with pri := false } : Su)) hs hc (k + 1)) <| en z4 <| ec (iV (({ Prod.fst (ab n ({ So.super n.store with pri := false } : Su)) with primary := false } : Nd)) (k + 8)) <| eb z5 <| ec (br (({ Prod.fst (ab n ({ So.super n.store with pri := false } : Su)) with primary := false } : Nd)) id 0 ⟨#[]⟩ (k + 8)) <| ep (bq ([[ii (ae ({ Prod.fst (ab n ({ So.super n.store with pri := false } : Su)) with primary := false } : Nd) id 0 ⟨#[]⟩).kind, ii (ae ({ Prod.fst (ab n ({ So.super n.store with pri := false } : Su)) with primary := false } : Nd) id 0 ⟨#[]⟩).node, ii (ae ({ Prod.fst (ab n ({ So.super n.store with pri := false } : Su)) with primary := false } : Nd) id 0 ⟨#[]⟩).id, ii (ae ({ Prod.fst (ab n ({ So.super n.store with pri := false } : Su)) with primary := false } : Nd) id 0 ⟨#[]⟩).err, st (ae ({ Prod.fst (ab n ({ So.super n.store with pri := false } : Su)) with primary := false } : Nd) id 0 ⟨#[]⟩).data]])) <| ep (show List.length [[ii (ae ({ Prod.fst (ab n ({ So.super n.store with pri := false } : Su)) with primary := false } : Nd) id (0 : Int) ⟨#[]⟩).kind, ii (ae ({ Prod.fst (ab n ({ So.super n.store with pri := false } : Su)) with primary := false } : Nd) id (0 : Int) ⟨#[]⟩).node, ii (ae ({ Prod.fst (ab n ({ So.super n.store with pri := false } : Su)) with primary := false } : Nd) id (0 : Int) ⟨#[]⟩).id, ii (ae ({ Prod.fst (ab n ({ So.super n.store with pri := false } : Su)) with primary := false } : Nd) id (0 : Int) ⟨#[]⟩).err, st (ae ({ Prod.fst (ab n ({ So.super n.store with pri := false } : Su)) with primary := false } : Nd) id (0 : Int) ⟨#[]⟩).data]] ≤ 1073741824 from by simp only [vr]; omega) <| eg (G.app [[ii (ae ({ Prod.fst (ab n ({ So.super n.store with pri := false } : Su)) with primary := false } : Nd) id 0 ⟨#[]⟩).kind, ii (ae ({ Prod.fst (ab n ({ So.super n.store with pri := false } : Su)) with primary := false } : Nd) id 0 ⟨#[]⟩).node, ii (ae ({ Prod.fst (ab n ({ So.super n.store with pri := false } : Su)) with primary := false } : Nd) id 0 ⟨#[]⟩).id, ii (ae ({ Prod.fst (ab n ({ So.super n.store with pri := false } : Su)) with primary := false } : Nd) id 0 ⟨#[]⟩).err, st (ae ({ Prod.fst (ab n ({ So.super n.store with pri := false } : Su)) with primary := false } : Nd) id 0 ⟨#[]⟩).data]]) <| ep ((rfl : (1 : Nat) = (1 : Nat))).symm <| e0) (by simp only [cD, pkk, he0, z0, z1, z2, z3, z4, z5, vq] <;> rfl)
          · exact rt (en z0 <| en z1 <| eb4 z2 <| eb z3 <| ec (bw n (({ So.super n.store with pri := false } : Su)) hs hc (k + 1)) <| en z4 <| e0) (by simp only [cD, pkk, he0, z0, z1, z2, z3, z4, vq] <;> rfl)
    · exact rt (en z0 <| en z1 <| ec (bM n id 8 (k + 7)) <| eq1 1 <| e0) (by simp only [cD, pkk, he0, z0, z1, vq] <;> rfl)
  · exact rt (en z0 <| ec (bM n id 7 (k + 7)) <| eq1 1 <| e0) (by simp only [cD, pkk, he0, z0, vq] <;> rfl)
theorem oY (n : Nd) (id : Int) (hs : n.store.disk.sure.length ≤ 1000000) (hc : n.store.disk.cache.length ≤ 900) (k : Nat) : ag PP GL XX HH NN (k + 10) 32 [A.agg (Nd.cs n), A.c (ii id)] [] = some ([Res.agg (Nd.cs (cf n id).1), Res.top 5 (List.map Ou.cs (cf n id).2)], []) := by
  rcases bft n.up with z0 | z0
  · rcases bft n.primary with z1 | z1
    · exact rt (en z0 <| eb z1 <| ec (bM n id 8 (k + 7)) <| eq1 1 <| e0) (by simp only [cf, z0, z1, vq] <;> rfl)
    · rcases bft (Nd.state n == 0) with z2 | z2
      · rcases bft (ab n ({ So.super n.store with dis := true } : Su)).2 with z3 | z3
        · exact rt (en z0 <| eb z1 <| en z2 <| ec (bw n (({ So.super n.store with dis := true } : Su)) hs hc (k + 1)) <| en z3 <| ec (br (ab n ({ So.super n.store with dis := true } : Su)).1 id 0 ⟨#[]⟩ (k + 8)) <| e0) (by simp only [cf, z0, z1, z2, z3, vq] <;> rfl)
        · exact rt (en z0 <| eb z1 <| en z2 <| ec (bw n (({ So.super n.store with dis := true } : Su)) hs hc (k + 1)) <| en z3 <| e0) (by simp only [cf, z0, z1, z2, z3, vq] <;> rfl)
      · exact rt (en z0 <| eb z1 <| en z2 <| ec (bM n id 11 (k + 7)) <| eq1 1 <| e0) (by simp only [cf, z0, z1, z2, vq] <;> rfl)
  · exact rt (en z0 <| ec (bM n id 7 (k + 7)) <| eq1 1 <| e0) (by simp only [cf, z0, vq] <;> rfl)
theorem vR (n : Nd) (id : Int) (block : Int) (hc : n.store.disk.cache.length ≤ 900) (k : Nat) : ag PP GL XX HH NN (k + 6) 33 [A.agg (Nd.cs n), A.c (ii id), A.c (ii block)] [] = some ([Res.agg (Nd.cs (eF n id block).1), Res.top 5 (List.map Ou.cs (eF n id block).2)], []) := by
  rcases bft n.up with z0 | z0
  · rcases bft n.primary with z1 | z1
    · exact rt (en z0 <| en z1 <| ec (Ap n.store block hc k) <| ec (br n id (ak n.store.disk block).2 (ak n.store.disk block).1 (k + 4)) <| e0) (by simp only [eF, z0, z1, vq] <;> rfl)
    · exact rt (en z0 <| en z1 <| ec (bM n id 8 (k + 3)) <| eq1 1 <| e0) (by simp only [eF, z0, z1, vq] <;> rfl)
  · exact rt (en z0 <| ec (bM n id 7 (k + 3)) <| eq1 1 <| e0) (by simp only [eF, z0, vq] <;> rfl)
theorem po (n : Nd) (s : So) (e : Int) (k : Nat) : ag PP GL XX HH NN (k + 3) 101 [A.agg (Nd.cs n), A.agg (So.cs s), A.c (ii e)] [] = some ([Res.agg (Nd.cs (dD n s e).1), Res.c (bo (dD n s e).2)], []) := by
  rcases bft (e == 0) with z0 | z0
  · exact rt (en z0 <| e0) (by simp only [dD, z0, vq] <;> rfl)
  · exact rt (en z0 <| ec (r3 (({ n with store := s } : Nd)) k) <| e0) (by simp only [dD, z0, vq] <;> rfl)
end Go.Dm
