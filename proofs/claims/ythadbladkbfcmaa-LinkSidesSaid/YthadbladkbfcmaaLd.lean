/-
  A part of the proofs over this seat: what its functions make of data (the file in which the theorems stand says what is proved).
-/
import Derived.Test.YthadbladkbfcmaaLb
set_option linter.unusedSimpArgs false
set_option linter.unusedVariables false
namespace Go.Dm
open Go
theorem take14 (l : Lk) (to : Int) (h0 : l.to0.length ≤ 1000000) (h1 : l.to1.length ≤ 1000000) (k : Nat) : orac PP GL XX HH NN (k + 2) 8 [.agg l.cs, .c (ii to)] [] = some ([.c (st (takeM l to).1), .agg (takeM l to).2.1.cs, .c (bo (takeM l to).2.2)], []) := by
  obtain ⟨up, ses, to0, to1⟩ := l
  rcases side_cases to with rfl | rfl | ⟨hs, t0, t1⟩
  · cases to0 with
    | nil => exact takeP00 ⟨up, ses, [], to1⟩ rfl k
    | cons x r => exact takeP01 ⟨up, ses, [], to1⟩ x r (by simp at h0; omega) k
  · cases to1 with
    | nil => exact takeP10 ⟨up, ses, to0, []⟩ rfl k
    | cons x r => exact takeP11 ⟨up, ses, to0, []⟩ x r (by simp at h1; omega) k
  · have := takePn ⟨up, ses, to0, to1⟩ to hs k
    simp only [takeM, t0, t1, cond]
    exact this
end Go.Dm
