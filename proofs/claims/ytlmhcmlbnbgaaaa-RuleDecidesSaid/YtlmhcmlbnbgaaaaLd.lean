/-
  A part of the proofs over this seat: what its functions make of data (the file in which the theorems stand says what is proved).
-/
import Derived.Test.YtlmhcmlbnbgaaaaLr
import Derived.Test.YtlmhcmlbnbgaaaaLa
namespace Go.Dm
open Go
theorem place_vals (a b c d g : Int) : (place5_0 a b c d g = 0 ∧ a = g) ∨ place5_0 a b c d g = 1 ∨ place5_0 a b c d g = 2 ∨ place5_0 a b c d g = 3 ∨ place5_0 a b c d g = -1 := by
  unfold place5_0
  cases g == 0
  · cases h : a == g
    · cases b == g <;> cases c == g <;> cases d == g <;> simp
    · have := eq_of_beq h; simp [this]
  · simp
theorem p5_1 (a b c d g : Int) (h1 : (place5_0 a b c d g == 1) = true) (k : Nat) : orac PP GL HH NN (k + 1) 19 [.agg [u a, u b, u c, u d], .c (u g)] [] = some ([.c (ii 1)], []) := by
  have h := place5 a b c d g k
  rwa [eq_of_beq h1] at h
theorem p5_2 (a b c d g : Int) (h1 : (place5_0 a b c d g == 1) = false) (h2 : (place5_0 a b c d g == 2) = true) (k : Nat) : orac PP GL HH NN (k + 1) 19 [.agg [u a, u b, u c, u d], .c (u g)] [] = some ([.c (ii 2)], []) := by
  have h := place5 a b c d g k
  rwa [eq_of_beq h2] at h
theorem p5_3 (a b c d g : Int) (h1 : (place5_0 a b c d g == 1) = false) (h2 : (place5_0 a b c d g == 2) = false) (h3 : (place5_0 a b c d g == 3) = true) (k : Nat) : orac PP GL HH NN (k + 1) 19 [.agg [u a, u b, u c, u d], .c (u g)] [] = some ([.c (ii 3)], []) := by
  have h := place5 a b c d g k
  rwa [eq_of_beq h3] at h
theorem p5_0 (a b c d g : Int) (h1 : (place5_0 a b c d g == 1) = false) (h2 : (place5_0 a b c d g == 2) = false) (h3 : (place5_0 a b c d g == 3) = false) (h0 : (place5_0 a b c d g == 0) = true) (k : Nat) : orac PP GL HH NN (k + 1) 19 [.agg [u a, u b, u c, u d], .c (u g)] [] = some ([.c (ii 0)], []) := by
  have h := place5 a b c d g k
  rwa [eq_of_beq h0] at h
theorem p5_n (a b c d g : Int) (h1 : (place5_0 a b c d g == 1) = false) (h2 : (place5_0 a b c d g == 2) = false) (h3 : (place5_0 a b c d g == 3) = false) (h0 : (place5_0 a b c d g == 0) = false) (k : Nat) : orac PP GL HH NN (k + 1) 19 [.agg [u a, u b, u c, u d], .c (u g)] [] = some ([.c (ii (-1))], []) := by
  have h := place5 a b c d g k
  have e : place5_0 a b c d g = -1 := by
    rcases place_vals a b c d g with ⟨h, _⟩ | h | h | h | h
    · rw [h] at h0; exact absurd h0 (by decide)
    · rw [h] at h1; exact absurd h1 (by decide)
    · rw [h] at h2; exact absurd h2 (by decide)
    · rw [h] at h3; exact absurd h3 (by decide)
    · exact h
  rw [e] at h
  exact h
end Go.Dm
