/-
  A part of the proofs over this seat: what its functions make of data (the file in which the theorems stand says what is proved).
-/
import Derived.Test.YtpbljfeahhojaaaLb
import Derived.Test.YtpbljfeahhojaaaLc
import Derived.Test.YtpbljfeahhojaaaLd
import Derived.Test.YtpbljfeahhojaaaLe
namespace Go.Dm
open Go
theorem makes_true (a b c d g : Int) : makes_0 a b c d g = true := by
  have h1 : mint_0 = mint9_0 := rfl
  have h2 : mint_1 = mint9_1 := rfl
  have h3 : mint_2 = mint9_2 := rfl
  have h4 : mint_3 = mint9_3 := rfl
  have h5 : mint_4 = mint9_4 := rfl
  have h6 : retire_0 = retire5_0 := rfl
  have h7 : retire_1 = retire5_1 := rfl
  have h8 : retire_2 = retire5_2 := rfl
  simp [makes_0, h1, h2, h3, h4, h5, h6, h7, h8, place_eq]
theorem place_hit (a b c d g : Int) (hg : g ≠ 0) (h : g = a ∨ g = b ∨ g = c ∨ g = d) : decide (place_0 a b c d g < 0) = false := by
  simp only [place_0, index4_0, Bool.cond_eq_ite, beq_iff_eq, hg, if_false]
  repeat' split
  all_goals first | (simp; done) | (exfalso; simp_all)
theorem place_hit' (a b c d g : Int) (hg : g ≠ 0) (h : g = a ∨ g = b ∨ g = c ∨ g = d) : decide (place_0 a b c d g ≥ 0) = true := by
  have := place_hit a b c d g hg h
  simp at this ⊢
  exact this
theorem place_ge (a b c d g : Int) (hg : g ≠ 0) (h : g = a ∨ g = b ∨ g = c ∨ g = d) : 0 ≤ place_0 a b c d g := by
  have := place_hit a b c d g hg h
  simpa using this
theorem stays_true (a b c d g : Int) : stays_0 a b c d g = true := by
  by_cases hg : g = 0 <;> by_cases hb : b = 0 <;> by_cases ha : a = 0 <;>
    simp [stays_0, mint_0, mint_1, mint_2, mint_3, mint_4, retire_0, retire_1, retire_2, Bool.cond_eq_ite, hg, hb, ha, place_hit, place_ge]
theorem long_true (a b c d g0 g1 g2 : Int) : long_0 a b c d g0 g1 g2 = true := by
  by_cases h0 : g0 = 0 <;> by_cases h1 : g1 = 0 <;> by_cases h2 : g2 = 0 <;> by_cases ha : a = 0 <;> by_cases hb : b = 0 <;>
    simp [long_0, mint_0, mint_1, mint_2, mint_3, mint_4, retire_0, retire_1, retire_2, Bool.cond_eq_ite, h0, h1, h2, ha, hb]
end Go.Dm
