/-
  A part of the proofs over this seat: what its functions make of data (the file in which the theorems stand says what is proved).
-/
import Derived.Test.YtplmfdbiinjccaaDoorLg
namespace Go.Dm
open Go
theorem makes (x : BitVec 32) (l : List Int) (n : List (BitVec 32)) (hl : l.length < 9223372036854775808) (hn : n.length < 9223372036854775808) (k : Nat) : orac PP GL XX HH NN (k + 8) 4 [.c (w4 (mi x)), .c (.slice 1 (is l)), .c (.slice 1 (ms n))] [] = some ([.c (bo true)], []) := by
  cases g1 : decide ((↑(is l).length : Int) > 100) with
  | true => exact makesA x l n g1 k
  | false =>
    cases g2 : decide ((↑(ms n).length : Int) > 50) with
    | true => exact makesB x l n g1 g2 k
    | false =>
      by_cases h2 : l = []
      · subst h2
        have h := makesD x n hn g2 k
        have e : is [] = [] := rfl
        rw [e]
        exact h
      · have h1 : l.length ≤ 100 := by
          rw [is_len] at g1
          simp at g1
          omega
        have h3 : is l ≠ [] := by
          intro h
          exact h2 (List.map_eq_nil_iff.1 h)
        have h := makesC x l n h3 hl hn h1 g1 g2 k
        rw [beq_self_eq_true] at h
        exact h
end Go.Dm
