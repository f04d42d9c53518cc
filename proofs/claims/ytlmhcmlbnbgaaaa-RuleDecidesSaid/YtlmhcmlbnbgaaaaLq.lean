/-
  A part of the proofs over this seat: what its functions make of data (the file in which the theorems stand says what is proved).
-/
import Derived.Test.YtlmhcmlbnbgaaaaLp
namespace Go.Dm
open Go
theorem kind_swap' (c c' b' o' q' : Int) : kind1_0 c c' b' o' q' = kind0_0 c' b' o' q' c := rfl
theorem dec_kind (B c b o q : Int) (i w d p : Bool) (m : Int) (B' c' b' o' q' : Int) (i' w' d' p' : Bool) (m' : Int) : decide11_0 B c b o q i w d p m B' c' b' o' q' i' w' d' p' m' = decide11_0 B' c' b' o' q' i' w' d' p' m' B c b o q i w d p m := by
  unfold decide11_0
  rw [Bool.beq_comm (a := B') (b := B), Bool.beq_comm (a := c') (b := c)]
  have ha := alike_kind w p m w' p' m'
  simp only [half_swap, tell_swap, kind_swap']
  generalize half0_0 c b o q d c' b' d' = h1 at *
  generalize half0_0 c' b' o' q' d' c b d = h2 at *
  generalize decide (ixf1_0 c b o q c' ≥ 0) = x1
  generalize decide (ixf1_0 c' b' o' q' c ≥ 0) = x2
  generalize kind0_0 c b o q c' = k1
  generalize kind0_0 c' b' o' q' c = k2
  generalize alike_0 w p m w' p' m' = a1 at *
  generalize alike_0 w' p' m' w p m = a2 at *
  generalize (B == B') = e1
  generalize (c == c') = e2
  cases e1 <;> cases p <;> cases p' <;> cases i <;> cases i' <;> cases d <;> cases d' <;> simp only [cond_true, cond_false]
  all_goals (cases e2 <;> cases x1 <;> cases x2 <;> simp_all only [cond_true, cond_false, reduceCtorEq, and_true, and_false, or_false, and_self])
theorem alike_turn (w p : Bool) (m : Int) (w' p' : Bool) (m' : Int) (h : p = true ∨ p' = true ∨ w ≠ w') : target_0 (alike_1 w p m w' p' m') = alike_1 w' p' m' w p m ∨ (p = true ∧ p' = true) := by
  simp only [alike_1, ior_comm3 m' m]
  cases ior .u32 (ior .u32 0 m) m' == 0 <;> cases p <;> cases p' <;> cases w <;> cases w' <;> simp_all <;> decide
theorem dec_src (B c b o q : Int) (i w d p : Bool) (m : Int) (B' c' b' o' q' : Int) (i' w' d' p' : Bool) (m' : Int) (h : (c == c') = false ∨ p = true ∨ p' = true ∨ w ≠ w') : target_0 (decide11_1 B c b o q i w d p m B' c' b' o' q' i' w' d' p' m') = decide11_1 B' c' b' o' q' i' w' d' p' m' B c b o q i w d p m := by
  unfold decide11_1
  rw [Bool.beq_comm (a := B') (b := B), Bool.beq_comm (a := c') (b := c)]
  have ha := alike_turn w p m w' p' m'
  simp only [half_swap, kind_swap']
  generalize half0_0 c b o q d c' b' d' = h1 at *
  generalize half0_0 c' b' o' q' d' c b d = h2 at *
  generalize decide (ixf1_0 c b o q c' ≥ 0) = x1
  generalize decide (ixf1_0 c' b' o' q' c ≥ 0) = x2
  generalize kind0_0 c b o q c' = k1
  generalize kind0_0 c' b' o' q' c = k2
  generalize alike_1 w p m w' p' m' = a1 at *
  generalize alike_1 w' p' m' w p m = a2 at *
  generalize (B == B') = e1
  generalize (c == c') = e2 at *
  cases e1 <;> cases p <;> cases p' <;> cases i <;> cases i' <;> cases d <;> cases d' <;> simp only [cond_true, cond_false, tell_turn, tell_turn', target_no]
  all_goals (cases e2 <;> cases x1 <;> cases x2 <;> simp_all only [cond_true, cond_false, reduceCtorEq, and_true, and_false, or_false, false_or, and_self, true_or, or_true, forall_const, not_false_eq_true, tell_turn, tell_turn', target_no, ne_eq, Bool.true_eq_false, Bool.false_eq_true])
theorem turns_true (B c b o q : Int) (i w d p : Bool) (m : Int) (B' c' b' o' q' : Int) (i' w' d' p' : Bool) (m' : Int) : turns_0 B c b o q i w d p m B' c' b' o' q' i' w' d' p' m' = true := by
  unfold turns_0
  rw [dec_kind]
  have hs := dec_src B c b o q i w d p m B' c' b' o' q' i' w' d' p' m'
  cases right10_0 B c i w p m with
  | false => rfl
  | true =>
    cases right10_0 B' c' i' w' p' m' with
    | false => rfl
    | true =>
      simp only [cond_true, beq_self_eq_true]
      cases hc : c == c' with
      | false => rw [hs (.inl hc)]; simp
      | true =>
        cases hp : p with
        | true => subst hp; rw [hs (.inr (.inl rfl))]; simp
        | false =>
          cases hp' : p' with
          | true => subst hp'; subst hp; rw [hs (.inr (.inr (.inl rfl)))]; simp
          | false =>
            subst hp; subst hp'
            by_cases hw : w = w'
            · subst hw; simp
            · rw [hs (.inr (.inr (.inr hw)))]; simp
end Go.Dm
