/-
  A part of the proofs over this seat: what its functions make of data (the file in which the theorems stand says what is proved).
-/
import Derived.Test.YtlmhcmlbnbgaaaaLq
import Derived.Test.YtlmhcmlbnbgaaaaLs
namespace Go.Dm
open Go
theorem kind_vals (c b o q c' : Int) : kind0_0 c b o q c' = 4 ∨ ((kind0_0 c b o q c' = 2 ∨ kind0_0 c b o q c' = 3) ∧ decide (place_0 c b o q c' ≥ 0) = true) := by
  unfold kind0_0
  generalize place_0 c b o q c' = v
  cases h2 : v == 2 with
  | true => right; rw [eq_of_beq h2]; simp
  | false =>
    cases h3 : v == 3 with
    | true => right; rw [eq_of_beq h3]; simp
    | false =>
      cases h0 : v == 0 with
      | true => right; rw [eq_of_beq h0]; simp
      | false =>
        cases h1 : v == 1 with
        | true => right; rw [eq_of_beq h1]; simp
        | false => left; rfl
theorem half_vals (c b o q : Int) (d : Bool) (c' b' : Int) (d' : Bool) : half0_0 c b o q d c' b' d' = 4 ∨ ((half0_0 c b o q d c' b' d' = 2 ∨ half0_0 c b o q d c' b' d' = 3) ∧ d = false) := by
  unfold half0_0
  have hk := kind_vals c b o q c'
  cases d with
  | true => left; rfl
  | false =>
    cases decide (ixf1_0 c b o q b' ≥ 0) with
    | false => right; simp
    | true =>
      cases d' with
      | true => right; simp
      | false =>
        simp only [cond_true, cond_false]
        rcases hk with h | ⟨h | h, _⟩ <;> rw [h] <;> simp
/-- is the verdict safe? -/
def sf (K S : Int) (X Y : Bool) : Bool := bif S == 0 then bif K == 2 then X else bif K == 3 then X else false else bif S == 1 then bif K == 2 then Y else bif K == 3 then Y else false else bif K == 2 then false else bif K == 3 then false else bif S == -1 then bif K == 1 then true else K == 4 else false
theorem sf_refused (X Y : Bool) : sf 4 (-1) X Y = true := rfl
theorem sf_none (X Y : Bool) : sf 1 (-1) X Y = true := rfl
theorem sf_tell0 {p' : Bool} {kd : Int} {X Y : Bool} (h : kd = 4 ∨ ((kd = 2 ∨ kd = 3) ∧ (p' = false → X = true))) : sf (tell0_0 p' kd) (tell0_1 p' kd) X Y = true := by
  rcases h with rfl | ⟨rfl | rfl, h⟩
  · rfl
  · cases p' with
    | true => rfl
    | false => rw [h rfl]; rfl
  · cases p' with
    | true => rfl
    | false => rw [h rfl]; rfl
theorem sf_tell1 {p : Bool} {kd : Int} {X Y : Bool} (h : kd = 4 ∨ ((kd = 2 ∨ kd = 3) ∧ (p = false → Y = true))) : sf (tell1_0 p kd) (tell1_1 p kd) X Y = true := by
  rcases h with rfl | ⟨rfl | rfl, h⟩
  · rfl
  · cases p with
    | true => rfl
    | false => rw [h rfl]; rfl
  · cases p with
    | true => rfl
    | false => rw [h rfl]; rfl
theorem sf_alike {w p : Bool} {m : Int} {w' p' : Bool} {m' : Int} {X Y : Bool} (hx : p' = false → X = true) (hy : p = false → Y = true) : sf (alike_0 w p m w' p' m') (alike_1 w p m w' p' m') X Y = true := by
  unfold alike_0 alike_1
  have h0 := sf_tell0 (p' := p') (kd := 2) (X := X) (Y := Y) (.inr ⟨.inl rfl, hx⟩)
  have h1 := sf_tell1 (p := p) (kd := 2) (X := X) (Y := Y) (.inr ⟨.inl rfl, hy⟩)
  cases (ior .u32 (ior .u32 0 m) m' == 0)
  · simp only [cond_false]
    cases p
    · cases p'
      · cases w'
        · exact h0
        · cases w
          · exact h1
          · exact h0
      · exact h1
    · exact h0
  · rfl
theorem right_c {B c : Int} {i w p : Bool} {m : Int} (h : right10_0 B c i w p m = true) : (c == 0) = false := by
  unfold right10_0 at h
  cases hc : c == 0 with
  | false => rfl
  | true =>
    rw [hc] at h
    cases h1 : decide (B ≥ 1) <;> cases h2 : decide (B ≤ 32) <;> rw [h1, h2] at h <;> simp at h
theorem place_self {c b o q : Int} (h : (c == 0) = false) : place5_0 c b o q c = 0 := by
  unfold place5_0
  rw [h]
  simp
theorem sf_dec (B c b o q : Int) (i w d p : Bool) (m : Int) (B' c' b' o' q' : Int) (i' w' d' p' : Bool) (m' : Int) (hc : (c == 0) = false) (hc' : (c' == 0) = false) :
    sf (decide11_0 B c b o q i w d p m B' c' b' o' q' i' w' d' p' m') (decide11_1 B c b o q i w d p m B' c' b' o' q' i' w' d' p' m')
      (bif B == B' then bif p' then false else bif i then false else bif d then false else bif d' then true else bif i' then true else decide (place5_0 c b o q c' ≥ 0) else false)
      (bif B == B' then bif p then false else bif i' then false else bif d' then false else bif d then true else bif i then true else decide (place5_0 c' b' o' q' c ≥ 0) else false) = true := by
  unfold decide11_0 decide11_1
  have hh := half_vals c b o q d c' b' d'
  have hh' := half_vals c' b' o' q' d' c b d
  have hk := kind_vals c b o q c'
  have hk' := kind_vals c' b' o' q' c
  simp only [half_swap, kind_swap']
  rw [place_eq] at hk hk'
  generalize half0_0 c b o q d c' b' d' = h1 at *
  generalize half0_0 c' b' o' q' d' c b d = h2 at *
  generalize decide (ixf1_0 c b o q c' ≥ 0) = x1
  generalize decide (ixf1_0 c' b' o' q' c ≥ 0) = x2
  generalize kind0_0 c b o q c' = k1 at *
  generalize kind0_0 c' b' o' q' c = k2 at *
  have ha : (c == c') = true → decide (place5_0 c b o q c' ≥ 0) = true ∧ decide (place5_0 c' b' o' q' c ≥ 0) = true := fun h => by
    obtain rfl := eq_of_beq h
    rw [place_self hc, place_self hc']
    exact ⟨rfl, rfl⟩
  generalize decide (place5_0 c b o q c' ≥ 0) = y1 at *
  generalize decide (place5_0 c' b' o' q' c ≥ 0) = y2 at *
  generalize (B == B') = e1
  generalize (c == c') = e2 at *
  have h3 : (3 : Int) = 4 ∨ (((3 : Int) = 2 ∨ (3 : Int) = 3) ∧ True) := .inr ⟨.inr rfl, trivial⟩
  cases e1 <;> cases p <;> cases p' <;> cases i <;> cases i' <;> cases d <;> cases d' <;> simp only [cond_true, cond_false]
  all_goals first
    | exact sf_refused _ _
    | exact sf_tell0 (.inr ⟨.inr rfl, fun h => by first | rfl | cases h⟩)
    | exact sf_tell1 (.inr ⟨.inr rfl, fun h => by first | rfl | cases h⟩)
    | (refine sf_tell0 ?_; rcases hh with h | ⟨h, g⟩
       · exact .inl h
       · exact .inr ⟨h, fun z => by first | rfl | exact absurd z (by decide) | exact absurd g (by decide)⟩)
    | (refine sf_tell1 ?_; rcases hh' with h | ⟨h, g⟩
       · exact .inl h
       · exact .inr ⟨h, fun z => by first | rfl | exact absurd z (by decide) | exact absurd g (by decide)⟩)
    | (cases e2 <;> cases x1 <;> cases x2 <;> simp only [cond_true, cond_false] <;> first
        | exact sf_refused _ _
        | (refine sf_tell0 ?_; rcases hk with h | ⟨h, g⟩
           · exact .inl h
           · exact .inr ⟨h, fun z => by first | exact g | exact absurd z (by decide)⟩)
        | (refine sf_tell1 ?_; rcases hk' with h | ⟨h, g⟩
           · exact .inl h
           · exact .inr ⟨h, fun z => by first | exact g | exact absurd z (by decide)⟩)
        | exact sf_alike (fun z => by first | exact (ha rfl).1 | cases z) (fun z => by first | exact (ha rfl).2 | cases z))
theorem safe_true (B c b o q : Int) (i w d p : Bool) (m : Int) (B' c' b' o' q' : Int) (i' w' d' p' : Bool) (m' : Int) : safe_0 B c b o q i w d p m B' c' b' o' q' i' w' d' p' m' = true := by
  have h := sf_dec B c b o q i w d p m B' c' b' o' q' i' w' d' p' m'
  unfold safe_0
  cases hr : right10_0 B c i w p m with
  | false => rfl
  | true =>
    cases hr' : right10_0 B' c' i' w' p' m' with
    | false => rfl
    | true => exact h (right_c hr) (right_c hr')
end Go.Dm
