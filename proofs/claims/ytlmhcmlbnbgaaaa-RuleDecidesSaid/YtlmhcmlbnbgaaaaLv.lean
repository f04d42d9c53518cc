/-
  A part of the proofs over this seat: what its functions make of data (the file in which the theorems stand says what is proved).
-/
import Derived.Test.YtlmhcmlbnbgaaaaLu
import Derived.Test.YtlmhcmlbnbgaaaaLn
import Derived.Test.YtlmhcmlbnbgaaaaLo
namespace Go.Dm
open Go
theorem tell0_t (k : Int) : tell0_0 true k = 4 := by unfold tell0_0; cases k == 4 <;> rfl
theorem tell0_f (k : Int) : tell0_0 false k = k := by
  unfold tell0_0
  cases h : k == 4 with
  | true => rw [eq_of_beq h]; rfl
  | false => rfl
theorem tell1_t (k : Int) : tell1_0 true k = 4 := tell0_t k
theorem tell1_f (k : Int) : tell1_0 false k = k := tell0_f k
theorem ior0 {m m' : Int} (hm : (Lit.int .u32 m).wf = true) (hm' : (Lit.int .u32 m').wf = true) (h : (ior .u32 (ior .u32 0 m) m' == 0) = true) : (m == 0) = true ∧ (m' == 0) = true := by
  have h1 : 0 ≤ m ∧ m ≤ 4294967295 := by simpa [Lit.wf, IntKind.min, IntKind.max, IntKind.signed, IntKind.bits] using hm
  have h2 : 0 ≤ m' ∧ m' ≤ 4294967295 := by simpa [Lit.wf, IntKind.min, IntKind.max, IntKind.signed, IntKind.bits] using hm'
  rw [ior3] at h
  have h3 : BitVec.ofInt 32 m ||| BitVec.ofInt 32 m' = 0#32 := by
    apply BitVec.eq_of_toNat_eq
    have := eq_of_beq h
    simp only [BitVec.toNat_zero]
    omega
  rw [BitVec.or_eq_zero_iff] at h3
  obtain ⟨g1, g2⟩ := h3
  have e1 := congrArg BitVec.toNat g1
  have e2 := congrArg BitVec.toNat g2
  simp only [BitVec.toNat_ofInt, BitVec.toNat_zero] at e1 e2
  simp only [beq_iff_eq]
  omega
theorem alike_vals (w p : Bool) (m : Int) (w' p' : Bool) (m' : Int) (h : (p && p') = false) : (alike_0 w p m w' p' m' = 1 ∧ (ior .u32 (ior .u32 0 m) m' == 0) = true) ∨ alike_0 w p m w' p' m' = 2 := by
  unfold alike_0
  cases hq : ior .u32 (ior .u32 0 m) m' == 0 with
  | true => left; exact ⟨rfl, rfl⟩
  | false =>
    right
    cases p <;> cases p' <;> cases w <;> cases w' <;> simp only [cond_true, cond_false, tell0_t, tell0_f, tell1_t, tell1_f] <;> simp at h
theorem kind_self {c b o q : Int} (h : (c == 0) = false) : kind0_0 c b o q c = 2 := by
  unfold kind0_0
  rw [place_eq, place_self h]
  rfl
theorem half_self {c b o q b' : Int} {d' : Bool} (h : (c == 0) = false) : half0_0 c b o q false c b' d' = 2 ∨ half0_0 c b o q false c b' d' = 3 := by
  unfold half0_0
  rw [kind_self h]
  cases decide (ixf1_0 c b o q b' ≥ 0) <;> cases d' <;> simp
theorem fin1 {K : Int} {b1 b2 : Bool} (h1 : K = 1 → b1 = true) (h4 : K = 4 → b2 = true) : (bif K == 1 then b1 else bif K == 4 then b2 else true) = true := by
  cases h : K == 1 with
  | true => exact h1 (eq_of_beq h)
  | false =>
    cases g : K == 4 with
    | true => exact h4 (eq_of_beq g)
    | false => rfl
theorem ones_true (B c b o q : Int) (i w d p : Bool) (m : Int) (B' c' b' o' q' : Int) (i' w' d' p' : Bool) (m' : Int) (hm : (Lit.int .u32 m).wf = true) (hm' : (Lit.int .u32 m').wf = true) : ones_0 B c b o q i w d p m B' c' b' o' q' i' w' d' p' m' = true := by
  unfold ones_0
  cases hr : right10_0 B c i w p m with
  | false => rfl
  | true =>
    cases hr' : right10_0 B' c' i' w' p' m' with
    | false => rfl
    | true =>
      simp only [cond_true]
      have hc := right_c hr
      have hc' := right_c hr'
      have hz := ior0 hm hm'
      have ha := alike_vals w p m w' p' m'
      have hh := half_vals c b o q d c' b' d'
      have hh' := half_vals c' b' o' q' d' c b d
      have hk := kind_vals c b o q c'
      have hk' := kind_vals c' b' o' q' c
      have hs : (c == c') = true → d = false → half0_0 c b o q d c' b' d' = 2 ∨ half0_0 c b o q d c' b' d' = 3 := fun h g => by
        obtain rfl := eq_of_beq h; subst g; exact half_self hc
      have hs' : (c == c') = true → d' = false → half0_0 c' b' o' q' d' c b d = 2 ∨ half0_0 c' b' o' q' d' c b d = 3 := fun h g => by
        obtain rfl := eq_of_beq h; subst g; exact half_self hc
      refine fin1 (fun h => ?_) (fun h => ?_)
      · rw [h]
        have hb : (bits13_0 1 B m m' == 0) = true := rfl
        rw [hb]
        unfold decide11_0 at h
        simp only [half_swap, kind_swap'] at h
        generalize half0_0 c b o q d c' b' d' = h1 at *
        generalize half0_0 c' b' o' q' d' c b d = h2 at *
        generalize decide (ixf1_0 c b o q c' ≥ 0) = x1 at *
        generalize decide (ixf1_0 c' b' o' q' c ≥ 0) = x2 at *
        generalize kind0_0 c b o q c' = k1 at *
        generalize kind0_0 c' b' o' q' c = k2 at *
        generalize alike_0 w p m w' p' m' = a1 at *
        generalize (ior .u32 (ior .u32 0 m) m' == 0) = zz at *
        generalize (B == B') = e1 at *
        generalize (c == c') = e2 at *
        generalize (m == 0) = z1 at *
        generalize (m' == 0) = z2 at *
        clear hs hs' hr hr' hc hc' hm hm'
        cases e1 <;> cases p <;> cases p' <;> cases i <;> cases i' <;> cases d <;> cases d' <;> simp only [cond_true, cond_false, tell0_t, tell0_f, tell1_t, tell1_f] at h ⊢ <;> first
          | omega
          | (cases e2 <;> cases x1 <;> cases x2 <;> simp only [cond_true, cond_false, tell0_t, tell0_f, tell1_t, tell1_f] at h ⊢ <;> first
            | omega
            | (rcases ha rfl with ⟨_, g⟩ | g
               · obtain ⟨g1, g2⟩ := hz g
                 rw [g1, g2]; rfl
               · omega))
      · cases hq : c == c' with
        | false => rfl
        | true =>
        cases hB : B == B' with
        | false => rfl
        | true =>
        simp only [cond_true]
        have hs := hs hq
        have hs' := hs' hq
        unfold decide11_0 at h
        rw [hq, hB] at h
        simp only [half_swap, kind_swap', cond_true] at h
        generalize half0_0 c b o q d c' b' d' = h1 at *
        generalize half0_0 c' b' o' q' d' c b d = h2 at *
        generalize alike_0 w p m w' p' m' = a1 at *
        clear hk hk' hh hh' hz hr hr' hc hc' hm hm'
        cases p <;> cases p' <;> cases i <;> cases i' <;> cases d <;> cases d' <;> simp only [cond_true, cond_false, tell0_t, tell0_f, tell1_t, tell1_f] at h ⊢ <;> first
          | omega
          | (have g := hs rfl; omega)
          | (have g := hs' rfl; omega)
          | (have g := ha rfl; omega)
theorem index_last (c b o q : Int) : 0 ≤ index4_0 c b o q q := by
  unfold index4_0
  cases q == c <;> cases q == b <;> cases q == o <;> simp
theorem half1_known {c b c' b' o' : Int} {d : Bool} (h : (b == 0) = false) : half1_0 c b d c' b' o' b false = 2 := by
  unfold half1_0 ixf1_0 place_0
  rw [h]
  have := index_last c' b' o' b
  have e : decide (index4_0 c' b' o' b b < 0) = false := by simp; omega
  simp only [cond_false, e]
  rfl
theorem ior_0 (m m' : Int) : ior .u32 (ior .u32 0 m) m' = ior .u32 m m' := by rw [ior3, ior_nat]
theorem half_true (B c b o q : Int) (i w d p : Bool) (m : Int) (B' c' b' o' : Int) (i' w' p' : Bool) (m' : Int) : halfL_0 B c b o q i w d p m B' c' b' o' i' w' p' m' = true := by
  unfold halfL_0
  cases right10_0 B c i w p m <;> cases right10_0 B' c' i' w' p' m' <;> cases right10_0 B c' false w' p' m' <;> cases right10_0 B c true w false m <;> simp only [cond_true, cond_false]
  have e0 : decide11_0 B c b o q true w d false m B c' b' o' b false w' false p' m' = half1_0 c b d c' b' o' b false := by
    unfold decide11_0
    cases d <;> simp [tell1_f]
  cases hb : b == 0 with
  | true =>
    unfold decide11_1
    cases d <;> simp [tell1_1] <;> cases half1_0 c b _ c' b' o' b false == 4 <;> decide
  | false =>
    have e1 : decide11_1 B c b o q true w d false m B c' b' o' b false w' false p' m' = 1 := by
      unfold decide11_1
      simp only [half1_known hb]
      cases d <;> simp <;> rfl
    rw [e0, e1, half1_known hb]
    show (ior .u32 (ior .u32 0 m) m' == ior .u32 m m') = true
    rw [ior_0]; simp
end Go.Dm
