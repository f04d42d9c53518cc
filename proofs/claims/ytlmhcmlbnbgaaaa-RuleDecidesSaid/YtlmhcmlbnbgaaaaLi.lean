/-
  A part of the proofs over this seat: what its functions make of data (the file in which the theorems stand says what is proved).
-/
import Derived.Test.YtlmhcmlbnbgaaaaLv
import Derived.Test.YtlmhcmlbnbgaaaaLz
namespace Go.Dm
open Go
theorem tell_onto (p : Bool) (kd : Int) : tell0_0 p kd = onto5_0 kd p := by
  unfold tell0_0 onto5_0
  cases kd == 4 <;> cases p <;> rfl
theorem tell_onto1 (p : Bool) (kd : Int) : tell0_1 p kd = onto5_1 kd 0 p := by
  unfold tell0_1 onto5_1
  cases kd == 4 <;> cases p <;> rfl
theorem tell_onto' (p : Bool) (kd : Int) : tell1_0 p kd = onto5_0 kd p := tell_onto p kd
theorem tell_onto1' (p : Bool) (kd : Int) : tell1_1 p kd = onto5_1 kd 1 p := by
  unfold tell1_1 onto5_1
  cases kd == 4 <;> cases p <;> rfl
theorem ixf_place (a b c d g : Int) : decide (ixf1_0 a b c d g ≥ 0) = decide (place5_0 a b c d g < 0) := by
  unfold ixf1_0
  rw [place_eq]
  cases decide (place5_0 a b c d g < 0) <;> rfl
theorem kind_place (c b o q c' : Int) : kind0_0 c b o q c' = bif decide (place5_0 c b o q c' < 0) then 4 else bif decide (place5_0 c b o q c' ≤ 1) then 2 else 3 := by
  unfold kind0_0
  rw [place_eq]
  rcases place_vals c b o q c' with ⟨h, _⟩ | h | h | h | h <;> rw [h] <;> rfl
theorem half_eq (c b o q : Int) (d : Bool) (c' b' : Int) (d' : Bool) : half0_0 c b o q d c' b' d' = half5_0 c b o q d c' b' d' := by
  unfold half0_0 half5_0
  rw [ixf_place, kind_place]
  rcases place_vals c b o q b' with ⟨h, _⟩ | h | h | h | h <;> rw [h] <;> cases d <;> rfl
theorem dec_eq (B c b o q : Int) (i w d p : Bool) (m : Int) (B' c' b' o' q' : Int) (i' w' d' p' : Bool) (m' : Int) (hz : (ior .u32 (ior .u32 0 m) m' == 0) = ((m == 0) && (m' == 0))) :
    decide11_0 B c b o q i w d p m B' c' b' o' q' i' w' d' p' m' = dec5_0 B c b o q i w d p m B' c' b' o' q' i' w' d' p' m' ∧ decide11_1 B c b o q i w d p m B' c' b' o' q' i' w' d' p' m' = dec5_1 B c b o q i w d p m B' c' b' o' q' i' w' d' p' m' := by
  have hP := place_vals c b o q c'
  have hQ := place_vals c' b' o' q' c
  unfold decide11_0 decide11_1 dec5_0 dec5_1 alike_0 alike_1
  simp only [half_swap, kind_swap', half_eq, kind_place, ixf_place, tell_onto, tell_onto', tell_onto1, tell_onto1', hz]
  generalize half5_0 c b o q d c' b' d' = h1
  generalize half5_0 c' b' o' q' d' c b d = h2
  generalize place5_0 c b o q c' = P at *
  generalize place5_0 c' b' o' q' c = Q at *
  generalize (m == 0) = z1
  generalize (m' == 0) = z2
  have hc : ∀ x, (x = c ∧ c = c') ∨ True := fun _ => .inr trivial
  cases he : c == c' with
  | true =>
    generalize (B == B') = e1
    cases e1 <;> cases p <;> cases p' <;> cases i <;> cases i' <;> cases d <;> cases d' <;> simp only [cond_true, cond_false] <;> first
      | (refine ⟨?_, ?_⟩ <;> first | rfl | trivial)
      | (cases z1 <;> cases z2 <;> cases w <;> cases w' <;> (refine ⟨?_, ?_⟩ <;> first | rfl | trivial))
  | false =>
    have hne : ¬ c = c' := by simpa using he
    have hP : P = 1 ∨ P = 2 ∨ P = 3 ∨ P = -1 := by rcases hP with ⟨_, h⟩ | h; exact absurd h hne; exact h
    have hQ : Q = 1 ∨ Q = 2 ∨ Q = 3 ∨ Q = -1 := by rcases hQ with ⟨_, h⟩ | h; exact absurd h.symm hne; exact h
    generalize (B == B') = e1
    cases e1 <;> cases p <;> cases p' <;> cases i <;> cases i' <;> cases d <;> cases d' <;> simp only [cond_true, cond_false] <;> first
      | (refine ⟨?_, ?_⟩ <;> first | rfl | trivial)
      | (rcases hP with rfl | rfl | rfl | rfl <;> rcases hQ with rfl | rfl | rfl | rfl <;> (refine ⟨?_, ?_⟩ <;> first | rfl | trivial))
theorem decides_true (B c b o q : Int) (i w d p : Bool) (x : BitVec 32) (B' c' b' o' q' : Int) (i' w' d' p' : Bool) (y : BitVec 32) : decides_0 B c b o q i w d p x B' c' b' o' q' i' w' d' p' y = true := by
  have hz : (ior .u32 (ior .u32 0 (mi x)) (mi y) == 0) = ((mi x == 0) && (mi y == 0)) := by
    rw [ior_0, ior_mi, show (0 : Int) = mi 0#32 from rfl, mi_beq, mi_beq, mi_beq, Bool.eq_iff_iff]
    simp [BitVec.or_eq_zero_iff]
  obtain ⟨h1, h2⟩ := dec_eq B c b o q i w d p (mi x) B' c' b' o' q' i' w' d' p' (mi y) hz
  unfold decides_0
  cases hr : right10_0 B c i w p (mi x) with
  | false => rfl
  | true =>
    cases right10_0 B' c' i' w' p' (mi y) with
    | false => rfl
    | true =>
      rw [h1, h2]
      have hb : ∀ K, bits13_0 K B (mi x) (mi y) = bits14_0 K B x y := fun K => by
        unfold bits13_0 bits14_0
        rw [all32_eq hr, ior_0, ior_mi]
        cases K == 2
        · rfl
        · simp
      rw [hb]
      simp
theorem decidesM (B c b o q : Int) (i w d p : Bool) (m : Int) (B' c' b' o' q' : Int) (i' w' d' p' : Bool) (m' : Int) (hm : (Lit.int .u32 m).wf = true) (hm' : (Lit.int .u32 m').wf = true) (k : Nat) :
    orac PP GL HH NN (k + 13) 3 [.agg (hello B c b o q i w d p m), .agg (hello B' c' b' o' q' i' w' d' p' m')] [] = some ([.c (.raw (.bool true))], []) := by
  obtain ⟨x, rfl⟩ := mi_of hm
  obtain ⟨y, rfl⟩ := mi_of hm'
  have := decides B c b o q i w d p x B' c' b' o' q' i' w' d' p' y k
  rwa [decides_true] at this
end Go.Dm
