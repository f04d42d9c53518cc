/-
  A part of the proofs over this seat: what its functions make of data (the file in which the theorems stand says what is proved).
-/
import Derived.Test.YtlmhcmlbnbgaaaaLe
import Derived.Test.YtlmhcmlbnbgaaaaLt
namespace Go.Dm
open Go
theorem place_eq (a b c d g : Int) : place_0 a b c d g = place5_0 a b c d g := by
  unfold place_0 index4_0 place5_0
  rw [Bool.beq_comm (a := g) (b := a), Bool.beq_comm (a := g) (b := b), Bool.beq_comm (a := g) (b := c), Bool.beq_comm (a := g) (b := d)]
theorem target_eq (s : Int) : target_0 s = target5_0 s := by
  simp only [target_0, target5_0, Bool.cond_eq_ite, beq_iff_eq]
  split
  · rename_i h; subst h; rfl
  · split
    · rename_i h; subst h; rfl
    · rfl
theorem tells_true (s a b c d e f g h : Int) : tells_0 s a b c d e f g h = true := by
  simp only [tells_0, target_eq, same5_0, retire_0, retire_1, retire_2, retire5_0, retire5_1, retire5_2]
  by_cases hb : b = 0 <;> by_cases hf : f = 0 <;> simp [hb, hf, Bool.cond_eq_ite] <;> rw [Bool.eq_iff_iff] <;> simp
theorem ior_nat (x y : Int) : ior .u32 x y = ((BitVec.ofInt 32 x ||| BitVec.ofInt 32 y).toNat : Int) := by
  show IntKind.wrap .u32 ((BitVec.ofInt 32 x ||| BitVec.ofInt 32 y).toNat : Int) = _
  exact wrap_u32 (by omega) (by have := (BitVec.ofInt 32 x ||| BitVec.ofInt 32 y).isLt; omega)
theorem ior3 (m m' : Int) : ior .u32 (ior .u32 0 m) m' = ((BitVec.ofInt 32 m ||| BitVec.ofInt 32 m').toNat : Int) := by
  rw [ior_nat, ior_nat]
  have e0 : BitVec.ofInt 32 0 = 0#32 := rfl
  rw [e0, BitVec.zero_or, BitVec.ofInt_natCast, BitVec.ofNat_toNat, BitVec.setWidth_eq]
theorem ior_comm3 (m m' : Int) : ior .u32 (ior .u32 0 m) m' = ior .u32 (ior .u32 0 m') m := by
  rw [ior3, ior3, BitVec.or_comm]
theorem half_swap (c b : Int) (d : Bool) (c' b' o' q' : Int) (d' : Bool) : half1_0 c b d c' b' o' q' d' = half0_0 c' b' o' q' d' c b d := rfl
theorem tell_swap (p : Bool) (kd : Int) : tell1_0 p kd = tell0_0 p kd := rfl
theorem tell_turn (p : Bool) (kd : Int) : target_0 (tell0_1 p kd) = tell1_1 p kd := by
  simp only [tell0_1, tell1_1]
  cases kd == 4 <;> cases p <;> rfl
theorem tell_turn' (p : Bool) (kd : Int) : target_0 (tell1_1 p kd) = tell0_1 p kd := by
  simp only [tell0_1, tell1_1]
  cases kd == 4 <;> cases p <;> rfl
theorem target_no : target_0 (-1) = -1 := rfl
theorem kind_swap (c b o q c' : Int) : kind1_0 c' c b o q = kind0_0 c b o q c' := rfl
theorem alike_kind (w p : Bool) (m : Int) (w' p' : Bool) (m' : Int) : alike_0 w p m w' p' m' = alike_0 w' p' m' w p m ∨ (p = true ∧ p' = true) := by
  simp only [alike_0, ior_comm3 m m', tell_swap]
  cases p <;> cases p' <;> cases w <;> cases w' <;> simp [tell0_0]
end Go.Dm
