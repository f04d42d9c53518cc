/-
  A part of the proofs over this seat: what its functions make of data, in plain terms (the file in which the theorems stand says what is proved).
-/
import Derived.KernelRfl
import Derived.Test.YtnilacbgecakcaaGreatXxC2
namespace Go.Dm
open Go
theorem eb2 {b c : Bool} {gs : List G} {Q : Prop} (h : b = c) (r : Wy gs Q) : Wy (.b c :: .b c :: gs) (b = c ∧ b = c ∧ Q) := ⟨h, h, r⟩
theorem en2 {b c : Bool} {gs : List G} {Q : Prop} (h : b = c) (r : Wy gs Q) : Wy (.b (not c) :: .b (not c) :: gs) (not b = not c ∧ not b = not c ∧ Q) := ⟨congrArg not h, congrArg not h, r⟩
theorem et2 {gs : List G} {Q : Prop} (r : Wy gs Q) : Wy (.b true :: .b true :: gs) (true = true ∧ true = true ∧ Q) := ⟨rfl, rfl, r⟩
theorem ef2 {gs : List G} {Q : Prop} (r : Wy gs Q) : Wy (.b false :: .b false :: gs) (false = false ∧ false = false ∧ Q) := ⟨rfl, rfl, r⟩
theorem eb3 {b c : Bool} {gs : List G} {Q : Prop} (h : b = c) (r : Wy gs Q) : Wy (.b c :: .b c :: .b c :: gs) (b = c ∧ b = c ∧ b = c ∧ Q) := ⟨h, h, h, r⟩
theorem en3 {b c : Bool} {gs : List G} {Q : Prop} (h : b = c) (r : Wy gs Q) : Wy (.b (not c) :: .b (not c) :: .b (not c) :: gs) (not b = not c ∧ not b = not c ∧ not b = not c ∧ Q) := ⟨congrArg not h, congrArg not h, congrArg not h, r⟩
theorem et3 {gs : List G} {Q : Prop} (r : Wy gs Q) : Wy (.b true :: .b true :: .b true :: gs) (true = true ∧ true = true ∧ true = true ∧ Q) := ⟨rfl, rfl, rfl, r⟩
theorem ef3 {gs : List G} {Q : Prop} (r : Wy gs Q) : Wy (.b false :: .b false :: .b false :: gs) (false = false ∧ false = false ∧ false = false ∧ Q) := ⟨rfl, rfl, rfl, r⟩
theorem eb4 {b c : Bool} {gs : List G} {Q : Prop} (h : b = c) (r : Wy gs Q) : Wy (.b c :: .b c :: .b c :: .b c :: gs) (b = c ∧ b = c ∧ b = c ∧ b = c ∧ Q) := ⟨h, h, h, h, r⟩
theorem en4 {b c : Bool} {gs : List G} {Q : Prop} (h : b = c) (r : Wy gs Q) : Wy (.b (not c) :: .b (not c) :: .b (not c) :: .b (not c) :: gs) (not b = not c ∧ not b = not c ∧ not b = not c ∧ not b = not c ∧ Q) := ⟨congrArg not h, congrArg not h, congrArg not h, congrArg not h, r⟩
theorem et4 {gs : List G} {Q : Prop} (r : Wy gs Q) : Wy (.b true :: .b true :: .b true :: .b true :: gs) (true = true ∧ true = true ∧ true = true ∧ true = true ∧ Q) := ⟨rfl, rfl, rfl, rfl, r⟩
theorem ef4 {gs : List G} {Q : Prop} (r : Wy gs Q) : Wy (.b false :: .b false :: .b false :: .b false :: gs) (false = false ∧ false = false ∧ false = false ∧ false = false ∧ Q) := ⟨rfl, rfl, rfl, rfl, r⟩
theorem eb5 {b c : Bool} {gs : List G} {Q : Prop} (h : b = c) (r : Wy gs Q) : Wy (.b c :: .b c :: .b c :: .b c :: .b c :: gs) (b = c ∧ b = c ∧ b = c ∧ b = c ∧ b = c ∧ Q) := ⟨h, h, h, h, h, r⟩
theorem en5 {b c : Bool} {gs : List G} {Q : Prop} (h : b = c) (r : Wy gs Q) : Wy (.b (not c) :: .b (not c) :: .b (not c) :: .b (not c) :: .b (not c) :: gs) (not b = not c ∧ not b = not c ∧ not b = not c ∧ not b = not c ∧ not b = not c ∧ Q) := ⟨congrArg not h, congrArg not h, congrArg not h, congrArg not h, congrArg not h, r⟩
theorem et5 {gs : List G} {Q : Prop} (r : Wy gs Q) : Wy (.b true :: .b true :: .b true :: .b true :: .b true :: gs) (true = true ∧ true = true ∧ true = true ∧ true = true ∧ true = true ∧ Q) := ⟨rfl, rfl, rfl, rfl, rfl, r⟩
theorem ef5 {gs : List G} {Q : Prop} (r : Wy gs Q) : Wy (.b false :: .b false :: .b false :: .b false :: .b false :: gs) (false = false ∧ false = false ∧ false = false ∧ false = false ∧ false = false ∧ Q) := ⟨rfl, rfl, rfl, rfl, rfl, r⟩
theorem eb6 {b c : Bool} {gs : List G} {Q : Prop} (h : b = c) (r : Wy gs Q) : Wy (.b c :: .b c :: .b c :: .b c :: .b c :: .b c :: gs) (b = c ∧ b = c ∧ b = c ∧ b = c ∧ b = c ∧ b = c ∧ Q) := ⟨h, h, h, h, h, h, r⟩
theorem en6 {b c : Bool} {gs : List G} {Q : Prop} (h : b = c) (r : Wy gs Q) : Wy (.b (not c) :: .b (not c) :: .b (not c) :: .b (not c) :: .b (not c) :: .b (not c) :: gs) (not b = not c ∧ not b = not c ∧ not b = not c ∧ not b = not c ∧ not b = not c ∧ not b = not c ∧ Q) := ⟨congrArg not h, congrArg not h, congrArg not h, congrArg not h, congrArg not h, congrArg not h, r⟩
theorem et6 {gs : List G} {Q : Prop} (r : Wy gs Q) : Wy (.b true :: .b true :: .b true :: .b true :: .b true :: .b true :: gs) (true = true ∧ true = true ∧ true = true ∧ true = true ∧ true = true ∧ true = true ∧ Q) := ⟨rfl, rfl, rfl, rfl, rfl, rfl, r⟩
theorem ef6 {gs : List G} {Q : Prop} (r : Wy gs Q) : Wy (.b false :: .b false :: .b false :: .b false :: .b false :: .b false :: gs) (false = false ∧ false = false ∧ false = false ∧ false = false ∧ false = false ∧ false = false ∧ Q) := ⟨rfl, rfl, rfl, rfl, rfl, rfl, r⟩
theorem eb7 {b c : Bool} {gs : List G} {Q : Prop} (h : b = c) (r : Wy gs Q) : Wy (.b c :: .b c :: .b c :: .b c :: .b c :: .b c :: .b c :: gs) (b = c ∧ b = c ∧ b = c ∧ b = c ∧ b = c ∧ b = c ∧ b = c ∧ Q) := ⟨h, h, h, h, h, h, h, r⟩
theorem en7 {b c : Bool} {gs : List G} {Q : Prop} (h : b = c) (r : Wy gs Q) : Wy (.b (not c) :: .b (not c) :: .b (not c) :: .b (not c) :: .b (not c) :: .b (not c) :: .b (not c) :: gs) (not b = not c ∧ not b = not c ∧ not b = not c ∧ not b = not c ∧ not b = not c ∧ not b = not c ∧ not b = not c ∧ Q) := ⟨congrArg not h, congrArg not h, congrArg not h, congrArg not h, congrArg not h, congrArg not h, congrArg not h, r⟩
theorem et7 {gs : List G} {Q : Prop} (r : Wy gs Q) : Wy (.b true :: .b true :: .b true :: .b true :: .b true :: .b true :: .b true :: gs) (true = true ∧ true = true ∧ true = true ∧ true = true ∧ true = true ∧ true = true ∧ true = true ∧ Q) := ⟨rfl, rfl, rfl, rfl, rfl, rfl, rfl, r⟩
theorem ef7 {gs : List G} {Q : Prop} (r : Wy gs Q) : Wy (.b false :: .b false :: .b false :: .b false :: .b false :: .b false :: .b false :: gs) (false = false ∧ false = false ∧ false = false ∧ false = false ∧ false = false ∧ false = false ∧ false = false ∧ Q) := ⟨rfl, rfl, rfl, rfl, rfl, rfl, rfl, r⟩
theorem eb8 {b c : Bool} {gs : List G} {Q : Prop} (h : b = c) (r : Wy gs Q) : Wy (.b c :: .b c :: .b c :: .b c :: .b c :: .b c :: .b c :: .b c :: gs) (b = c ∧ b = c ∧ b = c ∧ b = c ∧ b = c ∧ b = c ∧ b = c ∧ b = c ∧ Q) := ⟨h, h, h, h, h, h, h, h, r⟩
theorem en8 {b c : Bool} {gs : List G} {Q : Prop} (h : b = c) (r : Wy gs Q) : Wy (.b (not c) :: .b (not c) :: .b (not c) :: .b (not c) :: .b (not c) :: .b (not c) :: .b (not c) :: .b (not c) :: gs) (not b = not c ∧ not b = not c ∧ not b = not c ∧ not b = not c ∧ not b = not c ∧ not b = not c ∧ not b = not c ∧ not b = not c ∧ Q) := ⟨congrArg not h, congrArg not h, congrArg not h, congrArg not h, congrArg not h, congrArg not h, congrArg not h, congrArg not h, r⟩
theorem et8 {gs : List G} {Q : Prop} (r : Wy gs Q) : Wy (.b true :: .b true :: .b true :: .b true :: .b true :: .b true :: .b true :: .b true :: gs) (true = true ∧ true = true ∧ true = true ∧ true = true ∧ true = true ∧ true = true ∧ true = true ∧ true = true ∧ Q) := ⟨rfl, rfl, rfl, rfl, rfl, rfl, rfl, rfl, r⟩
theorem ef8 {gs : List G} {Q : Prop} (r : Wy gs Q) : Wy (.b false :: .b false :: .b false :: .b false :: .b false :: .b false :: .b false :: .b false :: gs) (false = false ∧ false = false ∧ false = false ∧ false = false ∧ false = false ∧ false = false ∧ false = false ∧ false = false ∧ Q) := ⟨rfl, rfl, rfl, rfl, rfl, rfl, rfl, rfl, r⟩
theorem eb9 {b c : Bool} {gs : List G} {Q : Prop} (h : b = c) (r : Wy gs Q) : Wy (.b c :: .b c :: .b c :: .b c :: .b c :: .b c :: .b c :: .b c :: .b c :: gs) (b = c ∧ b = c ∧ b = c ∧ b = c ∧ b = c ∧ b = c ∧ b = c ∧ b = c ∧ b = c ∧ Q) := ⟨h, h, h, h, h, h, h, h, h, r⟩
theorem en9 {b c : Bool} {gs : List G} {Q : Prop} (h : b = c) (r : Wy gs Q) : Wy (.b (not c) :: .b (not c) :: .b (not c) :: .b (not c) :: .b (not c) :: .b (not c) :: .b (not c) :: .b (not c) :: .b (not c) :: gs) (not b = not c ∧ not b = not c ∧ not b = not c ∧ not b = not c ∧ not b = not c ∧ not b = not c ∧ not b = not c ∧ not b = not c ∧ not b = not c ∧ Q) := ⟨congrArg not h, congrArg not h, congrArg not h, congrArg not h, congrArg not h, congrArg not h, congrArg not h, congrArg not h, congrArg not h, r⟩
theorem et9 {gs : List G} {Q : Prop} (r : Wy gs Q) : Wy (.b true :: .b true :: .b true :: .b true :: .b true :: .b true :: .b true :: .b true :: .b true :: gs) (true = true ∧ true = true ∧ true = true ∧ true = true ∧ true = true ∧ true = true ∧ true = true ∧ true = true ∧ true = true ∧ Q) := ⟨rfl, rfl, rfl, rfl, rfl, rfl, rfl, rfl, rfl, r⟩
theorem ef9 {gs : List G} {Q : Prop} (r : Wy gs Q) : Wy (.b false :: .b false :: .b false :: .b false :: .b false :: .b false :: .b false :: .b false :: .b false :: gs) (false = false ∧ false = false ∧ false = false ∧ false = false ∧ false = false ∧ false = false ∧ false = false ∧ false = false ∧ false = false ∧ Q) := ⟨rfl, rfl, rfl, rfl, rfl, rfl, rfl, rfl, rfl, r⟩
theorem zZ {gs : List G} {Q : Prop} (r : Wy gs Q) : Wy (.b false :: .b false :: .b false :: .b false :: .b false :: .b false :: .b false :: .b false :: .b false :: .b false :: gs) (false = false ∧ false = false ∧ false = false ∧ false = false ∧ false = false ∧ false = false ∧ false = false ∧ false = false ∧ false = false ∧ false = false ∧ Q) := ⟨rfl, rfl, rfl, rfl, rfl, rfl, rfl, rfl, rfl, rfl, r⟩
theorem xL {gs : List G} {Q : Prop} (r : Wy gs Q) : Wy (.b true :: .b true :: .b true :: .b true :: .b true :: .b true :: .b true :: .b true :: .b true :: .b true :: .b true :: gs) (true = true ∧ true = true ∧ true = true ∧ true = true ∧ true = true ∧ true = true ∧ true = true ∧ true = true ∧ true = true ∧ true = true ∧ true = true ∧ Q) := ⟨rfl, rfl, rfl, rfl, rfl, rfl, rfl, rfl, rfl, rfl, rfl, r⟩
theorem qu {gs : List G} {Q : Prop} (r : Wy gs Q) : Wy (.b false :: .b false :: .b false :: .b false :: .b false :: .b false :: .b false :: .b false :: .b false :: .b false :: .b false :: gs) (false = false ∧ false = false ∧ false = false ∧ false = false ∧ false = false ∧ false = false ∧ false = false ∧ false = false ∧ false = false ∧ false = false ∧ false = false ∧ Q) := ⟨rfl, rfl, rfl, rfl, rfl, rfl, rfl, rfl, rfl, rfl, rfl, r⟩
theorem GZ {b c : Bool} {gs : List G} {Q : Prop} (h : b = c) (r : Wy gs Q) : Wy (.b c :: .b c :: .b c :: .b c :: .b c :: .b c :: .b c :: .b c :: .b c :: .b c :: .b c :: .b c :: gs) (b = c ∧ b = c ∧ b = c ∧ b = c ∧ b = c ∧ b = c ∧ b = c ∧ b = c ∧ b = c ∧ b = c ∧ b = c ∧ b = c ∧ Q) := ⟨h, h, h, h, h, h, h, h, h, h, h, h, r⟩
theorem xO {gs : List G} {Q : Prop} (r : Wy gs Q) : Wy (.b true :: .b true :: .b true :: .b true :: .b true :: .b true :: .b true :: .b true :: .b true :: .b true :: .b true :: .b true :: gs) (true = true ∧ true = true ∧ true = true ∧ true = true ∧ true = true ∧ true = true ∧ true = true ∧ true = true ∧ true = true ∧ true = true ∧ true = true ∧ true = true ∧ Q) := ⟨rfl, rfl, rfl, rfl, rfl, rfl, rfl, rfl, rfl, rfl, rfl, rfl, r⟩
theorem kj {gs : List G} {Q : Prop} (r : Wy gs Q) : Wy (.b false :: .b false :: .b false :: .b false :: .b false :: .b false :: .b false :: .b false :: .b false :: .b false :: .b false :: .b false :: gs) (false = false ∧ false = false ∧ false = false ∧ false = false ∧ false = false ∧ false = false ∧ false = false ∧ false = false ∧ false = false ∧ false = false ∧ false = false ∧ false = false ∧ Q) := ⟨rfl, rfl, rfl, rfl, rfl, rfl, rfl, rfl, rfl, rfl, rfl, rfl, r⟩
theorem bft (b : Bool) : b = true ∨ b = false := Bool.eq_false_or_eq_true b
theorem vq : (∀ {α : Type} (a b : α), (bif true then a else b) = a) ∧ (∀ {α : Type} (a b : α), (bif false then a else b) = b) ∧ (∀ b, (true && b) = b) ∧ (∀ b, (false && b) = false) ∧ (∀ b, (true || b) = true) ∧ (∀ b, (false || b) = b) ∧ (!true) = false ∧ (!false) = true := ⟨fun _ _ => rfl, fun _ _ => rfl, fun _ => rfl, fun _ => rfl, fun _ => rfl, fun _ => rfl, rfl, rfl⟩
theorem vr : (∀ {α : Type} (p q : List α), (p ++ q).length = p.length + q.length) ∧ (∀ {α : Type} (a : α) (p : List α), (a :: p).length = p.length + 1) ∧ (∀ {α : Type}, ([] : List α).length = 0) ∧ (∀ {α : Type} (i : Nat) (l : List α), (l.drop i).length = l.length - i) ∧ (∀ {α : Type} (i : Nat) (l : List α), (l.take i).length = min i l.length) ∧ (∀ {α β : Type} (f : α → β) (p : List α), (p.map f).length = p.length) := ⟨fun _ _ => List.length_append, fun _ _ => List.length_cons, rfl, fun _ _ => List.length_drop, fun _ _ => List.length_take, fun f _ => List.length_map f⟩
end Go.Dm
namespace Go.Dm
open Go
abbrev mi (x : BitVec 32) : Int := (x.toNat : Int)
theorem kB (n : Nat) : IntKind.wrap .u32 (n : Int) = ((n % 4294967296 : Nat) : Int) := by
  unfold IntKind.wrap
  simp [IntKind.signed, IntKind.bits]
theorem oD (x : BitVec 32) : 0 ≤ mi x ∧ mi x < 4294967296 := by
  have := x.isLt
  simp only [mi]
  omega
def inM (m : Int) (i : Nat) : Bool := (IntKind.wrap .u32 (m.tdiv (2 ^ i))).tmod 2 == 1
theorem D3 (x : BitVec 32) (i : Nat) : inM (mi x) i = x.getLsbD i := by
  unfold inM mi
  have e : ((x.toNat : Int)).tdiv (2 ^ i) = ((x.toNat / 2 ^ i : Nat) : Int) := by
    rw [Int.tdiv_eq_ediv_of_nonneg (by omega)]; simp
  rw [e, kB]
  have hl : x.toNat / 2 ^ i < 4294967296 := Nat.lt_of_le_of_lt (Nat.div_le_self _ _) x.isLt
  rw [Nat.mod_eq_of_lt hl, Int.tmod_eq_emod_of_nonneg (Int.natCast_nonneg _)]
  show _ = Nat.testBit x.toNat i
  rw [Nat.testBit_eq_decide_div_mod_eq, Bool.eq_iff_iff]
  generalize x.toNat / 2 ^ i = q
  simp only [beq_iff_eq, decide_eq_true_eq]
  omega
theorem zu {i : Nat} (h : i < 32) : (2 : Int) ^ i = mi (BitVec.twoPow 32 i) := by
  simp only [mi, BitVec.toNat_twoPow]
  rw [Nat.mod_eq_of_lt (Nat.pow_lt_pow_right (by omega) h)]
  simp
theorem uK {x : BitVec 32} {i : Nat} (h : i < 32) (hx : x.getLsbD i = false) : IntKind.wrap .u32 (mi x + 2 ^ i) = mi (x ||| BitVec.twoPow 32 i) := by
  rw [zu h]
  have e : x ||| BitVec.twoPow 32 i = x + BitVec.twoPow 32 i := by
    rw [BitVec.add_eq_or_of_and_eq_zero]
    apply BitVec.eq_of_getLsbD_eq
    intro j hj
    simp only [BitVec.getLsbD_and, BitVec.getLsbD_twoPow, hj, decide_true, Bool.true_and, BitVec.getLsbD_zero]
    by_cases hji : i = j
    · subst hji; simp [hx]
    · simp [hji]
  rw [e]
  simp only [mi]
  rw [← Int.natCast_add, kB, BitVec.toNat_add]
theorem AL {x : BitVec 32} {i : Nat} (h : i < 32) (hx : x.getLsbD i = true) : IntKind.wrap .u32 (mi x - 2 ^ i) = mi (x &&& ~~~BitVec.twoPow 32 i) := by
  have hb : (x &&& ~~~BitVec.twoPow 32 i).getLsbD i = false := by simp [h]
  have ha := uK h hb
  have e : (x &&& ~~~BitVec.twoPow 32 i) ||| BitVec.twoPow 32 i = x := by
    apply BitVec.eq_of_getLsbD_eq
    intro j hj
    simp only [BitVec.getLsbD_or, BitVec.getLsbD_and, BitVec.getLsbD_not, BitVec.getLsbD_twoPow, hj, decide_true, Bool.true_and]
    by_cases hji : i = j
    · subst hji; simp [hx]
    · simp [hji]
  rw [e] at ha
  rw [zu h] at ha ⊢
  have h1 := oD x
  have h2 := oD (x &&& ~~~BitVec.twoPow 32 i)
  have h3 := oD (BitVec.twoPow 32 i)
  have hle : mi (BitVec.twoPow 32 i) ≤ mi x := by
    simp only [mi, BitVec.toNat_twoPow]
    rw [Nat.mod_eq_of_lt (Nat.pow_lt_pow_right (by omega) h)]
    have : 2 ^ i ≤ x.toNat := Nat.ge_two_pow_of_testBit (by simpa [BitVec.getLsbD] using hx)
    omega
  have w1 : IntKind.wrap .u32 (mi x - mi (BitVec.twoPow 32 i)) = mi x - mi (BitVec.twoPow 32 i) := by
    unfold IntKind.wrap
    simp [IntKind.signed, IntKind.bits]
    omega
  rw [w1]
  unfold IntKind.wrap at ha
  simp [IntKind.signed, IntKind.bits] at ha
  omega
def wF (x : BitVec 32) : List Nat := (List.range 32).filter x.getLsbD
def CC (x : BitVec 32) (l : List Nat) : BitVec 32 := l.foldl (fun m i => m ||| BitVec.twoPow 32 i) x
theorem sb : ∀ (l : List Nat) (x : BitVec 32) (j : Nat), j < 32 → (CC x l).getLsbD j = (x.getLsbD j || l.contains j)
  | [], x, j, _ => by simp [CC]
  | i :: l, x, j, hj => by
    have := sb l (x ||| BitVec.twoPow 32 i) j hj
    unfold CC at this ⊢
    simp only [List.foldl_cons]
    rw [this]
    simp only [BitVec.getLsbD_or, BitVec.getLsbD_twoPow, List.contains_cons, hj, decide_true, Bool.true_and]
    rw [Bool.or_assoc]
    congr 2
    rw [Bool.eq_iff_iff]
    simp
    omega
theorem uu (x y : BitVec 32) : CC x (wF y) = x ||| y := by
  apply BitVec.eq_of_getLsbD_eq
  intro j hj
  rw [sb _ _ _ hj, BitVec.getLsbD_or]
  congr 1
  unfold wF
  rw [Bool.eq_iff_iff]
  simp [hj]
abbrev is (l : List Int) : List (List C) := l.map eI
abbrev eW (x : BitVec 32) : List C := [w4 (mi x)]
abbrev ms (l : List (BitVec 32)) : List (List C) := l.map eW
theorem DZ (l : List Int) : (is l).length = l.length := by simp [is]
theorem jE {i : Nat} (h : i ≤ 31) : (2 : Int) ^ i ≤ 2147483648 ∧ 0 < (2 : Int) ^ i := by
  have h1 : (2 : Nat) ^ i ≤ 2 ^ 31 := Nat.pow_le_pow_right (by omega) h
  have h2 : 0 < (2 : Nat) ^ i := Nat.pow_pos (by omega)
  have e : ((2 ^ i : Nat) : Int) = (2 : Int) ^ i := by simp
  rw [← e]
  omega
def jT (x : BitVec 32) : List Int := (wF x).map fun (i : Nat) => (i : Int)
def lsI (x : BitVec 32) (n : Nat) : List Int := ((List.range n).filter x.getLsbD).map fun (i : Nat) => (i : Int)
theorem yz (x : BitVec 32) (n : Nat) : lsI x (n + 1) = if x.getLsbD n then lsI x n ++ [(n : Int)] else lsI x n := by
  unfold lsI
  rw [List.range_succ, List.filter_append]
  cases hb : x.getLsbD n <;> simp [hb]
theorem vN (x : BitVec 32) (n : Nat) : (lsI x n).length ≤ n := by
  unfold lsI
  rw [List.length_map]
  exact Nat.le_trans (List.length_filter_le _ _) (by simp)
theorem DK (x : BitVec 32) : lsI x 32 = jT x := rfl
theorem wB (x : BitVec 32) : (jT x).length ≤ 32 := vN x 32
def inB (i : Int) : Bool := decide (0 ≤ i) && decide (i < 32)
def ju (x : BitVec 32) (i : Int) : Bool := inB i && x.getLsbD i.toNat
def nq (i : Int) : BitVec 32 := if inB i then BitVec.twoPow 32 i.toNat else 0#32
def yp (m : BitVec 32) (l : List Int) : BitVec 32 := l.foldl (fun m x => m ||| nq x) m
def qT (m : BitVec 32) (l : List Int) : BitVec 32 := l.foldl (fun m x => m &&& ~~~nq x) m
def orI (m : BitVec 32) (l : List (BitVec 32)) : BitVec 32 := l.foldl (fun m x => m ||| x) m
def CD (B : Int) : BitVec 32 := if 1 ≤ B ∧ B ≤ 32 then BitVec.ofNat 32 (2 ^ B.toNat - 1) else 0#32
def g9 (x : BitVec 32) (B : Int) : Bool := decide (1 ≤ B) && decide (B ≤ 32) && (x &&& ~~~CD B == 0#32)
def kG (x : BitVec 32) (f : Int) : Option Int := (jT x).find? fun i => decide (f ≤ i)
theorem xc (x : BitVec 32) : ∀ (l : List Nat), (∀ i ∈ l, i < 32) → ∀ (m : BitVec 32), yp m (l.map fun (i : Nat) => (i : Int)) = CC m l
  | [], _, m => rfl
  | i :: l, h, m => by
    have hi := h i (by simp)
    have hb : nq (i : Int) = BitVec.twoPow 32 i := by
      unfold nq inB
      rw [decide_eq_true (by omega : (0 : Int) ≤ i), decide_eq_true (by omega : (i : Int) < 32)]
      simp
    have := xc x l (fun j hj => h j (by simp [hj])) (m ||| BitVec.twoPow 32 i)
    unfold yp CC at this ⊢
    simp only [List.map_cons, List.foldl_cons, hb]
    exact this
theorem uw (x y : BitVec 32) : yp x (jT y) = x ||| y := by
  rw [← uu x y]
  unfold jT
  refine xc x _ (fun i hi => ?_) _
  unfold wF at hi
  simp at hi
  exact hi.1
end Go.Dm
namespace Go.Dm
open Go
structure Wr where
  sec : Int
  data : ByteArray
  deriving Inhabited, DecidableEq
abbrev Wr.cs (w : Wr) : List C := [ii w.sec, st w.data]
structure Dk where
  sure : List ByteArray
  cache : List Wr
  fuse : Int
  dead : Bool
  deriving Inhabited, DecidableEq
abbrev Dk.cs (d : Dk) : List C := [.slice 1 (d.sure.map eS), .slice 2 (d.cache.map Wr.cs), ii d.fuse, bo d.dead]
structure Ve where
  cur : Int
  bit : Int
  o0 : Int
  o1 : Int
  deriving Inhabited, DecidableEq
abbrev Ve.cs (v : Ve) : List C := [u v.cur, u v.bit, u v.o0, u v.o1]
structure Su where
  blocks : Int
  v : Ve
  inc : Bool
  pri : Bool
  dis : Bool
  deriving Inhabited, DecidableEq
abbrev Su.cs (s : Su) : List C := [ii s.blocks, u s.v.cur, u s.v.bit, u s.v.o0, u s.v.o1, bo s.inc, bo s.pri, bo s.dis]
structure He where
  blocks : Int
  v : Ve
  inc : Bool
  was : Bool
  dis : Bool
  pri : Bool
  mask : BitVec 32
  deriving Inhabited, DecidableEq
abbrev He.cs (h : He) : List C := [ii h.blocks, u h.v.cur, u h.v.bit, u h.v.o0, u h.v.o1, bo h.inc, bo h.was, bo h.dis, bo h.pri, w4 (mi h.mask)]
structure Vd where
  kind : Int
  src : Int
  deriving Inhabited, DecidableEq
abbrev Vd.cs (v : Vd) : List C := [ii v.kind, ii v.src]
structure Mi where
  g : Int
  p : Int
  n : Int
  deriving Inhabited, DecidableEq
abbrev Mi.cs (m : Mi) : List C := [u m.g, u m.p, ii m.n]
structure Pk where
  kind : Int
  ses : Int
  hello : He
  block : Int
  data : ByteArray
  deriving Inhabited, DecidableEq
abbrev Pk.cs (p : Pk) : List C := [ii p.kind, u p.ses, ii p.hello.blocks, u p.hello.v.cur, u p.hello.v.bit, u p.hello.v.o0, u p.hello.v.o1, bo p.hello.inc, bo p.hello.was, bo p.hello.dis, bo p.hello.pri, w4 (mi p.hello.mask), ii p.block, st p.data]
structure Lk where
  up : Bool
  ses : Int
  to0 : List ByteArray
  to1 : List ByteArray
  deriving Inhabited, DecidableEq
abbrev Lk.cs (l : Lk) : List C := [bo l.up, u l.ses, .slice 1 (l.to0.map eS), .slice 1 (l.to1.map eS)]
structure So where
  disk : Dk
  super : Su
  mask : BitVec 32
  deriving Inhabited, DecidableEq
abbrev So.cs (s : So) : List C := [.slice 1 (s.disk.sure.map eS), .slice 2 (s.disk.cache.map Wr.cs), ii s.disk.fuse, bo s.disk.dead,
  ii s.super.blocks, u s.super.v.cur, u s.super.v.bit, u s.super.v.o0, u s.super.v.o1, bo s.super.inc, bo s.super.pri, bo s.super.dis, w4 (mi s.mask)]
structure Rq where
  on : Bool
  id : Int
  block : Int
  data : ByteArray
  deriving Inhabited, DecidableEq
abbrev Rq.cs (r : Rq) : List C := [bo r.on, ii r.id, ii r.block, st r.data]
structure Nd where
  id : Int
  up : Bool
  store : So
  primary : Bool
  state : Int
  ses : Int
  peer : He
  peerPri : Bool
  req : Rq
  asking : Bool
  askId : Int
  wanted : Int
  minted : Bool
  draws : List Int
  mints : List Mi
  deriving Inhabited, DecidableEq
abbrev Nd.cs (n : Nd) : List C := [ii n.id, bo n.up, .slice 1 (n.store.disk.sure.map eS), .slice 2 (n.store.disk.cache.map Wr.cs), ii n.store.disk.fuse, bo n.store.disk.dead,
  ii n.store.super.blocks, u n.store.super.v.cur, u n.store.super.v.bit, u n.store.super.v.o0, u n.store.super.v.o1, bo n.store.super.inc, bo n.store.super.pri, bo n.store.super.dis, w4 (mi n.store.mask),
  bo n.primary, ii n.state, u n.ses, ii n.peer.blocks, u n.peer.v.cur, u n.peer.v.bit, u n.peer.v.o0, u n.peer.v.o1, bo n.peer.inc, bo n.peer.was, bo n.peer.dis, bo n.peer.pri, w4 (mi n.peer.mask), bo n.peerPri,
  bo n.req.on, ii n.req.id, ii n.req.block, st n.req.data, bo n.asking, ii n.askId, ii n.wanted, bo n.minted, .slice 1 (n.draws.map eU), .slice 3 (n.mints.map Mi.cs)]
structure Ou where
  kind : Int
  node : Int
  id : Int
  err : Int
  data : ByteArray
  deriving Inhabited, DecidableEq
abbrev Ou.cs (o : Ou) : List C := [ii o.kind, ii o.node, ii o.id, ii o.err, st o.data]
structure Cl where
  n0 : Nd
  n1 : Nd
  link : Lk
  w0 : Bool
  w1 : Bool
  deriving Inhabited, DecidableEq
abbrev Cl.cs (c : Cl) : List C := c.n0.cs ++ (c.n1.cs ++ [bo c.link.up, u c.link.ses, .slice 1 (c.link.to0.map eS), .slice 1 (c.link.to1.map eS), bo c.w0, bo c.w1])
structure Evt where
  kind : Int
  node : Int
  id : Int
  block : Int
  data : ByteArray
  n : Int
  keeps : List Bool
  deriving Inhabited, DecidableEq
abbrev Evt.cs (e : Evt) : List C := [ii e.kind, ii e.node, ii e.id, ii e.block, st e.data, u e.n, .slice 1 (e.keeps.map eB)]
end Go.Dm
namespace Go.Dm
open Go
def Am : Nat → Int → ByteArray → ByteArray
  | 0, _, s => s
  | k + 1, n, s => Am k (IntKind.wrap .u64 (n.tdiv 256)) (bH [IntKind.wrap .u8 (n.tmod 256)] ++ s)
def dO (n : Int) : ByteArray := Am 8 n ⟨#[]⟩
def cZ (n : Int) : ByteArray := Am 4 (IntKind.wrap .u64 n) ⟨#[]⟩
def dY (l : List UInt8) : Int := l.foldl (fun n b => IntKind.wrap .u64 (IntKind.wrap .u64 (n * 256) + IntKind.wrap .u64 (b.toNat : Int))) 0
def ac (s : ByteArray) (i : Nat) : UInt8 := s[i]?.getD 0
def fl (b : Bool) (n : Int) : Int := bif b then n else 0
def oF (n : Int) (b : UInt8) : Int := (IntKind.wrap .u64 (G0 .u64 n (IntKind.wrap .u64 (b.toNat : Int)) * 16777619)).tmod 4294967296
def Ed (s : ByteArray) : Int := IntKind.wrap .u32 (s.data.toList.foldl oF 2166136261)
def bg (s : ByteArray) : ByteArray := s ++ cZ (Ed s)
def aa (s : ByteArray) : ByteArray × Int :=
  bif decide ((s.size : Int) < 4) then (⟨#[]⟩, 2) else bif bg (s.extract 0 (s.size - 4)) == s then (s.extract 0 (s.size - 4), 0) else (⟨#[]⟩, 3)
theorem cW (ns : List Int) : (bH ns).size = ns.length := by
  have key : ∀ (l : List Int) (a : ByteArray), (l.foldl (fun r n => r.push (UInt8.ofNat n.toNat)) a).size = a.size + l.length := by
    intro l
    induction l with
    | nil => intro a; rfl
    | cons x l ih => intro a; rw [List.foldl_cons, ih, ByteArray.size_push, List.length_cons]; omega
  have := key ns ByteArray.empty
  simpa [bH] using this
theorem kZ : ∀ (k : Nat) (n : Int) (s : ByteArray), (Am k n s).size = k + s.size
  | 0, n, s => by simp [Am]
  | k + 1, n, s => by
    rw [Am, kZ k, ByteArray.size_append, cW]
    simp only [List.length_cons, List.length_nil]
    omega
theorem zK (a : Array UInt8) : (ByteArray.mk a).size = a.size := rfl
theorem kO : (⟨#[]⟩ : ByteArray).size = 0 := rfl
theorem bX (n : Int) : (dO n).size = 8 := by unfold dO; rw [kZ, kO]
theorem jf (n : Int) : (cZ n).size = 4 := by unfold cZ; rw [kZ, kO]
theorem dG (s : ByteArray) : (bg s).size = s.size + 4 := by unfold bg; rw [ByteArray.size_append, jf]
theorem fE (s : ByteArray) (i : Nat) : s[i]? = s.data.toList[i]? := by
  by_cases h : i < s.size
  · rw [getElem?_pos s i h]
    have h2 : i < s.data.toList.length := by simpa using h
    rw [List.getElem?_eq_getElem h2]
    simp
    rfl
  · rw [getElem?_neg s i h, List.getElem?_eq_none (by simpa using h)]
theorem sm (s : ByteArray) : s.data.toList.length = s.size := by simp
theorem Fu {α : Type} {l : List α} (h : l.length = 8) : ∃ a b c d e f g i, l = [a, b, c, d, e, f, g, i] := by
  match l, h with
  | [a, b, c, d, e, f, g, i], _ => exact ⟨a, b, c, d, e, f, g, i, rfl⟩
theorem E9 {α : Type} {l : List α} (h : l.length = 4) : ∃ a b c d, l = [a, b, c, d] := by
  match l, h with
  | [a, b, c, d], _ => exact ⟨a, b, c, d, rfl⟩
theorem eo {s : ByteArray} {i : Nat} (h : i < s.size) : s[i]? = some (ac s i) := by
  unfold ac
  rw [getElem?_pos s i h]
  rfl
def dA (d : Dk) (i : Int) : ByteArray := d.cache.foldl (fun s w => bif w.sec == i then w.data else s) (d.sure.getD i.toNat ⟨#[]⟩)
def aK (d : Dk) (i : Int) : ByteArray × Int :=
  bif d.dead then (⟨#[]⟩, 6) else bif decide (i < 0) || decide (i ≥ (d.sure.length : Int)) then (⟨#[]⟩, 4) else (dA d i, 0)
def aV (d : Dk) : Dk :=
  { d with dead := bif d.fuse == 1 then true else d.dead, fuse := bif decide (d.fuse > 0) then IntKind.wrap .i64 (d.fuse - 1) else d.fuse }
def bd (d : Dk) (i : Int) (data : ByteArray) : Dk × Int :=
  bif d.dead then (d, 6) else bif decide (i < 0) || decide (i ≥ (d.sure.length : Int)) then (d, 4) else bif decide ((data.size : Int) > 64) then (d, 5) else
  bif (aV d).dead then (aV d, 6) else ({ aV d with cache := (aV d).cache ++ [⟨i, data⟩] }, 0)
def lX (d : Dk) : List ByteArray := (List.range d.sure.length).map fun (i : Nat) => dA d (i : Int)
def fd (d : Dk) : Dk × Int :=
  bif d.dead then (d, 6) else bif (aV d).dead then (aV d, 6) else
  ({ aV d with sure := lX (aV d), cache := [] }, 0)
def Dh (d : Dk) (n : Int) : Dk := { d with fuse := if 0 > n then 0 else n }
def pU (d : Dk) : Dk := { d with dead := true, fuse := 0 }
def bV (d : Dk) (keeps : List Bool) : Dk :=
  ⟨(d.cache.zip keeps).foldl (fun s x => bif x.2 then s.set x.1.sec.toNat x.1.data else s) d.sure, [], 0, false⟩
def aQ (v : Ve) (g : Int) : Int := bif g == 0 then -1 else bif v.cur == g then 0 else bif v.bit == g then 1 else bif v.o0 == g then 2 else bif v.o1 == g then 3 else -1
def iF (v : Ve) (g : Int) : Ve := bif v.bit == 0 then ⟨g, v.cur, v.o0, v.o1⟩ else ⟨g, v.bit, v.cur, v.o0⟩
def cF (v : Ve) : Ve := bif v.bit == 0 then v else ⟨v.cur, 0, v.bit, v.o0⟩
def uF (v : Ve) (g : Int) : Ve := { v with bit := g }
def cR (s : Su) : Bool := decide (s.blocks ≥ 1) && decide (s.blocks ≤ 32) && !(s.v.cur == 0)
def cE (s : Su) : ByteArray := (((((⟨#[71, 77, 1]⟩ ++ bH [IntKind.wrap .u8 s.blocks, fl s.inc 1 + fl s.pri 2 + fl s.dis 4]) ++ dO s.v.cur) ++ dO s.v.bit) ++ dO s.v.o0) ++ dO s.v.o1)
theorem kw (s : Su) : (cE s).size = 37 := by
  unfold cE
  simp only [ByteArray.size_append, cW, bX, List.length_cons, List.length_nil]
  rfl
def aY (s : Su) : ByteArray × Int := bif !cR s then (⟨#[]⟩, 1) else (bg (cE s), 0)
def su0 : Su := ⟨0, ⟨0, 0, 0, 0⟩, false, false, false⟩
def bf (t : ByteArray) (at' : Nat) : Int := dY (t.extract at' (at' + 8)).data.toList
def aI (b : UInt8) (i : Nat) : Bool := ((b.toNat / 2 ^ i) % 2 == 1)
def Aj (t : ByteArray) : Su := ⟨IntKind.wrap .i64 ((ac t 3).toNat : Int), ⟨bf t 5, bf t 13, bf t 21, bf t 29⟩, aI (ac t 4) 0, aI (ac t 4) 1, aI (ac t 4) 2⟩
def cB (b : ByteArray) : Su × Int :=
  bif !((aa b).2 == 0) then (su0, (aa b).2) else
  bif !(((aa b).1.size : Int) == 37) || decide (((ac (aa b).1 4).toNat : Int) > 7) then (su0, 2) else
  bif !cR (Aj (aa b).1) || !(cE (Aj (aa b).1) == (aa b).1) then (su0, 2) else (Aj (aa b).1, 0)
def rf (d : Dk) (s : Su) : Bool := IntKind.wrap .i64 ((d.sure.length : Int) - 2) == s.blocks
def gQ (d : Dk) : Su × Int :=
  bif !((aK d 0).2 == 0) then (su0, (aK d 0).2) else bif !((cB (aK d 0).1).2 == 0) then (su0, (cB (aK d 0).1).2) else
  bif !rf d (cB (aK d 0).1).1 then (su0, 2) else ((cB (aK d 0).1).1, 0)
def bW (d : Dk) (s : Su) : Dk × Int :=
  bif !((aY s).2 == 0) || !rf d s then (d, 1) else
  bif !((bd d 0 (aY s).1).2 == 0) then bd d 0 (aY s).1 else fd (bd d 0 (aY s).1).1
def eR (d : Dk) : BitVec 32 × Int :=
  bif !((aK d 1).2 == 0) then (0#32, (aK d 1).2) else bif !((aa (aK d 1).1).2 == 0) then (0#32, (aa (aK d 1).1).2) else
  bif !(((aa (aK d 1).1).1.size : Int) == 4) then (0#32, 2) else
  bif !g9 (BitVec.ofInt 32 (dY (aa (aK d 1).1).1.data.toList)) (IntKind.wrap .i64 ((d.sure.length : Int) - 2)) then (0#32, 2) else (BitVec.ofInt 32 (dY (aa (aK d 1).1).1.data.toList), 0)
def dx (d : Dk) (m : BitVec 32) : Dk × Int :=
  bif !g9 m (IntKind.wrap .i64 ((d.sure.length : Int) - 2)) then (d, 1) else bd d 1 (bg (cZ (mi m)))
def gd (d : Dk) (m : BitVec 32) : Dk × Int :=
  bif !((dx d m).2 == 0) then dx d m else fd (dx d m).1
def ey (d : Dk) (i : Int) : Bool := decide (i ≥ 0) && decide (i < IntKind.wrap .i64 ((d.sure.length : Int) - 2))
def ak (d : Dk) (i : Int) : ByteArray × Int :=
  bif !ey d i then (⟨#[]⟩, 4) else bif !((aK d (IntKind.wrap .i64 (i + 2))).2 == 0) then (⟨#[]⟩, (aK d (IntKind.wrap .i64 (i + 2))).2) else
  bif !(((aK d (IntKind.wrap .i64 (i + 2))).1.size : Int) == 8) then (⟨#[]⟩, 2) else ((aK d (IntKind.wrap .i64 (i + 2))).1, 0)
def gS (d : Dk) (i : Int) (data : ByteArray) : Dk × Int :=
  bif !ey d i then (d, 4) else bif !((data.size : Int) == 8) then (d, 5) else
  bif !((bd d (IntKind.wrap .i64 (i + 2)) data).2 == 0) then bd d (IntKind.wrap .i64 (i + 2)) data else fd (bd d (IntKind.wrap .i64 (i + 2)) data).1
def iD (d : Dk) : List ByteArray × Int :=
  match (List.range (d.sure.length - 2)).find? (fun (i : Nat) => !((ak d (i : Int)).2 == 0)) with
  | some i => ([], (ak d (i : Int)).2)
  | none => ((List.range (d.sure.length - 2)).map fun (i : Nat) => (ak d (i : Int)).1, 0)
def EP (s : Su) (pri : Bool) (m : BitVec 32) : He := ⟨s.blocks, s.v, s.inc, s.pri && !pri, s.dis, pri, m⟩
def cQ (h : He) : Bool := decide (h.blocks ≥ 1) && decide (h.blocks ≤ 32) && !(h.v.cur == 0) && g9 h.mask h.blocks && !(h.pri && h.was) && !(h.pri && h.inc)
def jN (h : He) : ByteArray := (((((bH [IntKind.wrap .u8 h.blocks, fl h.inc 1 + fl h.was 2 + fl h.dis 4 + fl h.pri 8] ++ dO h.v.cur) ++ dO h.v.bit) ++ dO h.v.o0) ++ dO h.v.o1) ++ cZ (mi h.mask))
theorem j4 (h : He) : (jN h).size = 38 := by
  unfold jN
  simp only [ByteArray.size_append, cW, bX, jf, List.length_cons, List.length_nil]
def iZ (h : He) : ByteArray × Int := bif !cQ h then (⟨#[]⟩, 1) else (jN h, 0)
def he0 : He := ⟨0, ⟨0, 0, 0, 0⟩, false, false, false, false, 0#32⟩
def EJ (b : ByteArray) : He := ⟨IntKind.wrap .i64 ((ac b 0).toNat : Int), ⟨bf b 2, bf b 10, bf b 18, bf b 26⟩, aI (ac b 1) 0, aI (ac b 1) 1, aI (ac b 1) 2, aI (ac b 1) 3, BitVec.ofInt 32 (dY (b.extract 34 b.size).data.toList)⟩
def eQ (b : ByteArray) : He × Int :=
  bif !((b.size : Int) == 38) || decide (((ac b 1).toNat : Int) > 15) then (he0, 2) else bif !cQ (EJ b) then (he0, 2) else (EJ b, 0)
end Go.Dm
namespace Go.Dm
open Go
abbrev hz0 : He := He.mk 0 (Ve.mk 0 0 0 0) false false false false (BitVec.ofNat 32 0)
abbrev rqz : Rq := Rq.mk false 0 0 ⟨#[]⟩
abbrev bz8 : ByteArray := ByteArray.mk #[0, 0, 0, 0, 0, 0, 0, 0]
theorem rz (x : Int) : x = x := rfl
theorem vu : (∀ a b : ByteArray, (a ++ b).size = a.size + b.size) ∧ (∀ ns, (bH ns).size = ns.length) ∧ (⟨#[]⟩ : ByteArray).size = 0 ∧ (∀ a : Array UInt8, (ByteArray.mk a).size = a.size) ∧ (∀ l : List UInt8, l.toArray.size = l.length) ∧ (∀ n, (dO n).size = 8) ∧ (∀ n, (cZ n).size = 4) ∧ (∀ s, (bg s).size = s.size + 4) ∧ (∀ s, (cE s).size = 37) ∧ (∀ h, (jN h).size = 38) ∧ (∀ {α : Type} (a : α) (l : List α), (a :: l).length = l.length + 1) ∧ (∀ {α : Type}, ([] : List α).length = 0) := ⟨fun _ _ => ByteArray.size_append, cW, kO, zK, fun _ => List.size_toArray, bX, jf, dG, kw, j4, fun _ _ => List.length_cons, rfl⟩
end Go.Dm
namespace Go.Dm
open Go
def aq : Vd := ⟨4, -1⟩
def aw (kind src : Int) (t : He) : Vd := bif t.pri || kind == 4 then aq else ⟨kind, src⟩
def dV (s t : He) : Int :=
  bif s.dis then 4 else bif decide (aQ s.v t.v.bit ≥ 0) then 2 else bif t.dis then 3 else
  bif decide (aQ s.v t.v.cur < 0) then 4 else bif decide (aQ s.v t.v.cur ≤ 1) then 2 else 3
def cb (p : Int) : Int := bif p == 0 then 4 else bif p == 1 then 2 else 3
def ap (x y : He) : Vd :=
  bif !(x.blocks == y.blocks) || x.pri && y.pri || x.inc && y.inc || x.dis && y.dis then aq else
  bif x.inc then aw (dV y x) 1 x else bif y.inc then aw (dV x y) 0 y else
  bif x.dis then aw 3 1 x else bif y.dis then aw 3 0 y else
  bif x.v.cur == y.v.cur then
    (bif mi x.mask == 0 && mi y.mask == 0 then ⟨1, -1⟩ else bif y.pri || !x.pri && y.was && !x.was then aw 2 1 x else aw 2 0 y) else
  bif decide (aQ x.v y.v.cur > 0) && decide (aQ y.v x.v.cur < 0) then aw (cb (aQ x.v y.v.cur)) 0 y else
  bif decide (aQ y.v x.v.cur > 0) && decide (aQ x.v y.v.cur < 0) then aw (cb (aQ y.v x.v.cur)) 1 x else aq
def tN (v : Vd) (x y : He) : BitVec 32 := bif v.kind == 2 then x.mask ||| y.mask else bif v.kind == 3 then CD x.blocks else 0#32
def bG (k : Int) : Bool := decide (k ≥ 2) && decide (k ≤ 7)
def eC (k : Int) : Bool := k == 2 || k == 6
def dp (h : He) : Bool := (h.blocks == 0 && ((h.v.cur == 0 && (h.v.bit == 0 && ((h.v.o0 == 0 && (h.v.o1 == 0 && true)) && true))) && (h.inc == false && (h.was == false && (h.dis == false && (h.pri == false && (mi h.mask == 0 && true)))))))
def bt (p : Pk) : Bool :=
  bif decide (p.kind < 1) || decide (p.kind > 13) then false else
  bif p.kind == 1 && !cQ p.hello || !(p.kind == 1) && !dp p.hello then false else
  bif decide (p.block < 0) || decide (p.block > 31) || !bG p.kind && !(p.block == 0) then false else
  bif eC p.kind then (p.data.size : Int) == 8 else p.data == ⟨#[]⟩
def jl (p : Pk) : ByteArray :=
  bif bG p.kind then
    (bif p.kind == 1 then (bH [IntKind.wrap .u8 p.kind] ++ dO p.ses) ++ (iZ p.hello).1 else bH [IntKind.wrap .u8 p.kind] ++ dO p.ses) ++ bH [IntKind.wrap .u8 p.block]
  else bif p.kind == 1 then (bH [IntKind.wrap .u8 p.kind] ++ dO p.ses) ++ (iZ p.hello).1 else bH [IntKind.wrap .u8 p.kind] ++ dO p.ses
theorem jR (h : He) : (iZ h).1.size ≤ 38 := by
  unfold iZ
  cases cQ h with
  | false => exact Nat.zero_le _
  | true => exact Nat.le_of_eq (j4 h)
def cw (p : Pk) : ByteArray := jl p ++ p.data
def jy (p : Pk) : ByteArray × Int := bif !bt p then (⟨#[]⟩, 1) else (bg (cw p), 0)
def pk0 : Pk := ⟨0, 0, he0, 0, ⟨#[]⟩⟩
abbrev mM (t : ByteArray) : Int := IntKind.wrap .i64 ((ac t 0).toNat : Int)
abbrev ly (t : ByteArray) : ByteArray := t.extract 9 t.size
def qz (t : ByteArray) : Bool := decide (((ly t).size : Int) > 0)
def qt (t : ByteArray) : Pk :=
  bif mM t == 1 then ⟨mM t, dY (t.extract 1 9).data.toList, (eQ (ly t)).1, 0, ⟨#[]⟩⟩ else
  bif bG (mM t) && qz t then ⟨mM t, dY (t.extract 1 9).data.toList, he0, IntKind.wrap .i64 ((ac (ly t) 0).toNat : Int), (ly t).extract 1 (ly t).size⟩
  else ⟨mM t, dY (t.extract 1 9).data.toList, he0, 0, ly t⟩
def eM (t : ByteArray) : Pk × Int :=
  bif decide ((t.size : Int) < 9) then (pk0, 2) else
  bif mM t == 1 && !((eQ (ly t)).2 == 0) then (pk0, 2) else
  bif !bt (qt t) || !(cw (qt t) == t) then (pk0, 2) else (qt t, 0)
def cx (b : ByteArray) : Pk × Int :=
  bif !((aa b).2 == 0) then (pk0, (aa b).2) else eM (aa b).1
def aE (b : ByteArray) (ses : Int) : Pk × Int :=
  bif !((cx b).2 == 0) then (pk0, (cx b).2) else bif !((cx b).1.ses == ses) then (pk0, 16) else ((cx b).1, 0)
def b6 (l : Lk) : Lk := ⟨true, IntKind.wrap .u64 (l.ses + 1), [], []⟩
def aU (l : Lk) : Lk := ⟨false, l.ses, [], []⟩
def dd (l : Lk) (to : Int) (ps : List ByteArray) : Lk × Int :=
  bif !(to == 0) && !(to == 1) then (l, 1) else bif !l.up then (l, 7) else
  bif to == 0 then ({ l with to0 := l.to0 ++ ps }, 0) else ({ l with to1 := l.to1 ++ ps }, 0)
def df (l : Lk) (to : Int) : ByteArray × Lk × Bool :=
  bif to == 0 then (match l.to0 with | [] => (⟨#[]⟩, l, false) | x :: r => (x, { l with to0 := r }, true)) else
  bif to == 1 then (match l.to1 with | [] => (⟨#[]⟩, l, false) | x :: r => (x, { l with to1 := r }, true)) else (⟨#[]⟩, l, false)
end Go.Dm
namespace Go.Dm
open Go
theorem fK (d : Dk) (i : Int) (x : ByteArray) : (bd d i x).1.sure = d.sure := by
  unfold bd
  cases d.dead <;> cases (decide (i < 0) || decide (i ≥ (d.sure.length : Int))) <;> cases decide ((x.size : Int) > 64) <;> cases h : (aV d).dead <;> simp [aV]
theorem dT (d : Dk) (i : Int) (x : ByteArray) : (bd d i x).1.cache.length ≤ d.cache.length + 1 := by
  unfold bd
  cases d.dead <;> cases (decide (i < 0) || decide (i ≥ (d.sure.length : Int))) <;> cases decide ((x.size : Int) > 64) <;> cases h : (aV d).dead <;> simp [aV]
theorem pj (d : Dk) (m : BitVec 32) : (dx d m).1.sure = d.sure := by
  unfold dx
  cases g9 m (IntKind.wrap .i64 ((d.sure.length : Int) - 2)) with
  | false => rfl
  | true => exact fK _ _ _
theorem ng (d : Dk) (m : BitVec 32) : (dx d m).1.cache.length ≤ d.cache.length + 1 := by
  unfold dx
  cases g9 m (IntKind.wrap .i64 ((d.sure.length : Int) - 2)) with
  | false => exact Nat.le_succ _
  | true => exact dT _ _ _
def EL (a b : Su) : Bool := (a.blocks == b.blocks && ((a.v.cur == b.v.cur && (a.v.bit == b.v.bit && ((a.v.o0 == b.v.o0 && (a.v.o1 == b.v.o1 && true)) && true))) && (a.inc == b.inc && (a.pri == b.pri && (a.dis == b.dis && true)))))
def so0 : So := ⟨⟨[], [], 0, false⟩, su0, 0#32⟩
def bh (d : Dk) : So × Int :=
  bif !((gQ d).2 == 0) then (so0, (gQ d).2) else bif !((eR d).2 == 0) then (so0, (eR d).2) else
  bif !((iD d).2 == 0) then (so0, (iD d).2) else (⟨d, (gQ d).1, (eR d).1⟩, 0)
def bS (s : So) (b : Su) : So × Int :=
  bif EL b s.super then (s, 0) else
  bif (bW s.disk b).2 == 0 then (⟨(bW s.disk b).1, b, s.mask⟩, (bW s.disk b).2) else (⟨(bW s.disk b).1, s.super, s.mask⟩, (bW s.disk b).2)
def jC (s : So) (m : BitVec 32) : So × Int :=
  bif mi m == mi s.mask then (s, 0) else
  bif (gd s.disk m).2 == 0 then (⟨(gd s.disk m).1, s.super, m⟩, (gd s.disk m).2) else (⟨(gd s.disk m).1, s.super, s.mask⟩, (gd s.disk m).2)
def xM (s : So) (i : Int) : Bool := decide (i < 0) || decide (i ≥ s.super.blocks)
def gR (s : So) (i : Int) : So × Int := bif xM s i then (s, 4) else jC s (yp s.mask [i])
def gD (s : So) (i : Int) : So × Int :=
  bif xM s i then (s, 4) else bif mi (qT s.mask [i]) == mi s.mask then (s, 0) else
  bif (dx s.disk (qT s.mask [i])).2 == 0 then (⟨(dx s.disk (qT s.mask [i])).1, s.super, qT s.mask [i]⟩, (dx s.disk (qT s.mask [i])).2)
  else (⟨(dx s.disk (qT s.mask [i])).1, s.super, s.mask⟩, (dx s.disk (qT s.mask [i])).2)
def qg (s : So) (m : BitVec 32) : So × Int := jC s (s.mask ||| m)
def ft (s : So) (i : Int) (data : ByteArray) : So × Int := (⟨(gS s.disk i data).1, s.super, s.mask⟩, (gS s.disk i data).2)
end Go.Dm
namespace Go.Dm
open Go
def rq0 : Rq := ⟨false, 0, 0, ⟨#[]⟩⟩
def fQ (n : Nd) : Nd := ⟨n.id, false, ⟨pU n.store.disk, su0, 0#32⟩, false, 0, 0, he0, false, rq0, false, 0, 0, false, n.draws, n.mints⟩
def ae (n : Nd) (id e : Int) (data : ByteArray) : Ou := ⟨2, n.id, id, e, data⟩
def az (n : Nd) (p : Pk) : Ou := ⟨1, n.id, 0, 0, (jy { p with ses := n.ses }).1⟩
def ab (n : Nd) (b : Su) : Nd × Bool :=
  bif !((bS n.store b).2 == 0) then (fQ { n with store := (bS n.store b).1 }, false) else ({ n with store := (bS n.store b).1 }, true)
def iB (n : Nd) : Bool := n.state == 2 || n.state == 3
def pkk (kind : Int) : Pk := ⟨kind, 0, he0, 0, ⟨#[]⟩⟩
def bz (n : Nd) (id : Int) : Nd × List Ou :=
  bif !n.up then (n, [ae n id 7 ⟨#[]⟩]) else bif n.primary then (n, [ae n id 8 ⟨#[]⟩]) else
  bif n.store.super.inc then (n, [ae n id 9 ⟨#[]⟩]) else bif n.store.super.dis then (n, [ae n id 10 ⟨#[]⟩]) else
  bif n.state == 1 || n.state == 4 || n.asking then (n, [ae n id 11 ⟨#[]⟩]) else bif n.peerPri then (n, [ae n id 12 ⟨#[]⟩]) else
  bif iB n then ({ n with asking := true, askId := id }, [az { n with asking := true, askId := id } (pkk 10)]) else
  bif !(ab n { n.store.super with pri := true }).2 then ((ab n { n.store.super with pri := true }).1, []) else
  ({ (ab n { n.store.super with pri := true }).1 with primary := true }, [ae { (ab n { n.store.super with pri := true }).1 with primary := true } id 0 ⟨#[]⟩])
def cD (n : Nd) (id : Int) : Nd × List Ou :=
  bif !n.up then (n, [ae n id 7 ⟨#[]⟩]) else bif !n.primary then (n, [ae n id 8 ⟨#[]⟩]) else
  bif n.req.on || n.state == 1 then (n, [ae n id 11 ⟨#[]⟩]) else
  bif !(ab n { n.store.super with pri := false }).2 then ((ab n { n.store.super with pri := false }).1, []) else
  bif iB { (ab n { n.store.super with pri := false }).1 with primary := false } then
    ({ (ab n { n.store.super with pri := false }).1 with primary := false }, [az { (ab n { n.store.super with pri := false }).1 with primary := false } (pkk 13), ae { (ab n { n.store.super with pri := false }).1 with primary := false } id 0 ⟨#[]⟩]) else
    ({ (ab n { n.store.super with pri := false }).1 with primary := false }, [ae { (ab n { n.store.super with pri := false }).1 with primary := false } id 0 ⟨#[]⟩])
def cf (n : Nd) (id : Int) : Nd × List Ou :=
  bif !n.up then (n, [ae n id 7 ⟨#[]⟩]) else bif n.primary then (n, [ae n id 8 ⟨#[]⟩]) else bif !(n.state == 0) then (n, [ae n id 11 ⟨#[]⟩]) else
  bif !(ab n { n.store.super with dis := true }).2 then ((ab n { n.store.super with dis := true }).1, []) else
  ((ab n { n.store.super with dis := true }).1, [ae (ab n { n.store.super with dis := true }).1 id 0 ⟨#[]⟩])
def eF (n : Nd) (id block : Int) : Nd × List Ou :=
  bif !n.up then (n, [ae n id 7 ⟨#[]⟩]) else bif !n.primary then (n, [ae n id 8 ⟨#[]⟩]) else
  (n, [ae n id (ak n.store.disk block).2 (ak n.store.disk block).1])
def dD (n : Nd) (s : So) (e : Int) : Nd × Bool := bif !(e == 0) then (fQ { n with store := s }, false) else ({ n with store := s }, true)
end Go.Dm
namespace Go.Dm
open Go
theorem ai {α : Type} {p : α → Prop} {b : Bool} {x y : α} (hx : p x) (hy : p y) : p (bif b then x else y) := by
  cases b
  · exact hy
  · exact hx
def Fit (d e : Dk) : Prop := e.sure.length = d.sure.length ∧ e.cache.length ≤ d.cache.length + 1
theorem Fit.refl (d : Dk) : Fit d d := ⟨rfl, Nat.le_succ _⟩
theorem gK (d : Dk) (i : Int) (x : ByteArray) : Fit d (bd d i x).1 := ⟨by rw [fK], dT d i x⟩
theorem lv (d e : Dk) (h : Fit d e) : Fit d (fd e).1 := by
  unfold fd
  refine ai (p := fun (x : Dk × Int) => Fit d x.1) h (ai (p := fun (x : Dk × Int) => Fit d x.1) h ?_)
  exact ⟨by simp [lX, aV, h.1], Nat.zero_le _⟩
theorem mb (d : Dk) (s : Su) : Fit d (bW d s).1 := by
  unfold bW
  exact ai (p := fun (x : Dk × Int) => Fit d x.1) (Fit.refl d) (ai (p := fun (x : Dk × Int) => Fit d x.1) (gK _ _ _) (lv _ _ (gK _ _ _)))
theorem kU (d : Dk) (m : BitVec 32) : Fit d (dx d m).1 := ⟨by rw [pj], ng d m⟩
theorem pH (d : Dk) (m : BitVec 32) : Fit d (gd d m).1 := by
  unfold gd
  exact ai (p := fun (x : Dk × Int) => Fit d x.1) (kU _ _) (lv _ _ (kU _ _))
theorem yc (d : Dk) (i : Int) (x : ByteArray) : Fit d (gS d i x).1 := by
  unfold gS
  exact ai (p := fun (x : Dk × Int) => Fit d x.1) (Fit.refl d) (ai (p := fun (x : Dk × Int) => Fit d x.1) (Fit.refl d) (ai (p := fun (x : Dk × Int) => Fit d x.1) (gK _ _ _) (lv _ _ (gK _ _ _))))
theorem lh (s : So) (b : Su) : Fit s.disk (bS s b).1.disk := by
  unfold bS
  exact ai (p := fun (x : So × Int) => Fit s.disk x.1.disk) (Fit.refl _) (ai (p := fun (x : So × Int) => Fit s.disk x.1.disk) (mb _ _) (mb _ _))
theorem qb (s : So) (m : BitVec 32) : Fit s.disk (jC s m).1.disk := by
  unfold jC
  exact ai (p := fun (x : So × Int) => Fit s.disk x.1.disk) (Fit.refl _) (ai (p := fun (x : So × Int) => Fit s.disk x.1.disk) (pH _ _) (pH _ _))
theorem vB (s : So) (i : Int) : Fit s.disk (gR s i).1.disk := by
  unfold gR
  exact ai (p := fun (x : So × Int) => Fit s.disk x.1.disk) (Fit.refl _) (qb _ _)
theorem v5 (s : So) (i : Int) : Fit s.disk (gD s i).1.disk := by
  unfold gD
  exact ai (p := fun (x : So × Int) => Fit s.disk x.1.disk) (Fit.refl _) (ai (p := fun (x : So × Int) => Fit s.disk x.1.disk) (Fit.refl _) (ai (p := fun (x : So × Int) => Fit s.disk x.1.disk) (kU _ _) (kU _ _)))
theorem wC (s : So) (m : BitVec 32) : Fit s.disk (qg s m).1.disk := qb _ _
theorem vV (s : So) (i : Int) (x : ByteArray) : Fit s.disk (ft s i x).1.disk := yc _ _ _
theorem t6 (n : Nd) (s : So) (e : Int) : (dD n s e).1.store.disk.sure = s.disk.sure := by
  unfold dD
  exact ai (p := fun (x : Nd × Bool) => x.1.store.disk.sure = s.disk.sure) rfl rfl
theorem rm (n : Nd) (s : So) (e : Int) : (dD n s e).1.store.disk.cache = s.disk.cache := by
  unfold dD
  exact ai (p := fun (x : Nd × Bool) => x.1.store.disk.cache = s.disk.cache) rfl rfl
def pkb (kind block : Int) : Pk := ⟨kind, 0, he0, block, ⟨#[]⟩⟩
def pkd (kind block : Int) (x : ByteArray) : Pk := ⟨kind, 0, he0, block, x⟩
def cX (n : Nd) (block : Int) : Nd × Bool := dD n (gR n.store block).1 (gR n.store block).2
def fj (n : Nd) (block : Int) (x : ByteArray) : Nd × Bool :=
  bif !(cX n block).2 then ((cX n block).1, false) else
  dD (cX n block).1 (ft (cX n block).1.store block x).1 (ft (cX n block).1.store block x).2
def au (n : Nd) (block : Int) : Nd × Bool := dD n (gD n.store block).1 (gD n.store block).2
def d5 (n : Nd) (block : Int) : Nd × List Ou :=
  bif !n.req.on || !(n.req.block == block) then (n, []) else
  bif !(au { n with req := rq0 } block).2 then ((au { n with req := rq0 } block).1, [ae n n.req.id 0 ⟨#[]⟩]) else
  ((au { n with req := rq0 } block).1, [ae n n.req.id 0 ⟨#[]⟩, az (au { n with req := rq0 } block).1 (pkb 4 block)])
def eX (n : Nd) (block : Int) (x : ByteArray) : Nd × List Ou :=
  bif !(fj n block x).2 then ((fj n block x).1, []) else ((fj n block x).1, [az (fj n block x).1 (pkb 3 block)])
def eJ (n : Nd) (block : Int) : Nd := bif n.req.on && n.req.block == block then n else (au n block).1
def xZ (n : Nd) (block : Int) : List Ou := [az n (pkd 6 block (ak n.store.disk block).1)]
def cU (n : Nd) : Su := { n.store.super with v := cF n.store.super.v, pri := n.primary }
def fa (n : Nd) : Nd × List Ou :=
  bif !(ab n (cU n)).2 then ((ab n (cU n)).1, []) else
  ({ (ab n (cU n)).1 with state := 2 }, [az { (ab n (cU n)).1 with state := 2 } (pkk 9)])
def mP (n : Nd) : He := EP n.store.super n.primary n.store.mask
def r2 (n : Nd) (ses : Int) : Nd := { n with state := 1, ses := ses, minted := false }
def cM (n : Nd) (ses : Int) : Nd × List Ou := (r2 n ses, [az (r2 n ses) ⟨1, 0, mP (r2 n ses), 0, ⟨#[]⟩⟩])
def ch (n : Nd) (h : He) : Vd × BitVec 32 :=
  bif n.id == 1 then (ap h (mP n), tN (ap h (mP n)) h (mP n)) else (ap (mP n) h, tN (ap (mP n) h) (mP n) h)
end Go.Dm
namespace Go.Dm
open Go
abbrev Nd.csd (n : Nd) (ds : List (List C)) : List C := [ii n.id, bo n.up, .slice 1 (n.store.disk.sure.map eS), .slice 2 (n.store.disk.cache.map Wr.cs), ii n.store.disk.fuse, bo n.store.disk.dead,
  ii n.store.super.blocks, u n.store.super.v.cur, u n.store.super.v.bit, u n.store.super.v.o0, u n.store.super.v.o1, bo n.store.super.inc, bo n.store.super.pri, bo n.store.super.dis, w4 (mi n.store.mask),
  bo n.primary, ii n.state, u n.ses, ii n.peer.blocks, u n.peer.v.cur, u n.peer.v.bit, u n.peer.v.o0, u n.peer.v.o1, bo n.peer.inc, bo n.peer.was, bo n.peer.dis, bo n.peer.pri, w4 (mi n.peer.mask), bo n.peerPri,
  bo n.req.on, ii n.req.id, ii n.req.block, st n.req.data, bo n.asking, ii n.askId, ii n.wanted, bo n.minted, .slice 1 ds, .slice 3 (n.mints.map Mi.cs)]
def zX (n : Nd) (r : List Int) : Nd := { n with draws := r }
def jr (n : Nd) (g : Int) (r : List Int) : Nd := { n with draws := r, mints := n.mints ++ [⟨g, n.store.super.v.cur, n.id⟩] }
def mv (n : Nd) (g : Int) : Su := { n.store.super with v := iF n.store.super.v g }
def fU (n : Nd) (g : Int) (r : List Int) : Nd × Int :=
  bif g == 0 then (zX n r, 14) else
  bif !(ab (jr n g r) (mv n g)).2 then ((ab (jr n g r) (mv n g)).1, 6) else ({ (ab (jr n g r) (mv n g)).1 with minted := true }, 0)
def av (n : Nd) : Nd × Int := match n.draws with
  | [] => (n, 14)
  | g :: r => fU n g r
def dy (n : Nd) : List Ou := bif n.asking then [ae n n.askId 13 ⟨#[]⟩] else []
def eP (n : Nd) : Nd := ⟨n.id, n.up, n.store, n.primary, 0, 0, he0, false, rq0, false, 0, 0, false, n.draws, n.mints⟩
def aj (n : Nd) : Nd × List Ou :=
  bif n.state == 0 then (n, []) else bif !n.req.on then (eP n, dy n) else
  bif (av (eP n)).2 == 6 then ((av (eP n)).1, dy n) else
  ((av (eP n)).1, dy n ++ [ae (av (eP n)).1 n.req.id (av (eP n)).2 ⟨#[]⟩])
def bu (n : Nd) (block : Int) (x : ByteArray) : Int :=
  bif !n.up then 7 else bif !n.primary then 8 else bif decide (block < 0) || decide (block ≥ n.store.super.blocks) then 4 else
  bif !((x.size : Int) == 8) then 5 else bif n.req.on || n.state == 1 then 11 else 0
def ca (n : Nd) (id block : Int) (x : ByteArray) : Nd × List Ou :=
  bif !(fj n block x).2 then ((fj n block x).1, []) else
  bif (fj n block x).1.state == 0 then ((fj n block x).1, [ae (fj n block x).1 id 0 ⟨#[]⟩]) else
  ({ (fj n block x).1 with req := ⟨true, id, block, x⟩ }, [az { (fj n block x).1 with req := ⟨true, id, block, x⟩ } (pkd 2 block x)])
def bJ (n : Nd) (id block : Int) (x : ByteArray) : Nd × List Ou :=
  bif !(bu n block x == 0) then (n, [ae n id (bu n block x) ⟨#[]⟩]) else
  bif n.state == 0 && !n.minted then
    (bif (av n).2 == 6 then ((av n).1, []) else bif !((av n).2 == 0) then ((av n).1, [ae (av n).1 id (av n).2 ⟨#[]⟩]) else ca (av n).1 id block x)
  else ca n id block x
def js (n : Nd) : Su := ⟨n.store.super.blocks, cF n.peer.v, false, false, false⟩
def dP (n : Nd) : Nd × List Ou :=
  bif !n.store.super.inc || !(n.wanted == 0) then (n, []) else
  bif (kG n.store.mask 0).isSome then
    ({ n with wanted := IntKind.wrap .i64 ((kG n.store.mask 0).getD 0 + 1) }, [az { n with wanted := IntKind.wrap .i64 ((kG n.store.mask 0).getD 0 + 1) } (pkb 5 ((kG n.store.mask 0).getD 0))]) else
  bif !(ab n (js n)).2 then ((ab n (js n)).1, []) else ((ab n (js n)).1, [az (ab n (js n)).1 (pkk 8)])
def a6 (n : Nd) (p : Pk) : Bool :=
  bif !n.up || decide (p.kind ≥ 2) && decide (p.kind ≤ 7) && decide (p.block ≥ n.store.super.blocks) then false else
  bif p.kind == 1 then n.state == 1 else
  bif p.kind == 2 then !n.primary && (n.state == 2 || n.state == 4) else
  bif p.kind == 3 then n.state == 2 || n.state == 3 else
  bif p.kind == 4 then n.state == 2 || n.state == 4 else
  bif p.kind == 5 || p.kind == 7 || p.kind == 8 then n.state == 3 else
  bif p.kind == 6 then n.state == 4 else
  bif p.kind == 9 then n.state == 4 && !n.store.super.inc else
  bif p.kind == 10 || p.kind == 13 then n.state == 2 || n.state == 3 || n.state == 4 else
  bif p.kind == 11 || p.kind == 12 then n.asking && (n.state == 2 || n.state == 3 || n.state == 4) else false
end Go.Dm
namespace Go.Dm
open Go
theorem kh (n : Nd) (b : Su) : Fit n.store.disk (ab n b).1.store.disk := by
  unfold ab
  exact ai (p := fun (x : Nd × Bool) => Fit n.store.disk x.1.store.disk) (lh _ _) (lh _ _)
theorem pC (n : Nd) : Fit n.store.disk (av n).1.store.disk := by
  unfold av
  cases n.draws with
  | nil => exact Fit.refl _
  | cons g r =>
    show Fit n.store.disk (fU n g r).1.store.disk
    unfold fU
    refine ai (p := fun (x : Nd × Int) => Fit n.store.disk x.1.store.disk) (Fit.refl _) ?_
    have := kh (jr n g r) (mv n g)
    exact ai (p := fun (x : Nd × Int) => Fit n.store.disk x.1.store.disk) this this
theorem jw (n : Nd) (s : So) (e : Int) (h : Fit n.store.disk s.disk) : Fit n.store.disk (dD n s e).1.store.disk := by
  unfold dD
  exact ai (p := fun (x : Nd × Bool) => Fit n.store.disk x.1.store.disk) h h
theorem t8 (n : Nd) (i : Int) : Fit n.store.disk (au n i).1.store.disk := jw _ _ _ (v5 _ _)
def di (n : Nd) (block : Int) (x : ByteArray) : Nd × Bool := dD n (ft n.store block x).1 (ft n.store block x).2
def lq (n : Nd) (block : Int) (x : ByteArray) : Nd := { (au (di n block x).1 block).1 with wanted := 0 }
def oV (n : Nd) (block : Int) (x : ByteArray) : Nd × List Ou :=
  bif !(n.wanted == IntKind.wrap .i64 (block + 1)) then (n, []) else
  bif !(di n block x).2 then ((di n block x).1, []) else
  bif !(au (di n block x).1 block).2 then ((au (di n block x).1 block).1, []) else
  ((dP (lq n block x)).1, [az (lq n block x) (pkb 7 block)] ++ (dP (lq n block x)).2)
theorem yA (n : Nd) (i : Int) (x : ByteArray) : Fit n.store.disk (di n i x).1.store.disk := jw _ _ _ (vV _ _ _)
theorem aH (n : Nd) : (dP n).2.length ≤ 10 := by
  unfold dP
  refine ai (p := fun (x : Nd × List Ou) => x.2.length ≤ 10) (by simp) (ai (p := fun (x : Nd × List Ou) => x.2.length ≤ 10) (by simp) (ai (p := fun (x : Nd × List Ou) => x.2.length ≤ 10) (by simp) (by simp)))
def fb (n : Nd) : Su := { n.store.super with pri := true }
def dm (n : Nd) (kind : Int) : Nd × List Ou :=
  bif kind == 10 then (bif n.primary || n.asking then (n, [az n (pkk 12)]) else ({ n with peerPri := true }, [az { n with peerPri := true } (pkk 11)])) else
  bif kind == 12 then ({ n with asking := false, askId := 0 }, [ae { n with asking := false, askId := 0 } n.askId 12 ⟨#[]⟩]) else
  bif kind == 13 then ({ n with peerPri := false }, []) else
  bif !(ab n (fb n)).2 then ((ab n (fb n)).1, []) else
  ({ (ab n (fb n)).1 with primary := true, asking := false, askId := 0 }, [ae { (ab n (fb n)).1 with primary := true, asking := false, askId := 0 } n.askId 0 ⟨#[]⟩])
def b9 (n : Nd) : Ou := ⟨3, n.id, 0, 0, ⟨#[]⟩⟩
def tQ (n : Nd) (h : He) (st : Int) : Nd := { n with state := st, peerPri := h.pri, peer := h }
def o5 (n : Nd) (h : He) : Su := { n.store.super with inc := true, pri := false, v := uF n.store.super.v h.v.cur }
def iJ (n : Nd) (m : BitVec 32) : Nd × Bool := dD n (qg n.store m).1 (qg n.store m).2
theorem xY (n : Nd) (m : BitVec 32) : Fit n.store.disk (iJ n m).1.store.disk := jw _ _ _ (wC _ _)
def tG (n : Nd) (h : He) (v : Vd) (m : BitVec 32) : Nd × List Ou :=
  bif v.kind == 4 then (n, [b9 n]) else
  bif v.kind == 1 then (bif (ab n (cU n)).2 then (tQ (ab n (cU n)).1 h 2, []) else ((ab n (cU n)).1, [])) else
  bif !(iJ n m).2 then ((iJ n m).1, []) else
  bif v.src == n.id then (tQ (iJ n m).1 h 3, []) else
  bif !(ab (iJ n m).1 (o5 n h)).2 then ((ab (iJ n m).1 (o5 n h)).1, []) else
  dP (tQ (ab (iJ n m).1 (o5 n h)).1 h 4)
def Af (n : Nd) (h : He) : Nd × List Ou := tG n h (ch n h).1 (ch n h).2
end Go.Dm
namespace Go.Dm
open Go
theorem nh (d : Dk) (i : Int) : (ak d i).1.size ≤ 8 := by
  unfold ak
  refine ai (p := fun (x : ByteArray × Int) => x.1.size ≤ 8) (Nat.zero_le _) (ai (p := fun (x : ByteArray × Int) => x.1.size ≤ 8) (Nat.zero_le _) ?_)
  cases h : (((aK d (IntKind.wrap .i64 (i + 2))).1.size : Int) == 8) with
  | false => exact Nat.zero_le _
  | true =>
    have := eq_of_beq h
    show (aK d (IntKind.wrap .i64 (i + 2))).1.size ≤ 8
    omega
def eO (n : Nd) (p : Pk) : Nd × List Ou :=
  bif p.kind == 1 then Af n p.hello else
  bif p.kind == 2 then eX n p.block p.data else
  bif p.kind == 3 then d5 n p.block else
  bif p.kind == 4 then ((au n p.block).1, []) else
  bif p.kind == 5 then (n, xZ n p.block) else
  bif p.kind == 6 then oV n p.block p.data else
  bif p.kind == 7 then (eJ n p.block, []) else
  bif p.kind == 8 then fa n else
  bif p.kind == 9 then ({ n with state := 2 }, []) else dm n p.kind
def bb (n : Nd) (b : ByteArray) : Nd × List Ou :=
  bif !n.up || n.state == 0 then (n, []) else
  bif (aE b n.ses).2 == 16 then (n, []) else
  bif !((aE b n.ses).2 == 0) || !a6 n (aE b n.ses).1 then (n, [b9 n]) else eO n (aE b n.ses).1
end Go.Dm
namespace Go.Dm
open Go
def mp (e : Evt) : Bool := decide ((e.data.size : Int) > 300) || decide ((e.keeps.length : Int) > 100)
def fF (l : List Evt) (sC : Int) : Bool := bif decide ((l.length : Int) > sC) then true else l.any mp
def aF (blocks g : Int) : Su := ⟨blocks, ⟨g, 0, 0, 0⟩, false, false, false⟩
def bR (n : Nat) (g : Int) : Dk := ⟨[(aY (aF n g)).1, bg (cZ (mi 0#32))] ++ List.replicate n ⟨#[0, 0, 0, 0, 0, 0, 0, 0]⟩, [], 0, false⟩
def bZ (c : Cl) (i : Int) : Nd := bif i == 0 then c.n0 else c.n1
def aW (c : Cl) (i : Int) (n : Nd) : Cl := bif i == 0 then { c with n0 := n } else { c with n1 := n }
def AD (c : Cl) (i : Int) : Bool := bif i == 0 then c.w0 else c.w1
def aB (c : Cl) (i : Int) (w : Bool) : Cl := bif i == 0 then { c with w0 := w } else { c with w1 := w }
def bF (n : Nd) (keeps : List Bool) : Nd × Int :=
  bif n.up then (n, 7) else
  bif !((bh (bV n.store.disk keeps)).2 == 0) then ({ n with store := { n.store with disk := bV n.store.disk keeps } }, (bh (bV n.store.disk keeps)).2) else
  (⟨n.id, true, (bh (bV n.store.disk keeps)).1, false, 0, 0, he0, false, rq0, false, 0, 0, false, n.draws, n.mints⟩, 0)
def ct (n : Nd) (w : Bool) : (Nd × Bool) × List Ou :=
  bif !n.up then ((n, w), []) else bif !(aj n).1.up then (((aj n).1, false), (aj n).2) else (((aj n).1, w), (aj n).2)
def ez (c : Cl) : Cl × List Ou :=
  (⟨(ct c.n0 c.w0).1.1, (ct c.n1 c.w1).1.1, aU c.link, (ct c.n0 c.w0).1.2, (ct c.n1 c.w1).1.2⟩, (ct c.n0 c.w0).2 ++ (ct c.n1 c.w1).2)
def cT (i : Int) (k : Lk) (l : List Ou) : Lk :=
  l.foldl (fun k o => bif o.kind == 1 && k.up then (dd k (IntKind.wrap .i64 (1 - i)) [o.data]).1 else k) k
def bi (l : List Ou) : List Ou := l.filter fun o => !(o.kind == 1)
def cP (l : List Ou) : Bool := l.any fun o => !(o.kind == 1) && o.kind == 3
def dn (c : Cl) (i : Int) (n : Nd) (l : List Ou) : Cl :=
  bif !n.up then aB { aW c i n with link := cT i c.link l } i false else { aW c i n with link := cT i c.link l }
def bB (c : Cl) (i : Int) (n : Nd) (l : List Ou) : Cl × List Ou :=
  bif !(dn c i n l).link.up || n.up && !cP l then (dn c i n l, bi l) else
  bif cP l then ((ez { dn c i n l with w0 := false, w1 := false }).1, bi l ++ (ez { dn c i n l with w0 := false, w1 := false }).2) else
  ((ez (dn c i n l)).1, bi l ++ (ez (dn c i n l)).2)
def dQ (c : Cl) : Cl × List Ou := bB c 0 (cM c.n0 c.link.ses).1 (cM c.n0 c.link.ses).2
def f9 (c : Cl) : Cl × List Ou := bB c 1 (cM c.n1 c.link.ses).1 (cM c.n1 c.link.ses).2
def dk (c : Cl) (i : Int) : Cl × List Ou :=
  bif !(bZ c i).up then (c, []) else
  bif !AD (aB c i true) (1 - i) || !(bZ c (1 - i)).up || c.link.up then (aB c i true, []) else
  ((f9 (dQ { aB c i true with link := b6 c.link }).1).1,
    (dQ { aB c i true with link := b6 c.link }).2 ++ (f9 (dQ { aB c i true with link := b6 c.link }).1).2)
def fg (n : Nd) (g : Int) : Nd := bif decide ((n.draws.length : Int) < 1000) then { n with draws := n.draws ++ [g] } else n
def sa (c : Cl) (i : Int) : Cl × List Ou :=
  bif !(df c.link i).2.2 then (c, []) else
  bB { c with link := (df c.link i).2.1 } i (bb (bZ c i) (df c.link i).1).1 (bb (bZ c i) (df c.link i).1).2
def yT (c : Cl) : Cl × List Ou := bif !c.link.up then (c, []) else ez c
def dq (n : Nd) (k : Int) : Nd := bif n.up then { n with store := { n.store with disk := Dh n.store.disk (IntKind.wrap .i64 (if 1000 < k then 1000 else k)) } } else n
def rV (c : Cl) (e : Evt) (i : Int) (n : Nd) : Cl × List Ou :=
  bif e.kind == 1 then bB c i (bz n e.id).1 (bz n e.id).2 else
  bif e.kind == 2 then bB c i (cD n e.id).1 (cD n e.id).2 else
  bif e.kind == 3 then bB c i (cf n e.id).1 (cf n e.id).2 else
  bif e.kind == 4 then bB c i (eF n e.id e.block).1 (eF n e.id e.block).2 else
  bif e.kind == 5 then bB c i (bJ n e.id e.block e.data).1 (bJ n e.id e.block e.data).2 else
  bif e.kind == 6 then dk c i else
  bif e.kind == 7 then yT (aB c i false) else
  bif e.kind == 8 then yT c else
  bif e.kind == 9 then sa c i else
  bif e.kind == 10 then (bif !n.up then (c, []) else bB c i (fQ n) []) else
  bif e.kind == 11 then (aW c i (bF n e.keeps).1, [ae (bF n e.keeps).1 e.id (bF n e.keeps).2 ⟨#[]⟩]) else
  bif e.kind == 12 then bB c i (dq n e.n) [] else
  bif e.kind == 13 then (aW c i (fg n e.n), []) else
  bif e.kind == 14 then (bif (aE e.data c.link.ses).2 == 0 then (c, []) else bB c i (bb n e.data).1 (bb n e.data).2) else (c, [])
def doM (c : Cl) (e : Evt) : Cl × List Ou := bif !(e.node == 0) && !(e.node == 1) then (c, []) else rV c e e.node (bZ c e.node)
def pS (c : Cl) (l : List Evt) : Cl × List Ou := l.foldl (fun x e => ((doM x.1 e).1, x.2 ++ (doM x.1 e).2)) (c, [])
end Go.Dm
namespace Go.Dm
open Go
def oe (j : Int) (s : Cl × List Ou × Bool) (x : Ou) : Cl × List Ou × Bool :=
  bif x.kind == 1 then (bif s.1.link.up then ({ s.1 with link := (dd s.1.link j [x.data]).1 }, s.2) else s) else (s.1, s.2.1 ++ [x], s.2.2 || x.kind == 3)
theorem jJ (j : Int) (c : Cl) (out : List Ou) (q : Bool) (x : Ou) (h1 : (x.kind == 1) = true) (h2 : c.link.up = true) : oe j (c, out, q) x = ({ c with link := (dd c.link j [x.data]).1 }, out, q) := by
  unfold oe; rw [h1, cond_true]; simp only [h2, cond_true]
theorem jD (j : Int) (c : Cl) (out : List Ou) (q : Bool) (x : Ou) (h1 : (x.kind == 1) = true) (h2 : c.link.up = false) : oe j (c, out, q) x = (c, out, q) := by
  unfold oe; rw [h1, cond_true]; simp only [h2, cond_false]
theorem jt (j : Int) (c : Cl) (out : List Ou) (q : Bool) (x : Ou) (h1 : (x.kind == 1) = false) : oe j (c, out, q) x = (c, out ++ [x], q || x.kind == 3) := by
  unfold oe; rw [h1, cond_false]
theorem vK (i j : Int) (hj : IntKind.wrap .i64 (1 - i) = j) : ∀ (l : List Ou) (c : Cl) (out : List Ou) (q : Bool), l.foldl (oe j) (c, out, q) = ({ c with link := cT i c.link l }, out ++ bi l, q || cP l)
  | [], c, out, q => by simp [cT, bi, cP]
  | x :: l, c, out, q => by
    rw [List.foldl_cons]
    cases h1 : x.kind == 1 with
    | true =>
      cases h2 : c.link.up with
      | true =>
        rw [jJ j c out q x h1 h2, vK i j hj l]
        simp [cT, bi, cP, h1, h2, hj]
      | false =>
        rw [jD j c out q x h1 h2, vK i j hj l]
        simp [cT, bi, cP, h1, h2]
    | false =>
      rw [jt j c out q x h1, vK i j hj l]
      simp [cT, bi, cP, h1, Bool.or_assoc]
def dB (i : Int) (c : Cl) (n : Nd) (out : List Ou) (q : Bool) : Cl × List Ou :=
  bif !c.link.up || n.up && !q then (bif !n.up then aB c i false else c, out) else
  bif q then ((ez { c with w0 := false, w1 := false }).1, out ++ (ez { c with w0 := false, w1 := false }).2) else
  ((ez (bif !n.up then aB c i false else c)).1, out ++ (ez (bif !n.up then aB c i false else c)).2)
theorem pI (c : Cl) (i : Int) (w : Bool) : (aB c i w).link = c.link := by unfold aB; cases i == 0 <;> rfl
theorem da (c : Cl) (i : Int) (w : Bool) : (aB c i w).n0 = c.n0 := by unfold aB; cases i == 0 <;> rfl
theorem dh (c : Cl) (i : Int) (w : Bool) : (aB c i w).n1 = c.n1 := by unfold aB; cases i == 0 <;> rfl
theorem pX (c : Cl) (i : Int) (w : Bool) : ({ aB c i w with w0 := false, w1 := false } : Cl) = { c with w0 := false, w1 := false } := by unfold aB; cases i == 0 <;> rfl
theorem qm (c : Cl) (i : Int) (n : Nd) (l : List Ou) : dB i { aW c i n with link := cT i c.link l } n (bi l) (cP l) = bB c i n l := by
  unfold dB bB dn
  cases n.up with
  | true =>
    cases cP l <;> cases h : (cT i c.link l).up <;> simp [h]
  | false =>
    cases cP l <;> cases h : (cT i c.link l).up <;> simp [h, pI, pX, da, dh]
theorem dc (c : Cl) (i : Int) (n : Nd) : (aW c i n).link = c.link := by unfold aW; cases i == 0 <;> rfl
theorem iU (l : Lk) (to : Int) (ps : List ByteArray) : (dd l to ps).1.to0.length ≤ l.to0.length + ps.length ∧ (dd l to ps).1.to1.length ≤ l.to1.length + ps.length := by
  unfold dd
  cases !(to == 0) && !(to == 1) with
  | true => exact ⟨Nat.le_add_right _ _, Nat.le_add_right _ _⟩
  | false =>
    cases l.up with
    | false => exact ⟨Nat.le_add_right _ _, Nat.le_add_right _ _⟩
    | true => cases to == 0 <;> simp
theorem nO (l : List Ou) : (bi l).length ≤ l.length := List.length_filter_le _ _
end Go.Dm
namespace Go.Dm
open Go
structure Vl where
  acked : List ByteArray
  begun : List (List ByteArray)
  last : List Int
  deriving Inhabited, DecidableEq
abbrev eL (l : List ByteArray) : List C := [.slice 1 (l.map eS)]
abbrev Vl.cs (v : Vl) : List C := [.slice 1 (v.acked.map eS), .slice 1 (v.begun.map eL), .slice 1 (v.last.map eI)]
structure Mm where
  n0 : Vl
  n1 : Vl
  s0 : Vl
  s1 : Vl
  h0 : Bool
  h1 : Bool
  d0 : Bool
  d1 : Bool
  w0 : Rq
  w1 : Rq
  count : Int
  lost : Int
  deriving Inhabited, DecidableEq
abbrev Mm.cs (m : Mm) : List C := m.n0.cs ++ (m.n1.cs ++ (m.s0.cs ++ (m.s1.cs ++ ([bo m.h0, bo m.h1, bo m.d0, bo m.d1] ++ (m.w0.cs ++ (m.w1.cs ++ [ii m.count, ii m.lost]))))))
def vl0 : Vl := ⟨[], [], []⟩
def Bh (l : List ByteArray) : Vl := ⟨l, List.replicate l.length [], List.replicate l.length 0⟩
def uz (c : Cl) : Mm := ⟨Bh (iD c.n0.store.disk).1, Bh (iD c.n1.store.disk).1, vl0, vl0, false, false, false, false, rq0, rq0, 0, 0⟩
def ge (v : Vl) (b : Int) : Bool := decide (b ≥ 0) && decide (b < (v.acked.length : Int))
def f7 (v : Vl) (b : Int) (x : ByteArray) : Vl := bif ge v b then { v with begun := v.begun.set b.toNat (v.begun.getD b.toNat [] ++ [x]) } else v
def uB (v : Vl) (r : Rq) (n : Int) : Vl := bif ge v r.block then ⟨v.acked.set r.block.toNat r.data, v.begun.set r.block.toNat [], v.last.set r.block.toNat n⟩ else v
def aN (m : Mm) (c : Cl) : Mm :=
  { m with s0 := bif c.n0.state == 1 || c.n0.state == 4 then m.n1 else m.s0, s1 := bif c.n1.state == 1 || c.n1.state == 4 then m.n0 else m.s1 }
def cm (l : List Ou) (p : Int) : Bool := l.any fun o => o.kind == 2 && o.node == p && !(o.err == 0)
def vof (m : Mm) (p : Int) : Vl := bif p == 0 then m.n0 else m.n1
def uq (m : Mm) (p : Int) (v : Vl) : Mm := bif p == 0 then { m with n0 := v } else { m with n1 := v }
def wof (m : Mm) (p : Int) : Rq := bif p == 0 then m.w0 else m.w1
def oU (m : Mm) (p : Int) (r : Rq) : Mm := bif p == 0 then { m with w0 := r } else { m with w1 := r }
def co (m : Mm) (p : Int) (e : Evt) : Mm := uq m p (f7 (vof m p) e.block e.data)
def eK (m : Mm) (c : Cl) (e : Evt) : Mm := bif c.link.up then co (co m e.node e) (1 - e.node) e else co m e.node e
def bk (m : Mm) (c : Cl) (e : Evt) (l : List Ou) : Mm :=
  bif !(e.kind == 5) || !(e.node == 0) && !(e.node == 1) || cm l e.node then m else oU (eK m c e) e.node ⟨true, e.id, e.block, e.data⟩
def iE (m : Mm) (p : Int) (r : Rq) : Mm := uq m p (uB (vof m p) r m.count)
def lB (m : Mm) (e : Evt) (o : Ou) : Bool := o.kind == 2 && o.err == 0 && !(e.kind == 4) && (wof m o.node).on && (wof m o.node).id == o.id
def cV (m : Mm) (p : Int) : Mm := { oU m p rq0 with count := IntKind.wrap .i64 (m.count + 1) }
def a5 (e : Evt) (m : Mm) (o : Ou) : Mm :=
  bif !lB m e o then m else
  bif e.kind == 9 && e.node == o.node then iE (iE (cV m o.node) o.node (wof m o.node)) (1 - o.node) (wof m o.node) else iE (cV m o.node) o.node (wof m o.node)
def gY (v s : Vl) : Bool := (v.last.zip s.last).any fun x => decide (x.1 > x.2)
def dg (m : Mm) (b : Su) : Mm :=
  bif b.inc then { m with h0 := true, d0 := b.dis } else bif m.h0 then
    { m with n0 := m.s0, h0 := false, d0 := b.dis, lost := bif !m.d0 && gY m.n0 m.s0 then IntKind.wrap .i64 (m.lost + 1) else m.lost } else { m with d0 := b.dis }
def dz (m : Mm) (b : Su) : Mm :=
  bif b.inc then { m with h1 := true, d1 := b.dis } else bif m.h1 then
    { m with n1 := m.s1, h1 := false, d1 := b.dis, lost := bif !m.d1 && gY m.n1 m.s1 then IntKind.wrap .i64 (m.lost + 1) else m.lost } else { m with d1 := b.dis }
def bE (m : Mm) (n : Nd) : Mm := bif n.req.on then m else { m with w0 := rq0 }
def bI (m : Mm) (n : Nd) : Mm := bif n.req.on then m else { m with w1 := rq0 }
def oG (m : Mm) (n : Nd) : Mm := bif n.up then dg (bE m n) n.store.super else bE m n
def qw (m : Mm) (n : Nd) : Mm := bif n.up then dz (bI m n) n.store.super else bI m n
def my (m : Mm) (c : Cl) (e : Evt) (d : Cl) (l : List Ou) : Mm :=
  qw (oG (l.foldl (a5 e) (bk (aN m c) c e l)) d.n0) d.n1
def Gc (v : Vl) (b : Nat) (x : ByteArray) : Bool := decide (b < v.acked.length) && (x == v.acked.getD b ⟨#[]⟩ || (v.begun.getD b []).contains x)
def xn (v : Vl) (n : Nd) : Bool := (List.range n.store.super.blocks.toNat).all fun b => (ak n.store.disk (b : Int)).2 == 0 && Gc v b (ak n.store.disk (b : Int)).1
def Ej (m : Mm) (c : Cl) : Bool := (!c.n0.up || c.n0.store.super.inc || xn m.n0 c.n0) && (!c.n1.up || c.n1.store.super.inc || xn m.n1 c.n1)
end Go.Dm
namespace Go.Dm
open Go
def Dy : List C → Option Wr
  | [.raw (.int .i64 s), .raw (.string d)] => some ⟨s, d⟩
  | _ => none
def DJ : List C → Option ByteArray
  | [.raw (.string d)] => some d
  | _ => none
def rl (xs : List A) (ims : List (List C)) : Option (List Res × List (List C)) :=
  match xs, ims with
  | [.agg [.slice 1 ss, .slice 2 ws, .raw (.int .i64 f), .raw (.bool d)], .c (.raw (.int .i64 i))], [] =>
    match ss.mapM DJ, ws.mapM Dy with
    | some sl, some wl => if wl.length ≤ 1000000 then some ([.c (st (aK ⟨sl, wl, f, d⟩ i).1), .c (ii (aK ⟨sl, wl, f, d⟩ i).2)], []) else none
    | _, _ => none
  | _, _ => none
def kT (sz : Nat) (xs : List A) (ims : List (List C)) : Option (List Res × List (List C)) :=
  match xs, ims with
  | [.c (.slice z es)], [] => if (z = sz ∨ es = []) ∧ es.length ≤ 1000000 then some ([.top sz es], []) else none
  | _, _ => none
theorem xu : ∀ l : List ByteArray, (l.map eS).mapM DJ = some l
  | [] => rfl
  | x :: l => by rw [List.map_cons, List.mapM_cons, xu l]; rfl
theorem vW : ∀ l : List Wr, (l.map Wr.cs).mapM Dy = some l
  | [] => rfl
  | x :: l => by rw [List.map_cons, List.mapM_cons, vW l]; rfl
theorem BC {e : List C} {m : ByteArray} (h : DJ e = some m) : e = eS m := by
  unfold DJ at h
  split at h
  · cases h; rfl
  · cases h
theorem Cq {e : List C} {m : Wr} (h : Dy e = some m) : e = m.cs := by
  unfold Dy at h
  split at h
  · cases h; rfl
  · cases h
theorem oN {α : Type} {f : List C → Option α} {g : α → List C} (hg : ∀ e m, f e = some m → e = g m) : ∀ {es : List (List C)} {l : List α}, es.mapM f = some l → es = l.map g
  | [], l, h => by simp at h; subst h; rfl
  | e :: es, l, h => by
    rw [List.mapM_cons] at h
    simp only [Option.pure_def, Option.bind_eq_bind, Option.bind_eq_some_iff, Option.some.injEq] at h
    obtain ⟨y, h1, r, h2, rfl⟩ := h
    rw [hg _ _ h1, oN hg h2, List.map_cons]
theorem qC (d : Dk) (i : Int) : dA d i = ((d.cache.reverse.find? fun w => w.sec == i).map (·.data)).getD (d.sure.getD i.toNat ⟨#[]⟩) := by
  unfold dA
  generalize d.sure.getD i.toNat ⟨#[]⟩ = s
  rw [← List.foldr_reverse]
  induction d.cache.reverse with
  | nil => rfl
  | cons w l ih =>
    rw [List.foldr_cons, List.find?_cons]
    cases h : w.sec == i with
    | true => simp [h]
    | false => simp only [h, cond_false]; exact ih
end Go.Dm
namespace Go.Dm
open Go
def yK (N : Nat) (d : Dk) : Prop := d.sure.length = N ∧ (∀ s ∈ d.sure, s.size ≤ 64) ∧ ∀ w ∈ d.cache, 0 ≤ w.sec ∧ w.sec.toNat < N ∧ w.data.size ≤ 64
def Fw (a : Nat) (d e : Dk) : Prop := (∀ N, yK N d → yK N e) ∧ e.cache.length ≤ d.cache.length + a
theorem Fw.refl (a : Nat) (d : Dk) : Fw a d d := ⟨fun _ h => h, Nat.le_add_right _ _⟩
theorem Fw.trans {a b : Nat} {d e f : Dk} (h : Fw a d e) (k : Fw b e f) : Fw (a + b) d f := ⟨fun N x => k.1 N (h.1 N x), by have := h.2; have := k.2; omega⟩
theorem Fw.le {a b : Nat} {d e : Dk} (h : Fw a d e) (hab : a ≤ b) : Fw b d e := ⟨h.1, by have := h.2; omega⟩
theorem Fw.of_eq {a : Nat} {d e : Dk} (h1 : e.sure = d.sure) (h2 : e.cache = d.cache) : Fw a d e := ⟨fun N h => by unfold yK at h ⊢; rw [h1, h2]; exact h, by rw [h2]; omega⟩
theorem rd (d : Dk) : Fw 0 d (aV d) := Fw.of_eq rfl rfl
theorem yR (d : Dk) : Fw 0 d (pU d) := Fw.of_eq rfl rfl
theorem wq (d : Dk) (n : Int) : Fw 0 d (Dh d n) := Fw.of_eq rfl rfl
theorem gE (d : Dk) (i : Int) (x : ByteArray) : Fw 1 d (bd d i x).1 := by
  refine ⟨fun N h => ?_, dT d i x⟩
  unfold bd
  cases d.dead with
  | true => exact h
  | false =>
    cases hr : (decide (i < 0) || decide (i ≥ (d.sure.length : Int))) with
    | true => exact h
    | false =>
      cases hl : decide ((x.size : Int) > 64) with
      | true => exact h
      | false =>
        cases (aV d).dead with
        | true => exact (rd d).1 N h
        | false =>
          simp only [Bool.or_eq_false_iff, decide_eq_false_iff_not] at hr hl
          refine ⟨h.1, h.2.1, fun w hw => ?_⟩
          have hw' : w ∈ d.cache ++ [⟨i, x⟩] := hw
          rcases List.mem_append.1 hw' with hw | hw
          · exact h.2.2 w hw
          · simp only [List.mem_singleton] at hw
            subst hw
            have := h.1
            exact ⟨by show 0 ≤ i; omega, by show i.toNat < N; omega, by show x.size ≤ 64; omega⟩
theorem pW {N : Nat} {d : Dk} (h : yK N d) (i : Int) : (dA d i).size ≤ 64 := by
  unfold dA
  have key : ∀ (l : List Wr) (s : ByteArray), (∀ w ∈ l, w.data.size ≤ 64) → s.size ≤ 64 → (l.foldl (fun s w => bif w.sec == i then w.data else s) s).size ≤ 64 := by
    intro l
    induction l with
    | nil => intro s _ hs; exact hs
    | cons w l ih =>
      intro s hl hs
      rw [List.foldl_cons]
      refine ih _ (fun w hw => hl w (List.mem_cons_of_mem _ hw)) ?_
      cases w.sec == i with
      | true => exact hl w (List.mem_cons_self ..)
      | false => exact hs
  refine key _ _ (fun w hw => (h.2.2 w hw).2.2) ?_
  rw [List.getD_eq_getElem?_getD]
  cases hg : d.sure[i.toNat]? with
  | none => exact Nat.zero_le _
  | some s => exact h.2.1 s (List.mem_of_getElem? hg)
theorem fT {N : Nat} {d : Dk} (h : yK N d) (i : Int) : (aK d i).1.size ≤ 64 := by
  unfold aK
  exact ai (p := fun (x : ByteArray × Int) => x.1.size ≤ 64) (Nat.zero_le _) (ai (p := fun (x : ByteArray × Int) => x.1.size ≤ 64) (Nat.zero_le _) (pW h i))
theorem oP (d : Dk) : Fw 0 d (fd d).1 := by
  unfold fd
  refine ai (p := fun (x : Dk × Int) => Fw 0 d x.1) (Fw.refl _ _) (ai (p := fun (x : Dk × Int) => Fw 0 d x.1) (rd d) ?_)
  refine ⟨fun N h => ⟨?_, fun s hs => ?_, fun w hw => by cases hw⟩, Nat.zero_le _⟩
  · show (lX (aV d)).length = N
    rw [← h.1]
    simp [lX, aV]
  · have hs' : s ∈ lX (aV d) := hs
    simp only [lX, List.mem_map] at hs'
    obtain ⟨i, _, rfl⟩ := hs'
    exact pW ((rd d).1 N h) _
theorem jk (d : Dk) (keeps : List Bool) : Fw 0 d (bV d keeps) := by
  refine ⟨fun N h => ?_, Nat.zero_le _⟩
  have key : ∀ (l : List (Wr × Bool)) (s : List ByteArray), (∀ x ∈ l, x.1.data.size ≤ 64) → (s.length = N ∧ ∀ y ∈ s, y.size ≤ 64) → (l.foldl (fun s x => bif x.2 then s.set x.1.sec.toNat x.1.data else s) s).length = N ∧ ∀ y ∈ l.foldl (fun s x => bif x.2 then s.set x.1.sec.toNat x.1.data else s) s, y.size ≤ 64 := by
    intro l
    induction l with
    | nil => intro s _ hs; exact hs
    | cons x l ih =>
      intro s hl hs
      rw [List.foldl_cons]
      refine ih _ (fun w hw => hl w (List.mem_cons_of_mem _ hw)) ?_
      cases x.2 with
      | false => exact hs
      | true =>
        refine ⟨by rw [cond_true, List.length_set]; exact hs.1, fun y hy => ?_⟩
        rw [cond_true] at hy
        rcases List.mem_or_eq_of_mem_set hy with hy | rfl
        · exact hs.2 y hy
        · exact hl x (List.mem_cons_self ..)
  obtain ⟨k1, k2⟩ := key (d.cache.zip keeps) d.sure (fun x hx => (h.2.2 x.1 (List.of_mem_zip hx).1).2.2) ⟨h.1, h.2.1⟩
  exact ⟨k1, k2, fun w hw => by cases hw⟩
theorem mO (d : Dk) (s : Su) : Fw 1 d (bW d s).1 := by
  unfold bW
  exact ai (p := fun (x : Dk × Int) => Fw 1 d x.1) (Fw.refl _ d) (ai (p := fun (x : Dk × Int) => Fw 1 d x.1) (gE _ _ _) ((gE _ _ _).trans (oP _)))
theorem oH (d : Dk) (m : BitVec 32) : Fw 1 d (dx d m).1 := by
  unfold dx
  exact ai (p := fun (x : Dk × Int) => Fw 1 d x.1) (Fw.refl _ d) (gE _ _ _)
theorem sE (d : Dk) (m : BitVec 32) : Fw 1 d (gd d m).1 := by
  unfold gd
  exact ai (p := fun (x : Dk × Int) => Fw 1 d x.1) (oH _ _) ((oH _ _).trans (oP _))
theorem Bc (d : Dk) (i : Int) (x : ByteArray) : Fw 1 d (gS d i x).1 := by
  unfold gS
  exact ai (p := fun (x : Dk × Int) => Fw 1 d x.1) (Fw.refl _ d) (ai (p := fun (x : Dk × Int) => Fw 1 d x.1) (Fw.refl _ d) (ai (p := fun (x : Dk × Int) => Fw 1 d x.1) (gE _ _ _) ((gE _ _ _).trans (oP _))))
theorem t7 (s : So) (b : Su) : Fw 1 s.disk (bS s b).1.disk := by
  unfold bS
  exact ai (p := fun (x : So × Int) => Fw 1 s.disk x.1.disk) (Fw.refl _ _) (ai (p := fun (x : So × Int) => Fw 1 s.disk x.1.disk) (mO _ _) (mO _ _))
theorem rQ (s : So) (m : BitVec 32) : Fw 1 s.disk (jC s m).1.disk := by
  unfold jC
  exact ai (p := fun (x : So × Int) => Fw 1 s.disk x.1.disk) (Fw.refl _ _) (ai (p := fun (x : So × Int) => Fw 1 s.disk x.1.disk) (sE _ _) (sE _ _))
theorem zg (s : So) (i : Int) : Fw 1 s.disk (gR s i).1.disk := by
  unfold gR
  exact ai (p := fun (x : So × Int) => Fw 1 s.disk x.1.disk) (Fw.refl _ _) (rQ _ _)
theorem zj (s : So) (i : Int) : Fw 1 s.disk (gD s i).1.disk := by
  unfold gD
  exact ai (p := fun (x : So × Int) => Fw 1 s.disk x.1.disk) (Fw.refl _ _) (ai (p := fun (x : So × Int) => Fw 1 s.disk x.1.disk) (Fw.refl _ _) (ai (p := fun (x : So × Int) => Fw 1 s.disk x.1.disk) (oH _ _) (oH _ _)))
def Nw (a : Nat) (n m : Nd) : Prop := Fw a n.store.disk m.store.disk ∧ m.draws.length + m.mints.length ≤ n.draws.length + n.mints.length ∧ m.id = n.id
theorem Nw.refl (a : Nat) (n : Nd) : Nw a n n := ⟨Fw.refl _ _, Nat.le_refl _, rfl⟩
theorem Nw.trans {a b : Nat} {n m o : Nd} (h : Nw a n m) (k : Nw b m o) : Nw (a + b) n o := ⟨h.1.trans k.1, Nat.le_trans k.2.1 h.2.1, k.2.2.trans h.2.2⟩
theorem Nw.le {a b : Nat} {n m : Nd} (h : Nw a n m) (hab : a ≤ b) : Nw b n m := ⟨h.1.le hab, h.2⟩
theorem Nw.same {a : Nat} {n m : Nd} (h1 : m.store.disk = n.store.disk) (h2 : m.draws = n.draws) (h3 : m.mints = n.mints) (h4 : m.id = n.id) : Nw a n m := ⟨by rw [h1]; exact Fw.refl _ _, by rw [h2, h3]; exact Nat.le_refl _, h4⟩
theorem Nw.down {a : Nat} {n m : Nd} (h : Nw a n m) : Nw a n (fQ m) := ⟨h.1.trans (yR _), h.2⟩
theorem iY {a : Nat} (n : Nd) (s : So) (e : Int) (h : Fw a n.store.disk s.disk) : Nw a n (dD n s e).1 := by
  unfold dD
  have h1 : Nw a n { n with store := s } := ⟨h, Nat.le_refl _, rfl⟩
  exact ai (p := fun (x : Nd × Bool) => Nw a n x.1) h1.down h1
theorem cd (n : Nd) (b : Su) : Nw 1 n (ab n b).1 := by
  unfold ab
  have h1 : Nw 1 n { n with store := (bS n.store b).1 } := ⟨t7 _ _, Nat.le_refl _, rfl⟩
  exact ai (p := fun (x : Nd × Bool) => Nw 1 n x.1) h1.down h1
theorem sQ (n : Nd) : Nw 1 n (av n).1 := by
  unfold av
  cases hd : n.draws with
  | nil => exact Nw.refl _ _
  | cons g r =>
    show Nw 1 n (fU n g r).1
    unfold fU
    refine ai (p := fun (x : Nd × Int) => Nw 1 n x.1) ⟨Fw.refl _ _, ?_, rfl⟩ ?_
    · show r.length + n.mints.length ≤ _
      rw [hd, List.length_cons]; omega
    · have h1 : Nw 0 n (jr n g r) := ⟨Fw.refl _ _, by show r.length + (n.mints ++ [_]).length ≤ _; rw [hd, List.length_append, List.length_cons, List.length_cons, List.length_nil]; omega, rfl⟩
      have h2 : Nw 1 n (ab (jr n g r) (mv n g)).1 := (h1.trans (cd _ _)).le (by omega)
      exact ai (p := fun (x : Nd × Int) => Nw 1 n x.1) h2 h2
theorem sP (n : Nd) (i : Int) : Nw 1 n (cX n i).1 := iY _ _ _ (zg _ _)
theorem sj (s : So) (i : Int) (x : ByteArray) : Fw 1 s.disk (ft s i x).1.disk := Bc _ _ _
theorem uV (n : Nd) (i : Int) (x : ByteArray) : Nw 2 n (fj n i x).1 := by
  unfold fj
  exact ai (p := fun (x : Nd × Bool) => Nw 2 n x.1) ((sP n i).le (by omega)) ((sP n i).trans (iY _ _ _ (sj _ _ _)))
theorem i6 (n : Nd) (i : Int) : Nw 1 n (au n i).1 := iY _ _ _ (zj _ _)
def ay (k : Nat) (l : List Ou) : Prop := l.length ≤ k ∧ ∀ o ∈ l, o.data.size ≤ 64
theorem ay.nil (k : Nat) : ay k [] := ⟨Nat.zero_le _, by simp⟩
theorem ay.one {k : Nat} {o : Ou} (h : o.data.size ≤ 64) : ay (k + 1) [o] := ⟨by simp, by simpa using h⟩
theorem ay.two {k : Nat} {o p : Ou} (h : o.data.size ≤ 64) (h2 : p.data.size ≤ 64) : ay (k + 2) [o, p] := ⟨by simp, by simpa using ⟨h, h2⟩⟩
theorem ay.append {j k : Nat} {l m : List Ou} (h : ay j l) (h2 : ay k m) : ay (j + k) (l ++ m) := ⟨by rw [List.length_append]; have := h.1; have := h2.1; omega, fun o ho => (List.mem_append.1 ho).elim (h.2 o) (h2.2 o)⟩
theorem ay.le {j k : Nat} {l : List Ou} (h : ay j l) (hjk : j ≤ k) : ay k l := ⟨Nat.le_trans h.1 hjk, h.2⟩
theorem te (p : Pk) : (jy p).1.size ≤ 64 := by
  unfold jy
  cases hr : bt p with
  | false => exact Nat.zero_le _
  | true =>
    show (bg (cw p)).size ≤ 64
    rw [dG]
    unfold cw
    rw [ByteArray.size_append]
    have hd : p.data.size ≤ 8 := by
      unfold bt at hr
      cases hh : eC p.kind with
      | true => simp [hh] at hr; omega
      | false => simp [hh] at hr; rw [hr.2.2.2]; decide
    have hh : (jl p).size ≤ 48 := by
      unfold jl
      have := jR p.hello
      cases bG p.kind <;> cases p.kind == 1 <;> simp only [cond_true, cond_false, ByteArray.size_append, cW, bX, List.length_cons, List.length_nil] <;> omega
    omega
theorem cH (n : Nd) (p : Pk) : (az n p).data.size ≤ 64 := te _
theorem bv (n : Nd) (id e : Int) : (ae n id e ⟨#[]⟩).data.size ≤ 64 := Nat.zero_le _
def Ro (a : Nat) (n : Nd) (x : Nd × List Ou) : Prop := Nw a n x.1 ∧ ay 3 x.2
end Go.Dm
namespace Go.Dm
open Go
theorem iu (n : Nd) (id : Int) : Ro 3 n (bz n id) := by
  have hc := (cd n { n.store.super with pri := true }).le (show 1 ≤ 3 by omega)
  unfold bz
  repeat' (first | exact ⟨Nw.refl _ _, ay.one (bv _ _ _)⟩ | with_reducible apply ai (p := Ro 3 n))
  · exact ⟨Nw.same rfl rfl rfl rfl, ay.one (cH _ _)⟩
  · exact ⟨hc, ay.nil _⟩
  · exact ⟨hc, ay.one (bv _ _ _)⟩
theorem jB (n : Nd) (id : Int) : Ro 3 n (cD n id) := by
  have hc := (cd n { n.store.super with pri := false }).le (show 1 ≤ 3 by omega)
  unfold cD
  repeat' (first | exact ⟨Nw.refl _ _, ay.one (bv _ _ _)⟩ | with_reducible apply ai (p := Ro 3 n))
  · exact ⟨hc, ay.nil _⟩
  · exact ⟨hc, ay.two (cH _ _) (bv _ _ _)⟩
  · exact ⟨hc, ay.one (bv _ _ _)⟩
theorem iC (n : Nd) (id : Int) : Ro 3 n (cf n id) := by
  have hc := (cd n { n.store.super with dis := true }).le (show 1 ≤ 3 by omega)
  unfold cf
  repeat' (first | exact ⟨Nw.refl _ _, ay.one (bv _ _ _)⟩ | with_reducible apply ai (p := Ro 3 n))
  · exact ⟨hc, ay.nil _⟩
  · exact ⟨hc, ay.one (bv _ _ _)⟩
theorem l8 (n : Nd) (id block : Int) : Ro 3 n (eF n id block) := by
  unfold eF
  repeat' (first | exact ⟨Nw.refl _ _, ay.one (bv _ _ _)⟩ | with_reducible apply ai (p := Ro 3 n))
  exact ⟨Nw.refl _ _, ay.one (Nat.le_trans (nh _ _) (by decide))⟩
theorem qk (n : Nd) (id block : Int) (x : ByteArray) : Ro 2 n (ca n id block x) := by
  have hl := uV n block x
  unfold ca
  repeat' (with_reducible apply ai (p := Ro 2 n))
  · exact ⟨hl, ay.nil _⟩
  · exact ⟨hl, ay.one (bv _ _ _)⟩
  · exact ⟨hl, ay.one (cH _ _)⟩
theorem lU (n : Nd) (id block : Int) (x : ByteArray) : Ro 3 n (bJ n id block x) := by
  have hm := sQ n
  have h2 := qk (av n).1 id block x
  have h3 := qk n id block x
  unfold bJ
  repeat' (first | exact ⟨Nw.refl _ _, ay.one (bv _ _ _)⟩ | with_reducible apply ai (p := Ro 3 n))
  · exact ⟨hm.le (by omega), ay.nil _⟩
  · exact ⟨hm.le (by omega), ay.one (bv _ _ _)⟩
  · exact ⟨(hm.trans h2.1).le (by omega), h2.2⟩
  · exact ⟨h3.1.le (by omega), h3.2⟩
theorem jA (n : Nd) : ay 1 (dy n) := by
  unfold dy
  exact ai (p := ay 1) (ay.one (bv _ _ _)) (ay.nil _)
theorem rC (a : Nat) (n : Nd) : Nw a n (eP n) := Nw.same rfl rfl rfl rfl
theorem yU (n : Nd) : Ro 1 n (aj n) := by
  have hm := ((rC 0 n).trans (sQ (eP n))).le (show 0 + 1 ≤ 1 by omega)
  unfold aj
  repeat' (with_reducible apply ai (p := Ro 1 n))
  · exact ⟨Nw.refl _ _, ay.nil _⟩
  · exact ⟨rC _ _, (jA n).le (by omega)⟩
  · exact ⟨hm, (jA n).le (by omega)⟩
  · exact ⟨hm, ((jA n).append (ay.one (k := 0) (bv _ _ _))).le (by omega)⟩
theorem rH (n : Nd) : Nw 1 n (dP n).1 ∧ ay 1 (dP n).2 := by
  have hc := cd n (js n)
  unfold dP
  repeat' (with_reducible apply ai (p := fun (x : Nd × List Ou) => Nw 1 n x.1 ∧ ay 1 x.2))
  · exact ⟨Nw.refl _ _, ay.nil _⟩
  · exact ⟨Nw.same rfl rfl rfl rfl, ay.one (cH _ _)⟩
  · exact ⟨hc, ay.nil _⟩
  · exact ⟨hc, ay.one (cH _ _)⟩
theorem vJ (n : Nd) (b : Int) : Ro 3 n (d5 n b) := by
  have h0 : Nw 0 n { n with req := rq0 } := Nw.same rfl rfl rfl rfl
  have hc := (h0.trans (i6 { n with req := rq0 } b)).le (show 0 + 1 ≤ 3 by omega)
  unfold d5
  repeat' (with_reducible apply ai (p := Ro 3 n))
  · exact ⟨Nw.refl _ _, ay.nil _⟩
  · exact ⟨hc, ay.one (bv _ _ _)⟩
  · exact ⟨hc, ay.two (bv _ _ _) (cH _ _)⟩
theorem u6 (n : Nd) (b : Int) (x : ByteArray) : Ro 3 n (eX n b x) := by
  have hl := (uV n b x).le (show 2 ≤ 3 by omega)
  unfold eX
  exact ai (p := Ro 3 n) ⟨hl, ay.nil _⟩ ⟨hl, ay.one (cH _ _)⟩
theorem tY (n : Nd) (b : Int) : Nw 3 n (eJ n b) := by
  unfold eJ
  exact ai (p := Nw 3 n) (Nw.refl _ _) ((i6 n b).le (by omega))
theorem BL (n : Nd) (b : Int) (x : ByteArray) : Ro 3 n (oV n b x) := by
  have h1 : Nw 1 n (di n b x).1 := iY _ _ _ (sj _ _ _)
  have h2 := h1.trans (i6 (di n b x).1 b)
  have h3 : Nw 2 n (lq n b x) := h2.trans (b := 0) (Nw.same rfl rfl rfl rfl)
  have h4 := rH (lq n b x)
  unfold oV
  repeat' (with_reducible apply ai (p := Ro 3 n))
  · exact ⟨Nw.refl _ _, ay.nil _⟩
  · exact ⟨h1.le (by omega), ay.nil _⟩
  · exact ⟨h2.le (by omega), ay.nil _⟩
  · exact ⟨(h3.trans h4.1).le (by omega), ((ay.one (k := 0) (cH _ _)).append h4.2).le (by omega)⟩
theorem uU (n : Nd) : Ro 3 n (fa n) := by
  have hc := (cd n (cU n)).le (show 1 ≤ 3 by omega)
  unfold fa
  exact ai (p := Ro 3 n) ⟨hc, ay.nil _⟩ ⟨hc, ay.one (cH _ _)⟩
theorem vf (n : Nd) (kind : Int) : Ro 3 n (dm n kind) := by
  have hc := (cd n (fb n)).le (show 1 ≤ 3 by omega)
  unfold dm
  repeat' (with_reducible apply ai (p := Ro 3 n))
  · exact ⟨Nw.refl _ _, ay.one (cH _ _)⟩
  · exact ⟨Nw.same rfl rfl rfl rfl, ay.one (cH _ _)⟩
  · exact ⟨Nw.same rfl rfl rfl rfl, ay.one (bv _ _ _)⟩
  · exact ⟨Nw.same rfl rfl rfl rfl, ay.nil _⟩
  · exact ⟨hc, ay.nil _⟩
  · exact ⟨hc, ay.one (bv _ _ _)⟩
theorem BT (n : Nd) (h : He) : Ro 3 n (Af n h) := by
  have hj : Nw 1 n (iJ n (ch n h).2).1 := iY _ _ _ (rQ _ _)
  have hc := (cd n (cU n)).le (show 1 ≤ 3 by omega)
  have hc2 := hj.trans (cd (iJ n (ch n h).2).1 (o5 n h))
  have hs : Nw 2 n (tQ (ab (iJ n (ch n h).2).1 (o5 n h)).1 h 4) := hc2.trans (b := 0) (Nw.same rfl rfl rfl rfl)
  have h4 := rH (tQ (ab (iJ n (ch n h).2).1 (o5 n h)).1 h 4)
  unfold Af tG
  repeat' (with_reducible apply ai (p := Ro 3 n))
  · exact ⟨Nw.refl _ _, ay.one (Nat.zero_le _)⟩
  · exact ⟨hc, ay.nil _⟩
  · exact ⟨hc, ay.nil _⟩
  · exact ⟨hj.le (by omega), ay.nil _⟩
  · exact ⟨hj.le (by omega), ay.nil _⟩
  · exact ⟨hc2.le (by omega), ay.nil _⟩
  · exact ⟨(hs.trans h4.1).le (by omega), h4.2.le (by omega)⟩
theorem yu (n : Nd) (p : Pk) : Ro 3 n (eO n p) := by
  unfold eO
  repeat' (with_reducible apply ai (p := Ro 3 n))
  · exact BT _ _
  · exact u6 _ _ _
  · exact vJ _ _
  · exact ⟨(i6 _ _).le (by omega), ay.nil _⟩
  · exact ⟨Nw.refl _ _, ay.one (cH _ _)⟩
  · exact BL _ _ _
  · exact ⟨tY _ _, ay.nil _⟩
  · exact uU _
  · exact ⟨Nw.same rfl rfl rfl rfl, ay.nil _⟩
  · exact vf _ _
theorem dH (n : Nd) (b : ByteArray) : Ro 3 n (bb n b) := by
  unfold bb
  repeat' (with_reducible apply ai (p := Ro 3 n))
  · exact ⟨Nw.refl _ _, ay.nil _⟩
  · exact ⟨Nw.refl _ _, ay.nil _⟩
  · exact ⟨Nw.refl _ _, ay.one (Nat.zero_le _)⟩
  · exact yu _ _
theorem eG (n : Nd) (s : Int) : Ro 0 n (cM n s) := ⟨Nw.same rfl rfl rfl rfl, ay.one (cH _ _)⟩
theorem ua (d : Dk) (h : (bh d).2 = 0) : (bh d).1.disk = d := by
  unfold bh at h ⊢
  cases h1 : (gQ d).2 == 0 with
  | false => rw [h1] at h; simp only [Bool.not_false, cond_true] at h; simp [h] at h1
  | true =>
    cases h2 : (eR d).2 == 0 with
    | false => rw [h1, h2] at h; simp only [Bool.not_false, Bool.not_true, cond_true, cond_false] at h; simp [h] at h2
    | true =>
      cases h3 : (iD d).2 == 0 with
      | false => rw [h1, h2, h3] at h; simp only [Bool.not_false, Bool.not_true, cond_true, cond_false] at h; simp [h] at h3
      | true => rfl
theorem ip (n : Nd) (ks : List Bool) : Nw 0 n (bF n ks).1 := by
  unfold bF
  have hr : Nw 0 n { n with store := { n.store with disk := bV n.store.disk ks } } := ⟨jk _ _, Nat.le_refl _, rfl⟩
  refine ai (p := fun (x : Nd × Int) => Nw 0 n x.1) (Nw.refl _ _) ?_
  cases h : ((bh (bV n.store.disk ks)).2 == 0) with
  | false => exact hr
  | true =>
    have := ua _ (eq_of_beq h)
    refine ⟨?_, Nat.le_refl _, rfl⟩
    show Fw 0 n.store.disk (bh (bV n.store.disk ks)).1.disk
    rw [this]
    exact jk _ _
end Go.Dm
namespace Go.Dm
open Go
def NdB (N a m : Nat) (n : Nd) : Prop := yK N n.store.disk ∧ n.store.disk.cache.length ≤ a ∧ n.draws.length + n.mints.length ≤ m
theorem NdB.nw {N a b m : Nat} {n n' : Nd} (h : NdB N a m n) (k : Nw b n n') : NdB N (a + b) m n' := ⟨k.1.1 N h.1, by have := k.1.2; have := h.2.1; omega, Nat.le_trans k.2.1 h.2.2⟩
theorem NdB.le {N a a' m m' : Nat} {n : Nd} (h : NdB N a m n) (ha : a ≤ a') (hm : m ≤ m') : NdB N a' m' n := ⟨h.1, Nat.le_trans h.2.1 ha, Nat.le_trans h.2.2 hm⟩
def LkB (s : Nat) (l : Lk) : Prop := l.to0.length ≤ s ∧ l.to1.length ≤ s ∧ (∀ x ∈ l.to0, x.size ≤ 64) ∧ ∀ x ∈ l.to1, x.size ≤ 64
theorem LkB.le {s t : Nat} {l : Lk} (h : LkB s l) (hst : s ≤ t) : LkB t l := ⟨Nat.le_trans h.1 hst, Nat.le_trans h.2.1 hst, h.2.2⟩
theorem LkB.none (s : Nat) (up : Bool) (ses : Int) : LkB s ⟨up, ses, [], []⟩ := ⟨Nat.zero_le _, Nat.zero_le _, by simp, by simp⟩
theorem Bu {s : Nat} {l : Lk} (h : LkB s l) (to : Int) {x : ByteArray} (hx : x.size ≤ 64) : LkB (s + 1) (dd l to [x]).1 := by
  have h0 : LkB (s + 1) l := h.le (by omega)
  have app : ∀ {y : List ByteArray}, (∀ z ∈ y, z.size ≤ 64) → ∀ z ∈ y ++ [x], z.size ≤ 64 := fun hy z hz => by
    rcases List.mem_append.1 hz with hz | hz
    · exact hy z hz
    · simp only [List.mem_singleton] at hz; rw [hz]; exact hx
  unfold dd
  refine ai (p := fun (x : Lk × Int) => LkB (s + 1) x.1) h0 (ai (p := fun (x : Lk × Int) => LkB (s + 1) x.1) h0 (ai (p := fun (x : Lk × Int) => LkB (s + 1) x.1) ?_ ?_))
  · exact ⟨by simp only [List.length_append, List.length_cons, List.length_nil]; have := h.1; omega, h0.2.1, app h.2.2.1, h.2.2.2⟩
  · exact ⟨h0.1, by simp only [List.length_append, List.length_cons, List.length_nil]; have := h.2.1; omega, h.2.2.1, app h.2.2.2⟩
theorem o9 (i : Int) : ∀ (l : List Ou) {s : Nat} {k : Lk}, LkB s k → (∀ o ∈ l, o.data.size ≤ 64) → LkB (s + l.length) (cT i k l)
  | [], s, k, h, _ => h
  | o :: l, s, k, h, ho => by
    have h1 : LkB (s + 1) (bif o.kind == 1 && k.up then (dd k (IntKind.wrap .i64 (1 - i)) [o.data]).1 else k) := by
      cases o.kind == 1 && k.up with
      | true => exact Bu h _ (ho o (List.mem_cons_self ..))
      | false => exact h.le (by omega)
    have := o9 i l h1 (fun o ho' => ho o (List.mem_cons_of_mem _ ho'))
    rw [List.length_cons, show s + (l.length + 1) = s + 1 + l.length by omega]
    exact this
structure ClB (N a m s : Nat) (c : Cl) : Prop where
  n0 : NdB N a m c.n0
  n1 : NdB N a m c.n1
  link : LkB s c.link
theorem ClB.le {N a a' m m' s s' : Nat} {c : Cl} (h : ClB N a m s c) (ha : a ≤ a') (hm : m ≤ m') (hs : s ≤ s') : ClB N a' m' s' c := ⟨h.n0.le ha hm, h.n1.le ha hm, h.link.le hs⟩
theorem vG {N a m : Nat} {n : Nd} (w : Bool) (h : NdB N a m n) : NdB N (a + 1) m (ct n w).1.1 ∧ ay 3 (ct n w).2 := by
  have hr := yU n
  unfold ct
  refine ai (p := fun (x : (Nd × Bool) × List Ou) => NdB N (a + 1) m x.1.1 ∧ ay 3 x.2) ⟨h.le (by omega) (Nat.le_refl _), ay.nil _⟩ (ai (p := fun (x : (Nd × Bool) × List Ou) => NdB N (a + 1) m x.1.1 ∧ ay 3 x.2) ?_ ?_)
  · exact ⟨h.nw hr.1, hr.2⟩
  · exact ⟨h.nw hr.1, hr.2⟩
theorem uM {N a m s : Nat} {c : Cl} (h : ClB N a m s c) : ClB N (a + 1) m 0 (ez c).1 ∧ ay 6 (ez c).2 := by
  have h0 := vG c.w0 h.n0
  have h1 := vG c.w1 h.n1
  exact ⟨⟨h0.1, h1.1, LkB.none _ _ _⟩, h0.2.append h1.2⟩
theorem lI {N a m s : Nat} {c : Cl} (h : ClB N a m s c) (i : Int) {n : Nd} (hn : NdB N a m n) : ClB N a m s (aW c i n) := by
  unfold aW
  exact ai (p := ClB N a m s) ⟨hn, h.n1, h.link⟩ ⟨h.n0, hn, h.link⟩
theorem fA {N a m s : Nat} {c : Cl} (h : ClB N a m s c) (i : Int) (w : Bool) : ClB N a m s (aB c i w) := by
  unfold aB
  exact ai (p := ClB N a m s) ⟨h.n0, h.n1, h.link⟩ ⟨h.n0, h.n1, h.link⟩
theorem rD {N a m s : Nat} {c : Cl} (h : ClB N a m s c) (i : Int) : NdB N a m (bZ c i) := by
  unfold bZ
  exact ai (p := NdB N a m) h.n0 h.n1
theorem zk {k : Nat} {l : List Ou} (h : ay k l) : ay k (bi l) := ⟨Nat.le_trans (nO l) h.1, fun o ho => h.2 o (List.mem_filter.1 ho).1⟩
theorem nA {N a m s : Nat} {c : Cl} (h : ClB N a m s c) (i : Int) {n : Nd} (hn : NdB N a m n) {l : List Ou} (hl : ay 3 l) : ClB N (a + 1) m (s + 3) (bB c i n l).1 ∧ ay 9 (bB c i n l).2 := by
  have hp := lI h i hn
  have hk : ClB N a m (s + 3) { aW c i n with link := cT i c.link l } := ⟨hp.n0, hp.n1, (o9 i l h.link hl.2).le (by have := hl.1; omega)⟩
  have h1 : ClB N a m (s + 3) (dn c i n l) := by
    unfold dn
    exact ai (p := ClB N a m (s + 3)) (fA hk i false) hk
  have h2 : ClB N a m (s + 3) { dn c i n l with w0 := false, w1 := false } := ⟨h1.n0, h1.n1, h1.link⟩
  have e1 := uM h1
  have e2 := uM h2
  have hK := zk hl
  unfold bB
  refine ai (p := fun (x : Cl × List Ou) => ClB N (a + 1) m (s + 3) x.1 ∧ ay 9 x.2) ⟨h1.le (by omega) (Nat.le_refl _) (Nat.le_refl _), hK.le (by omega)⟩ (ai (p := fun (x : Cl × List Ou) => ClB N (a + 1) m (s + 3) x.1 ∧ ay 9 x.2) ⟨e2.1.le (Nat.le_refl _) (Nat.le_refl _) (by omega), hK.append e2.2⟩ ⟨e1.1.le (Nat.le_refl _) (Nat.le_refl _) (by omega), hK.append e1.2⟩)
theorem fo {N a m : Nat} {n : Nd} (h : NdB N a m n) (s : Int) : NdB N a m (cM n s).1 := h.nw (b := 0) (eG n s).1
theorem nr {N a m s : Nat} {c : Cl} (h : ClB N a m s c) : ClB N (a + 1) m (s + 3) (dQ c).1 ∧ ay 9 (dQ c).2 := nA h 0 (fo h.n0 _) (eG _ _).2
theorem oI {N a m s : Nat} {c : Cl} (h : ClB N a m s c) : ClB N (a + 1) m (s + 3) (f9 c).1 ∧ ay 9 (f9 c).2 := nA h 1 (fo h.n1 _) (eG _ _).2
theorem rn {N a m s : Nat} {c : Cl} (h : ClB N a m s c) (i : Int) : ClB N a m 0 { aB c i true with link := b6 c.link } := by
  have hw := fA h i true
  exact ⟨hw.n0, hw.n1, LkB.none _ _ _⟩
theorem ue {N a m s : Nat} {c : Cl} (h : ClB N a m s c) (i : Int) : ClB N (a + 2) m (s + 6) (dk c i).1 ∧ ay 18 (dk c i).2 := by
  have hw := fA h i true
  have ho := rn h i
  have b0 := nr ho
  have b1 := oI b0.1
  unfold dk
  refine ai (p := fun (x : Cl × List Ou) => ClB N (a + 2) m (s + 6) x.1 ∧ ay 18 x.2) ⟨h.le (by omega) (Nat.le_refl _) (by omega), ay.nil _⟩ (ai (p := fun (x : Cl × List Ou) => ClB N (a + 2) m (s + 6) x.1 ∧ ay 18 x.2) ⟨hw.le (by omega) (Nat.le_refl _) (by omega), ay.nil _⟩ ?_)
  exact ⟨b1.1.le (Nat.le_refl _) (Nat.le_refl _) (by omega), b0.2.append b1.2⟩
theorem rg {s : Nat} {l : Lk} (h : LkB s l) (i : Int) : LkB s (df l i).2.1 ∧ (df l i).1.size ≤ 64 := by
  unfold df
  refine ai (p := fun (x : ByteArray × Lk × Bool) => LkB s x.2.1 ∧ x.1.size ≤ 64) ?_ (ai (p := fun (x : ByteArray × Lk × Bool) => LkB s x.2.1 ∧ x.1.size ≤ 64) ?_ ⟨h, Nat.zero_le _⟩)
  · cases ht : l.to0 with
    | nil => exact ⟨h, Nat.zero_le _⟩
    | cons x r =>
      have h1 := h.1
      have h2 := h.2.2.1
      rw [ht] at h1 h2
      exact ⟨⟨by simp at h1; show r.length ≤ s; omega, h.2.1, fun y hy => h2 y (List.mem_cons_of_mem _ hy), h.2.2.2⟩, h2 x (List.mem_cons_self ..)⟩
  · cases ht : l.to1 with
    | nil => exact ⟨h, Nat.zero_le _⟩
    | cons x r =>
      have h1 := h.2.1
      have h2 := h.2.2.2
      rw [ht] at h1 h2
      exact ⟨⟨h.1, by simp at h1; show r.length ≤ s; omega, h.2.2.1, fun y hy => h2 y (List.mem_cons_of_mem _ hy)⟩, h2 x (List.mem_cons_self ..)⟩
def Ev1 (N a m s : Nat) (x : Cl × List Ou) : Prop := ClB N (a + 4) (m + 1) (s + 6) x.1 ∧ ay 18 x.2
theorem gL {N a m s : Nat} {c : Cl} (h : ClB N a m s c) : Ev1 N a m s (c, []) := ⟨h.le (by omega) (by omega) (by omega), ay.nil _⟩
theorem lY {N a m s : Nat} {c : Cl} (h : ClB N a m s c) (i : Int) {n : Nd} {l : List Ou} (hn : NdB N (a + 3) m n) (hl : ay 3 l) : Ev1 N a m s (bB c i n l) := by
  have := nA (h.le (show a ≤ a + 3 by omega) (Nat.le_refl _) (Nat.le_refl _)) i hn hl
  exact ⟨this.1.le (by omega) (by omega) (by omega), this.2.le (by omega)⟩
theorem ml {N a m s : Nat} {c : Cl} (h : ClB N a m s c) (i : Int) {n : Nd} {x : Nd × List Ou} (hn : NdB N a m n) (hr : Ro 3 n x) : Ev1 N a m s (bB c i x.1 x.2) := lY h i (hn.nw hr.1) hr.2
theorem AC {N a m s : Nat} {c : Cl} (h : ClB N a m s c) : Ev1 N a m s (yT c) := by
  unfold yT
  have := uM h
  exact ai (p := Ev1 N a m s) (gL h) ⟨this.1.le (by omega) (by omega) (by omega), this.2.le (by omega)⟩
theorem CN {N a m s : Nat} {c : Cl} (h : ClB N a m s c) (e : Evt) (i : Int) {n : Nd} (hn : NdB N a m n) : Ev1 N a m s (rV c e i n) := by
  unfold rV
  repeat' (with_reducible apply ai (p := Ev1 N a m s))
  · exact ml h i hn (iu _ _)
  · exact ml h i hn (jB _ _)
  · exact ml h i hn (iC _ _)
  · exact ml h i hn (l8 _ _ _)
  · exact ml h i hn (lU _ _ _ _)
  · have := ue h i
    exact ⟨this.1.le (by omega) (by omega) (by omega), this.2⟩
  · exact AC (fA h i false)
  · exact AC h
  · unfold sa
    have ht := rg h.link i
    refine ai (p := Ev1 N a m s) (gL h) ?_
    exact ml (c := { c with link := (df c.link i).2.1 }) ⟨h.n0, h.n1, ht.1⟩ i (rD h i) (dH _ _)
  · exact gL h
  · exact lY h i (hn.nw (Nw.down (a := 3) (Nw.refl _ _))) (ay.nil _)
  · have := hn.nw (ip n e.keeps)
    have hp := lI h i this
    exact ⟨hp.le (by omega) (by omega) (by omega), ay.one (bv _ _ _)⟩
  · refine lY h i ?_ (ay.nil _)
    unfold dq
    refine ai (p := NdB N (a + 3) m) ?_ (hn.le (by omega) (Nat.le_refl _))
    exact hn.nw (b := 3) ⟨(wq _ _).le (by omega), Nat.le_refl _, rfl⟩
  · have hd : NdB N a (m + 1) (fg n e.n) := by
      unfold fg
      refine ai (p := NdB N a (m + 1)) ⟨hn.1, hn.2.1, ?_⟩ (hn.le (Nat.le_refl _) (by omega))
      simp only [List.length_append, List.length_cons, List.length_nil]
      have := hn.2.2
      omega
    have hp := lI (h.le (Nat.le_refl _) (show m ≤ m + 1 by omega) (Nat.le_refl _)) i hd
    exact ⟨hp.le (by omega) (by omega) (by omega), ay.nil _⟩
  · exact gL h
  · exact ml h i hn (dH _ _)
  · exact gL h
theorem xq {N a m s : Nat} {c : Cl} (h : ClB N a m s c) (e : Evt) : Ev1 N a m s (doM c e) := by
  unfold doM
  exact ai (p := Ev1 N a m s) (gL h) (CN h e _ (rD h _))
theorem B2 {N : Nat} : ∀ (l : List Evt) {a m s : Nat} {c : Cl}, ClB N a m s c → ClB N (a + 4 * l.length) (m + l.length) (s + 6 * l.length) (pS c l).1
  | l, a, m, s, c, h => by
    have key : ∀ (l : List Evt) {a m s : Nat} (x : Cl × List Ou), ClB N a m s x.1 → ClB N (a + 4 * l.length) (m + l.length) (s + 6 * l.length) (l.foldl (fun x e => ((doM x.1 e).1, x.2 ++ (doM x.1 e).2)) x).1 := by
      intro l
      induction l with
      | nil => intro a m s x h; exact h
      | cons e l ih =>
        intro a m s x h
        rw [List.foldl_cons]
        have := ih ((doM x.1 e).1, x.2 ++ (doM x.1 e).2) (xq h e).1
        rw [List.length_cons]
        exact this.le (by omega) (by omega) (by omega)
    exact key l (c, []) h
end Go.Dm
namespace Go.Dm
open Go
structure Sp where
  m : Mm
  c : Cl
  d : Cl
  e : Evt
  l : List Ou
abbrev Sp.cs (s : Sp) : List C := s.m.cs ++ (s.c.cs ++ (s.d.cs ++ (s.e.cs ++ [.slice 5 (s.l.map Ou.cs)])))
theorem pE {v : Vl} {b : Int} {x : ByteArray} (h : ge v b = false) : f7 v b x = v := by unfold f7; rw [h]; rfl
theorem nb {v : Vl} {b : Int} {i : Nat} {x : ByteArray} {y : List ByteArray} (h : ge v b = true) (hb : b = (i : Int)) (hy : v.begun[i]? = some y) : f7 v b x = ⟨v.acked, v.begun.set i (y ++ [x]), v.last⟩ := by
  unfold f7
  rw [h, hb]
  simp [List.getD_eq_getElem?_getD, hy]
theorem va {v : Vl} {r : Rq} {n : Int} (h : ge v r.block = false) : uB v r n = v := by unfold uB; rw [h]; rfl
theorem rZ {v : Vl} {r : Rq} {n : Int} {i : Nat} (h : ge v r.block = true) (hb : r.block = (i : Int)) : uB v r n = ⟨v.acked.set i r.data, v.begun.set i [], v.last.set i n⟩ := by
  unfold uB
  rw [h, hb]
  simp
end Go.Dm
namespace Go.Dm
open Go
def R64 (n : Int) : Prop := 0 ≤ n ∧ n < 18446744073709551616
theorem yx (n : Int) : R64 (IntKind.wrap .u64 n) := by
  unfold R64 IntKind.wrap
  simp [IntKind.signed, IntKind.bits]
  omega
theorem jb {a b c d : ByteArray} (h : a ++ b = c ++ d) (hs : a.size = c.size) : a = c ∧ b = d := by
  have h2 : a.data.toList ++ b.data.toList = c.data.toList ++ d.data.toList := by
    have := congrArg (fun x : ByteArray => x.data.toList) h
    simpa using this
  have h3 := List.append_inj h2 (by simpa using hs)
  exact ⟨ByteArray.ext (Array.toList_inj.1 h3.1), ByteArray.ext (Array.toList_inj.1 h3.2)⟩
theorem cu {a b c d : ByteArray} (h : a ++ b = c ++ d) (hs : b.size = d.size) : a = c ∧ b = d := by
  refine jb h ?_
  have := congrArg ByteArray.size h
  simp only [ByteArray.size_append] at this
  omega
theorem yf {a b : Int} (ha : 0 ≤ a ∧ a < 256) (hb : 0 ≤ b ∧ b < 256) (h : bH [a] = bH [b]) : a = b := by
  have h2 : UInt8.ofNat a.toNat = UInt8.ofNat b.toNat := by
    have := congrArg (fun x : ByteArray => x.data.toList) h
    simpa [bH] using this
  have h3 := congrArg UInt8.toNat h2
  simp at h3
  omega
theorem Aw (a b : Int) : bH [a, b] = bH [a] ++ bH [b] := by
  apply ByteArray.ext
  simp [bH]
theorem zB {s t : ByteArray} (h : bg s = bg t) : s = t :=
  (jb h (by have := congrArg ByteArray.size h; rw [dG, dG] at this; omega)).1
theorem vX {b : ByteArray} (h : (aa b).2 = 0) : b = bg (aa b).1 := by
  unfold aa at h ⊢
  cases h1 : decide ((b.size : Int) < 4) with
  | true => rw [h1] at h; simp at h
  | false =>
    rw [h1] at h
    cases h2 : bg (b.extract 0 (b.size - 4)) == b with
    | false => rw [h2] at h; simp at h
    | true => exact (eq_of_beq h2).symm
def VeR (v : Ve) : Prop := R64 v.cur ∧ R64 v.bit ∧ R64 v.o0 ∧ R64 v.o1
theorem CS (l : List UInt8) : R64 (dY l) := by
  unfold dY
  have key : ∀ (l : List UInt8) (n : Int), R64 n → R64 (l.foldl (fun n b => IntKind.wrap .u64 (IntKind.wrap .u64 (n * 256) + IntKind.wrap .u64 (b.toNat : Int))) n) := by
    intro l
    induction l with
    | nil => intro n h; exact h
    | cons x l ih => intro n _; rw [List.foldl_cons]; exact ih _ (yx _)
  exact key l 0 ⟨by omega, by omega⟩
theorem ot (t : ByteArray) (i : Nat) : R64 (bf t i) := CS _
theorem fl3 {a b c d e f : Bool} (h : fl a 1 + fl b 2 + fl c 4 = fl d 1 + fl e 2 + fl f 4) : a = d ∧ b = e ∧ c = f := by
  revert a b c d e f; decide
theorem En (a b c : Bool) : 0 ≤ fl a 1 + fl b 2 + fl c 4 ∧ fl a 1 + fl b 2 + fl c 4 < 256 := by
  revert a b c; decide
theorem mT {b : ByteArray} (h : (cB b).2 = 0) : cR (cB b).1 = true ∧ VeR (cB b).1.v ∧ b = bg (cE (cB b).1) := by
  unfold cB at h ⊢
  cases h1 : !((aa b).2 == 0) with
  | true =>
    rw [h1] at h
    exfalso
    have : (aa b).2 = 0 := h
    rw [this] at h1
    exact absurd h1 (by decide)
  | false =>
    rw [h1] at h
    have h0 : (aa b).2 = 0 := by simpa using h1
    cases h2 : (!(((aa b).1.size : Int) == 37) || decide (((ac (aa b).1 4).toNat : Int) > 7)) with
    | true => rw [h2] at h; simp at h
    | false =>
      rw [h2] at h
      cases h3 : (!cR (Aj (aa b).1) || !(cE (Aj (aa b).1) == (aa b).1)) with
      | true => rw [h3] at h; simp at h
      | false =>
        simp only [Bool.or_eq_false_iff, Bool.not_eq_false'] at h3
        simp only [cond_false]
        exact ⟨h3.1, ⟨ot _ _, ot _ _, ot _ _, ot _ _⟩, by rw [eq_of_beq h3.2]; exact vX h0⟩
structure PkR (p : Pk) : Prop where
  kind : 1 ≤ p.kind ∧ p.kind ≤ 13
  hello : p.kind = 1 → cQ p.hello = true
  none : p.kind ≠ 1 → p.hello = he0
  block : 0 ≤ p.block ∧ p.block ≤ 31
  zero : bG p.kind = false → p.block = 0
  data : eC p.kind = true → p.data.size = 8
  void : eC p.kind = false → p.data = ⟨#[]⟩
end Go.Dm
namespace Go.Dm
open Go
structure Cp (V : Bool → Ve → Prop) : Prop where
  ve : ∀ i v, V i v → VeR v
  ret : ∀ i v, V i v → V i (cF v)
  frm : ∀ i v g, V i v → R64 g → V true (uF v g)
abbrev SV (V : Bool → Ve → Prop) : Su → Prop := fun s => V s.inc s.v
def OkB (P : Su → Prop) (b : ByteArray) : Prop := (cB b).2 = 0 → P (cB b).1
def OkD (P : Su → Prop) (d : Dk) : Prop := OkB P (d.sure.getD 0 ⟨#[]⟩) ∧ ∀ w ∈ d.cache, w.sec.toNat = 0 → OkB P w.data
section
variable {V : Bool → Ve → Prop} {P : Su → Prop}
theorem kM : OkB P ⟨#[]⟩ := fun h => by
  have h1 := (mT h).2.2
  have h2 := congrArg ByteArray.size h1
  rw [dG, kO] at h2
  omega
theorem OkD.same {d e : Dk} (h : OkD P d) (h1 : e.sure = d.sure) (h2 : e.cache = d.cache) : OkD P e := by unfold OkD at h ⊢; rw [h1, h2]; exact h
theorem qN {d : Dk} (h : OkD P d) : OkD P (aV d) := h.same rfl rfl
theorem lD {d : Dk} (h : OkD P d) {i : Int} {x : ByteArray} (hx : i = 0 → OkB P x) : OkD P (bd d i x).1 := by
  unfold bd
  refine ai (p := fun (x : Dk × Int) => OkD P x.1) h ?_
  cases hi : (decide (i < 0) || decide (i ≥ (d.sure.length : Int))) with
  | true => exact h
  | false =>
    simp at hi
    refine ai (p := fun (x : Dk × Int) => OkD P x.1) h (ai (p := fun (x : Dk × Int) => OkD P x.1) h (ai (p := fun (x : Dk × Int) => OkD P x.1) (qN h) ?_))
    refine ⟨h.1, fun w hm h0 => ?_⟩
    rcases List.mem_append.1 hm with hm | hm
    · exact h.2 w hm h0
    · simp at hm
      subst hm
      exact hx (by simp only at h0; omega)
theorem sk {d : Dk} (h : OkD P d) : OkB P (dA d 0) := by
  unfold dA
  have key : ∀ (l : List Wr) (s : ByteArray), OkB P s → (∀ w ∈ l, w.sec.toNat = 0 → OkB P w.data) → OkB P (l.foldl (fun s w => bif w.sec == 0 then w.data else s) s) := by
    intro l
    induction l with
    | nil => intro s hs _; exact hs
    | cons w l ih =>
      intro s hs hl
      rw [List.foldl_cons]
      refine ih _ ?_ (fun w hm => hl w (List.mem_cons_of_mem _ hm))
      cases hw : w.sec == 0 with
      | true => exact hl w (by simp) (by have := eq_of_beq hw; rw [this]; rfl)
      | false => exact hs
  exact key _ _ h.1 h.2
theorem nU {d : Dk} (h : OkD P d) : OkD P (fd d).1 := by
  unfold fd
  refine ai (p := fun (x : Dk × Int) => OkD P x.1) h (ai (p := fun (x : Dk × Int) => OkD P x.1) (qN h) ?_)
  refine ⟨?_, by simp⟩
  have hb := sk (qN h)
  show OkB P ((lX (aV d)).getD 0 ⟨#[]⟩)
  unfold lX
  cases hl : (aV d).sure.length with
  | zero => exact kM
  | succ k => rw [List.range_succ_eq_map]; exact hb
theorem rK {d : Dk} (h : OkD P d) : OkD P (pU d) := h.same rfl rfl
theorem xv {d : Dk} (h : OkD P d) (ks : List Bool) : OkD P (bV d ks) := by
  refine ⟨?_, by simp [bV]⟩
  unfold bV
  have key : ∀ (l : List (Wr × Bool)) (s : List ByteArray), OkB P (s.getD 0 ⟨#[]⟩) → (∀ w ∈ l, w.1.sec.toNat = 0 → OkB P w.1.data) → OkB P ((l.foldl (fun s x => bif x.2 then s.set x.1.sec.toNat x.1.data else s) s).getD 0 ⟨#[]⟩) := by
    intro l
    induction l with
    | nil => intro s hs _; exact hs
    | cons w l ih =>
      intro s hs hl
      rw [List.foldl_cons]
      refine ih _ ?_ (fun w hm => hl w (List.mem_cons_of_mem _ hm))
      cases hw : w.2 with
      | false => exact hs
      | true =>
        cases s with
        | nil => exact hs
        | cons a s =>
          cases hk : w.1.sec.toNat with
          | zero => exact hl w (by simp) hk
          | succ k => exact hs
  exact key _ _ h.1 (fun w hm h0 => h.2 w.1 ((List.of_mem_zip (show (w.1, w.2) ∈ _ from hm)).1) h0)
theorem ob {d : Dk} (h : OkD P d) (m : BitVec 32) : OkD P (dx d m).1 := by
  unfold dx
  exact ai (p := fun (x : Dk × Int) => OkD P x.1) h (lD h (fun h1 => absurd h1 (by decide)))
theorem sJ {d : Dk} (h : OkD P d) (m : BitVec 32) : OkD P (gd d m).1 := by
  unfold gd
  exact ai (p := fun (x : Dk × Int) => OkD P x.1) (ob h m) (nU (ob h m))
theorem yo {i L : Int} (h1 : 0 ≤ i) (h2 : i < IntKind.wrap .i64 L) : IntKind.wrap .i64 (i + 2) ≠ 0 := by
  unfold IntKind.wrap at h2 ⊢
  simp [IntKind.signed, IntKind.bits] at h2 ⊢
  split at h2 <;> split <;> omega
theorem Bx {d : Dk} (h : OkD P d) (i : Int) (x : ByteArray) : OkD P (gS d i x).1 := by
  unfold gS
  cases ht : ey d i with
  | false => exact h
  | true =>
    unfold ey at ht
    simp at ht
    have hw : OkD P (bd d (IntKind.wrap .i64 (i + 2)) x).1 := lD h (fun h0 => absurd h0 (yo ht.1 ht.2))
    exact ai (p := fun (x : Dk × Int) => OkD P x.1) h (ai (p := fun (x : Dk × Int) => OkD P x.1) h (ai (p := fun (x : Dk × Int) => OkD P x.1) hw (nU hw)))
theorem xj {d : Dk} (h : OkD P d) (h0 : (bh d).2 = 0) : (bh d).1.disk = d ∧ P (bh d).1.super := by
  unfold bh at h0 ⊢
  cases h1 : !((gQ d).2 == 0) with
  | true =>
    rw [h1] at h0
    exfalso
    have : (gQ d).2 = 0 := h0
    rw [this] at h1
    simp at h1
  | false =>
    rw [h1] at h0
    cases h2 : !((eR d).2 == 0) with
    | true =>
      rw [h2] at h0
      exfalso
      have : (eR d).2 = 0 := h0
      rw [this] at h2
      simp at h2
    | false =>
      rw [h2] at h0
      cases h3 : !((iD d).2 == 0) with
      | true =>
        rw [h3] at h0
        exfalso
        have : (iD d).2 = 0 := h0
        rw [this] at h3
        simp at h3
      | false =>
        refine ⟨rfl, ?_⟩
        show P (gQ d).1
        have hs : (gQ d).2 = 0 := by simpa using h1
        unfold gQ at hs ⊢
        cases h4 : !((aK d 0).2 == 0) with
        | true =>
          rw [h4] at hs
          exfalso
          have : (aK d 0).2 = 0 := hs
          rw [this] at h4
          simp at h4
        | false =>
          rw [h4] at hs
          cases h5 : !((cB (aK d 0).1).2 == 0) with
          | true =>
            rw [h5] at hs
            exfalso
            have : (cB (aK d 0).1).2 = 0 := hs
            rw [this] at h5
            simp at h5
          | false =>
            rw [h5] at hs
            cases h6 : !rf d (cB (aK d 0).1).1 with
            | true => rw [h6] at hs; simp at hs
            | false =>
              show P (cB (aK d 0).1).1
              have h7 : OkB P (aK d 0).1 := by
                unfold aK
                exact ai (p := fun (x : ByteArray × Int) => OkB P x.1) kM (ai (p := fun (x : ByteArray × Int) => OkB P x.1) kM (sk h))
              exact h7 (by simpa using h5)
def Sk (P : Su → Prop) (s t : So) : Prop := OkD P t.disk ∧ t.super = s.super
theorem yj {s : So} (h : OkD P s.disk) (m : BitVec 32) : Sk P s (jC s m).1 := by
  unfold jC
  exact ai (p := fun (x : So × Int) => Sk P s x.1) ⟨h, rfl⟩ (ai (p := fun (x : So × Int) => Sk P s x.1) ⟨sJ h m, rfl⟩ ⟨sJ h m, rfl⟩)
theorem xQ {s : So} (h : OkD P s.disk) (i : Int) : Sk P s (gR s i).1 := by
  unfold gR
  exact ai (p := fun (x : So × Int) => Sk P s x.1) ⟨h, rfl⟩ (yj h _)
theorem zx {s : So} (h : OkD P s.disk) (i : Int) : Sk P s (gD s i).1 := by
  unfold gD
  exact ai (p := fun (x : So × Int) => Sk P s x.1) ⟨h, rfl⟩ (ai (p := fun (x : So × Int) => Sk P s x.1) ⟨h, rfl⟩ (ai (p := fun (x : So × Int) => Sk P s x.1) ⟨ob h _, rfl⟩ ⟨ob h _, rfl⟩))
theorem sB {s : So} (h : OkD P s.disk) (i : Int) (x : ByteArray) : Sk P s (ft s i x).1 := ⟨Bx h _ _, rfl⟩
structure NI (V : Bool → Ve → Prop) (n : Nd) : Prop where
  d : OkD (SV V) n.store.disk
  s : n.up = true → SV V n.store.super
  p : n.state = 4 → V false n.peer.v
  z : n.up = false → n.state = 0
abbrev Dd (n : Nd) : Int := n.store.super.v.cur
structure Bec (V : Bool → Ve → Prop) (n m : Nd) : Prop where
  ok : NI V m
  id : m.id = n.id
  dr : m.draws = n.draws
  mi : m.mints = n.mints
  up : m.up = true → n.up = true ∧ m.ses = n.ses
  st : m.up = true → m.state = n.state ∨ (n.state = 1 ∧ (m.state = 2 ∨ m.state = 3 ∨ m.state = 4)) ∨ ((n.state = 3 ∨ n.state = 4) ∧ m.state = 2)
  own : m.up = true → n.state = 1 → m.state = 1 → mP m = mP n
  cur : m.up = true → m.state ≠ 4 → n.state ≠ 4 → Dd m = Dd n
theorem Bec.flat {n m : Nd} (hn : NI V n) (hd : OkD (SV V) m.store.disk) (hs : m.up = true → SV V m.store.super) (id : m.id = n.id) (hu : m.up = n.up) (ht : m.state = n.state) (hk : m.ses = n.ses) (dr : m.draws = n.draws) (mi : m.mints = n.mints) (hp : m.peer = n.peer) (ho : n.state = 1 → mP m = mP n) (hc : Dd m = Dd n) : Bec V n m :=
  ⟨⟨hd, hs, by rw [ht, hp]; exact hn.p, by rw [hu, ht]; exact hn.z⟩, id, dr, mi, fun h => ⟨by rw [← hu]; exact h, hk⟩, fun _ => Or.inl ht, fun _ h1 _ => ho h1, fun _ _ _ => hc⟩
theorem Bec.refl {n : Nd} (hn : NI V n) : Bec V n n := Bec.flat hn hn.d hn.s rfl rfl rfl rfl rfl rfl rfl (fun _ => rfl) rfl
theorem Bec.down {n m : Nd} (hd : OkD (SV V) m.store.disk) (id : m.id = n.id) (dr : m.draws = n.draws) (mi : m.mints = n.mints) : Bec V n (fQ m) :=
  ⟨⟨rK hd, fun h => absurd h (by simp [fQ]), fun h => absurd h (by simp [fQ]), fun _ => rfl⟩, id, dr, mi, fun h => absurd h (by simp [fQ]), fun h => absurd h (by simp [fQ]), fun h => absurd h (by simp [fQ]), fun h => absurd h (by simp [fQ])⟩
def G2 (b : ByteArray) : Prop := (cx b).2 = 0 → (cx b).1.kind ≠ 1
def yG (l : List Ou) : Prop := ∀ o ∈ l, o.kind = 1 → G2 o.data
theorem yG.nil : yG [] := by intro o h; simp at h
theorem yG.cons {o : Ou} {l : List Ou} (h : o.kind = 1 → G2 o.data) (hl : yG l) : yG (o :: l) := by
  intro p hp
  rcases List.mem_cons.1 hp with rfl | hp
  · exact h
  · exact hl p hp
theorem yG.app {l m : List Ou} (h : yG l) (hl : yG m) : yG (l ++ m) := by
  intro p hp
  rcases List.mem_append.1 hp with hp | hp
  · exact h p hp
  · exact hl p hp
end
end Go.Dm
namespace Go.Dm
open Go
section
variable {V : Bool → Ve → Prop}
theorem nbf {b : Bool} (h : (!b) = false) : b = true := by simpa using h
theorem Bec.sto {n m : Nd} (hn : NI V n) (h1 : n.state ≠ 1) (hs : Sk (SV V) n.store m.store) (id : m.id = n.id) (up : m.up = n.up) (st : m.state = n.state) (hk : m.ses = n.ses) (dr : m.draws = n.draws) (mi : m.mints = n.mints) (hp : m.peer = n.peer) : Bec V n m :=
  Bec.flat hn hs.1 (fun h => by rw [hs.2]; exact hn.s (by rw [← up]; exact h)) id up st hk dr mi hp (fun h => absurd h h1) (by unfold Dd; rw [hs.2])
theorem Sk.trans {s t w : So} (h : Sk (SV V) s t) (k : Sk (SV V) t w) : Sk (SV V) s w := ⟨k.1, k.2.trans h.2⟩
structure Dec (x y : He) : Prop where
  src : (ap x y).src = 0 ∨ (ap x y).src = 1
  s0 : (ap x y).src = 0 → x.inc = false ∧ y.pri = false ∧ (y.inc = true ∨ y.dis = true ∨ y.v.cur = x.v.cur ∨ aQ x.v y.v.cur > 0)
  s1 : (ap x y).src = 1 → y.inc = false ∧ x.pri = false ∧ (x.inc = true ∨ x.dis = true ∨ x.v.cur = y.v.cur ∨ aQ y.v x.v.cur > 0)
end
end Go.Dm
namespace Go.Dm
open Go
section
variable {V : Bool → Ve → Prop}
theorem yC {b c : Bool} (h : (bif b then false else c) = true) : b = false ∧ c = true := by
  cases b
  · exact ⟨rfl, h⟩
  · exact absurd h (by simp)
theorem tf {n : Nd} {p : Pk} (h : a6 n p = true) : n.up = true ∧ ((p.kind = 1 ∧ n.state = 1) ∨ (p.kind ≠ 1 ∧ (n.state = 2 ∨ n.state = 3 ∨ n.state = 4) ∧ (p.kind = 6 → n.state = 4) ∧ (p.kind = 8 → n.state = 3) ∧ (p.kind = 9 → n.state = 4))) := by
  unfold a6 at h
  have h0 := yC h
  simp only [Bool.or_eq_false_iff, Bool.not_eq_false'] at h0
  refine ⟨h0.1.1, ?_⟩
  have h := h0.2
  cases c1 : p.kind == 1 with
  | true => rw [c1] at h; exact Or.inl ⟨eq_of_beq c1, by simpa using h⟩
  | false =>
    rw [c1] at h
    have n1 : p.kind ≠ 1 := by simpa using c1
    refine Or.inr ⟨n1, ?_⟩
    cases c2 : p.kind == 2 with
    | true => rw [c2] at h; simp at h; have := eq_of_beq c2; omega
    | false =>
      rw [c2] at h
      cases c3 : p.kind == 3 with
      | true => rw [c3] at h; simp at h; have := eq_of_beq c3; omega
      | false =>
        rw [c3] at h
        cases c4 : p.kind == 4 with
        | true => rw [c4] at h; simp at h; have := eq_of_beq c4; omega
        | false =>
          rw [c4] at h
          cases c5 : (p.kind == 5 || p.kind == 7 || p.kind == 8) with
          | true => rw [c5] at h; simp at h c5; omega
          | false =>
            rw [c5] at h
            cases c6 : p.kind == 6 with
            | true => rw [c6] at h; simp at h; have := eq_of_beq c6; omega
            | false =>
              rw [c6] at h
              cases c7 : p.kind == 9 with
              | true => rw [c7] at h; simp at h; have := eq_of_beq c7; omega
              | false =>
                rw [c7] at h
                simp at c5 c6 c7
                cases c8 : (p.kind == 10 || p.kind == 13) with
                | true => rw [c8] at h; simp at h; omega
                | false =>
                  rw [c8] at h
                  cases c9 : (p.kind == 11 || p.kind == 12) with
                  | true => rw [c9] at h; simp at h; omega
                  | false => rw [c9] at h; simp at h
end
end Go.Dm
namespace Go.Dm
open Go
abbrev IQ (Q : Prop) : Su → Prop := fun s => s.inc = true → Q
theorem rc {s t : Su} (h : cE s = cE t) : s.inc = t.inc := by
  unfold cE at h
  have p4 := cu h (by rw [bX, bX])
  have p3 := cu p4.1 (by rw [bX, bX])
  have p2 := cu p3.1 (by rw [bX, bX])
  have p1 := cu p2.1 (by rw [bX, bX])
  have p0 := (cu p1.1 (by rw [cW, cW]; rfl)).2
  rw [Aw, Aw] at p0
  have q := cu p0 (by rw [cW, cW]; rfl)
  exact (fl3 (yf (En _ _ _) (En _ _ _) q.2)).1
theorem wd {Q : Prop} {s : Su} (h : s.inc = true → Q) : OkB (IQ Q) (aY s).1 := by
  cases hr : cR s with
  | true =>
    intro hd hi
    have he : (aY s).1 = bg (cE s) := by unfold aY; rw [hr]; rfl
    have h1 := (mT hd).2.2
    rw [he] at h1 hi
    have h2 := rc (zB h1)
    exact h (h2.trans hi)
  | false =>
    have : (aY s).1 = ⟨#[]⟩ := by unfold aY; rw [hr]; rfl
    rw [this]
    exact kM
theorem kY {Q : Prop} {d : Dk} (h : OkD (IQ Q) d) {s : Su} (hs : s.inc = true → Q) : OkD (IQ Q) (bW d s).1 := by
  unfold bW
  have hw := lD h (i := 0) (fun _ => wd hs)
  exact ai (p := fun (x : Dk × Int) => OkD (IQ Q) x.1) h (ai (p := fun (x : Dk × Int) => OkD (IQ Q) x.1) hw (nU hw))
structure IP (Q : Prop) (n : Nd) : Prop where
  d : OkD (IQ Q) n.store.disk
  s : n.up = true → n.store.super.inc = true → Q
theorem IP.triv {Q : Prop} (q : Q) (n : Nd) : IP Q n := ⟨⟨fun _ _ => q, fun _ _ _ _ _ => q⟩, fun _ _ => q⟩
theorem IP.down {Q : Prop} {n : Nd} (h : OkD (IQ Q) n.store.disk) : IP Q (fQ n) := ⟨rK h, fun hu => absurd hu (by simp [fQ])⟩
theorem IP.same {Q : Prop} {n m : Nd} (h : IP Q n) (hs : m.store = n.store) (hu : m.up = n.up) : IP Q m := ⟨by rw [hs]; exact h.d, by rw [hs, hu]; exact h.s⟩
theorem cY {Q : Prop} {n : Nd} (h : IP Q n) {b : Su} (hb : b.inc = true → Q) : IP Q (ab n b).1 := by
  have hd : OkD (IQ Q) (bS n.store b).1.disk := by
    unfold bS
    exact ai (p := fun (x : So × Int) => OkD (IQ Q) x.1.disk) h.d (ai (p := fun (x : So × Int) => OkD (IQ Q) x.1.disk) (kY h.d hb) (kY h.d hb))
  have hs : (bS n.store b).1.super = b ∨ (bS n.store b).1.super = n.store.super := by
    unfold bS
    exact ai (p := fun (x : So × Int) => x.1.super = b ∨ x.1.super = n.store.super) (Or.inr rfl) (ai (p := fun (x : So × Int) => x.1.super = b ∨ x.1.super = n.store.super) (Or.inl rfl) (Or.inr rfl))
  unfold ab
  refine ai (p := fun (x : Nd × Bool) => IP Q x.1) (IP.down hd) ⟨hd, fun hu hi => ?_⟩
  rcases hs with hs | hs
  · exact hb (by rw [← hs]; exact hi)
  · exact h.s hu (by rw [← hs]; exact hi)
theorem kN {Q : Prop} {n : Nd} (h : IP Q n) {s : So} (hs : Sk (IQ Q) n.store s) (e : Int) : IP Q (dD n s e).1 := by
  unfold dD
  refine ai (p := fun (x : Nd × Bool) => IP Q x.1) (IP.down hs.1) ⟨hs.1, fun hu hi => ?_⟩
  have hi' : s.super.inc = true := hi
  rw [hs.2] at hi'
  exact h.s hu hi'
theorem wc {Q : Prop} {n : Nd} (h : IP Q n) (b : Int) (x : ByteArray) : IP Q (fj n b x).1 := by
  have h1 : IP Q (cX n b).1 := kN h (xQ h.d b) _
  unfold fj
  exact ai (p := fun (x : Nd × Bool) => IP Q x.1) h1 (kN h1 (sB h1.d b x) _)
theorem i3 {Q : Prop} {n : Nd} (h : IP Q n) (b : Int) : IP Q (au n b).1 := kN h (zx h.d b) _
theorem rX {Q : Prop} {n : Nd} (h : IP Q n) : n.up = true → IP Q (av n).1 := by
  intro hu
  unfold av
  cases n.draws with
  | nil => exact h
  | cons g r =>
    show IP Q (fU n g r).1
    unfold fU
    have h1 : IP Q (ab (jr n g r) (mv n g)).1 := cY (show IP Q (jr n g r) from ⟨h.d, h.s⟩) (fun hi => h.s hu hi)
    exact ai (p := fun (x : Nd × Int) => IP Q x.1) (h.same rfl rfl) (ai (p := fun (x : Nd × Int) => IP Q x.1) h1 (h1.same rfl rfl))
abbrev IPo (Q : Prop) (x : Nd × List Ou) : Prop := IP Q x.1
theorem d6 {Q : Prop} {b : Bool} {x y : Nd × List Ou} (hx : IPo Q x) (hy : IPo Q y) : IPo Q (bif b then x else y) := by
  cases b
  · exact hy
  · exact hx
theorem Cz {Q : Prop} {b : Bool} {x y : Nd × List Ou} (hx : b = true → IPo Q x) (hy : b = false → IPo Q y) : IPo Q (bif b then x else y) := by
  cases b
  · exact hy rfl
  · exact hx rfl
theorem qH {Q : Prop} {n : Nd} (h : IP Q n) (id : Int) : IPo Q (bz n id) := by
  unfold bz
  refine Cz (fun _ => h) (fun hu => d6 h (d6 h (d6 h (d6 h (d6 h (d6 (h.same rfl rfl) ?_))))))
  have h1 : IP Q (ab n { n.store.super with pri := true }).1 := cY h (fun hi => h.s (nbf hu) hi)
  exact d6 h1 (h1.same rfl rfl)
theorem s9 {Q : Prop} {n : Nd} (h : IP Q n) (id : Int) : IPo Q (cD n id) := by
  unfold cD
  refine Cz (fun _ => h) (fun hu => d6 h (d6 h ?_))
  have h1 : IP Q (ab n { n.store.super with pri := false }).1 := cY h (fun hi => h.s (nbf hu) hi)
  exact d6 h1 (d6 (h1.same rfl rfl) (h1.same rfl rfl))
theorem qx {Q : Prop} {n : Nd} (h : IP Q n) (id : Int) : IPo Q (cf n id) := by
  unfold cf
  refine Cz (fun _ => h) (fun hu => d6 h (d6 h ?_))
  have h1 : IP Q (ab n { n.store.super with dis := true }).1 := cY h (fun hi => h.s (nbf hu) hi)
  exact d6 h1 h1
theorem wz {Q : Prop} {n : Nd} (h : IP Q n) (id b : Int) : IPo Q (eF n id b) := by
  unfold eF
  exact d6 h (d6 h h)
theorem pQ {Q : Prop} {n : Nd} (h : IP Q n) (id b : Int) (x : ByteArray) : IPo Q (ca n id b x) := by
  have h1 := wc h b x
  unfold ca
  exact d6 h1 (d6 h1 (h1.same rfl rfl))
theorem lK {n : Nd} {b : Int} {x : ByteArray} (h : (bu n b x == 0) = true) : n.up = true ∧ n.primary = true ∧ n.req.on = false := by
  unfold bu at h
  cases h1 : n.up with
  | false => rw [h1] at h; simp at h
  | true =>
    rw [h1] at h
    cases h2 : n.primary with
    | false => rw [h2] at h; simp at h
    | true =>
      rw [h2] at h
      cases h3 : (decide (b < 0) || decide (b ≥ n.store.super.blocks)) with
      | true => rw [h3] at h; simp at h
      | false =>
        rw [h3] at h
        cases h4 : !((x.size : Int) == 8) with
        | true => rw [h4] at h; simp at h
        | false =>
          rw [h4] at h
          cases h5 : n.req.on with
          | true => rw [h5] at h; simp at h
          | false => exact ⟨rfl, rfl, rfl⟩
theorem xD {Q : Prop} {n : Nd} (h : IP Q n) (id b : Int) (x : ByteArray) : IPo Q (bJ n id b x) := by
  unfold bJ
  refine Cz (fun _ => h) (fun hb => ?_)
  have hu := (lK (nbf hb)).1
  have h1 := rX h hu
  exact d6 (d6 h1 (d6 h1 (pQ h1 id b x))) (pQ h id b x)
theorem xz {Q : Prop} {n : Nd} (h : IP Q n) (b : Int) : IPo Q (d5 n b) := by
  have h1 : IP Q (au { n with req := rq0 } b).1 := i3 (show IP Q { n with req := rq0 } from ⟨h.d, h.s⟩) b
  unfold d5
  exact d6 h (d6 h1 h1)
theorem v9 {Q : Prop} {n : Nd} (h : IP Q n) (b : Int) (x : ByteArray) : IPo Q (eX n b x) := by
  have h1 := wc h b x
  unfold eX
  exact d6 h1 h1
theorem y6 {Q : Prop} {n : Nd} (h : IP Q n) : IPo Q (dP n) := by
  have h1 : IP Q (ab n (js n)).1 := cY h (fun hi => absurd hi (by simp [js]))
  unfold dP
  exact d6 h (d6 (h.same rfl rfl) (d6 h1 h1))
theorem BF {Q : Prop} {n : Nd} (h : IP Q n) (b : Int) (x : ByteArray) : IPo Q (oV n b x) := by
  have h1 : IP Q (di n b x).1 := kN h (sB h.d b x) _
  have h2 : IP Q (au (di n b x).1 b).1 := i3 h1 b
  have h3 : IP Q (lq n b x) := h2.same rfl rfl
  unfold oV
  exact d6 h (d6 h1 (d6 h2 (y6 h3)))
theorem vL {Q : Prop} {n : Nd} (h : IP Q n) (hu : n.up = true) : IPo Q (fa n) := by
  have h1 : IP Q (ab n (cU n)).1 := cY h (fun hi => h.s hu hi)
  unfold fa
  exact d6 h1 (h1.same rfl rfl)
theorem vi {Q : Prop} {n : Nd} (h : IP Q n) (hu : n.up = true) (k : Int) : IPo Q (dm n k) := by
  have h1 : IP Q (ab n (fb n)).1 := cY h (fun hi => h.s hu hi)
  unfold dm
  exact d6 (d6 h (h.same rfl rfl)) (d6 (h.same rfl rfl) (d6 (h.same rfl rfl) (d6 h1 (h1.same rfl rfl))))
theorem yr {Q : Prop} {n : Nd} (h : IP Q n) (h1 : n.state = 1 → Q) {p : Pk} (hf : a6 n p = true) : IPo Q (eO n p) := by
  obtain ⟨hu, hc⟩ := tf hf
  unfold eO
  refine Cz (fun hk => ?_) (fun _ => d6 (v9 h _ _) (d6 (xz h _) (d6 (i3 h _) (d6 h (d6 (BF h _ _) (d6 ?_ (d6 (vL h hu) (d6 (h.same rfl rfl) (vi h hu _)))))))))
  · have q : Q := h1 (by
      rcases hc with ⟨_, h5⟩ | ⟨h5, _⟩
      · exact h5
      · exact absurd (eq_of_beq hk) h5)
    exact IP.triv q _
  · show IP Q (eJ n p.block)
    unfold eJ
    exact ai (p := fun (x : Nd) => IP Q x) h (i3 h _)
theorem lG {Q : Prop} {n : Nd} (h : IP Q n) (h1 : n.state = 1 → Q) (b : ByteArray) : IPo Q (bb n b) := by
  unfold bb
  refine d6 h (d6 h (Cz (fun _ => h) (fun hf => ?_)))
  rw [Bool.or_eq_false_iff] at hf
  exact yr h h1 (nbf hf.2)
theorem zG {Q : Prop} {n : Nd} (h : IP Q n) (hu : n.up = true) : IPo Q (aj n) := by
  have h1 : IP Q (eP n) := h.same rfl rfl
  have h2 := rX h1 hu
  unfold aj
  exact d6 h (d6 h1 (d6 h2 h2))
theorem sG {Q : Prop} {n : Nd} (h : IP Q n) (w : Bool) : IP Q (ct n w).1.1 := by
  unfold ct
  cases hu : n.up with
  | false => exact h
  | true =>
    have h1 : IP Q (aj n).1 := zG h hu
    exact ai (p := fun (x : (Nd × Bool) × List Ou) => IP Q x.1.1) h (ai (p := fun (x : (Nd × Bool) × List Ou) => IP Q x.1.1) h1 h1)
theorem iq {Q : Prop} {n : Nd} (h : IP Q n) (ks : List Bool) : IP Q (bF n ks).1 := by
  have hr := xv h.d ks
  unfold bF
  cases hu : n.up with
  | true => exact h
  | false =>
    cases ha : !((bh (bV n.store.disk ks)).2 == 0) with
    | true => exact ⟨hr, fun hx => absurd hx (by simp [hu])⟩
    | false =>
      obtain ⟨h1, h2⟩ := xj hr (by simpa using ha)
      exact ⟨by show OkD (IQ Q) (bh (bV n.store.disk ks)).1.disk; rw [h1]; exact hr, fun _ hi => h2 hi⟩
structure Rq2 (n : Nd) : Prop where
  q : n.req.on = true → n.primary = true
  a : n.asking = true → n.primary = false
structure Sm (n m : Nd) : Prop where
  id : m.id = n.id
  h : (m.req = n.req ∧ m.asking = n.asking ∧ m.primary = n.primary) ∨ (m.req.on = false ∧ m.asking = false)
theorem Sm.refl (n : Nd) : Sm n n := ⟨rfl, Or.inl ⟨rfl, rfl, rfl⟩⟩
theorem Sm.trans {a b c : Nd} (h : Sm a b) (k : Sm b c) : Sm a c := by
  refine ⟨k.id.trans h.id, ?_⟩
  rcases k.h with ⟨k1, k2, k3⟩ | k1
  · rcases h.h with ⟨h1, h2, h3⟩ | ⟨h1, h2⟩
    · exact Or.inl ⟨k1.trans h1, k2.trans h2, k3.trans h3⟩
    · exact Or.inr ⟨by rw [k1]; exact h1, by rw [k2]; exact h2⟩
  · exact Or.inr k1
theorem Sm.rq {n m : Nd} (h : Sm n m) (k : Rq2 n) : Rq2 m := by
  rcases h.h with ⟨h1, h2, h3⟩ | ⟨h1, h2⟩
  · exact ⟨by rw [h1, h3]; exact k.q, by rw [h2, h3]; exact k.a⟩
  · exact ⟨fun h => absurd (h1.symm.trans h) (by simp), fun h => absurd (h2.symm.trans h) (by simp)⟩
theorem Sm.on {n m : Nd} (h : Sm n m) (k : m.req.on = true) : n.req.on = true := by
  rcases h.h with ⟨h1, _⟩ | ⟨h1, _⟩
  · rw [← h1]; exact k
  · exact absurd (h1.symm.trans k) (by simp)
theorem qG {n m : Nd} (h : m.id = n.id) : Sm n (fQ m) := ⟨h, Or.inr ⟨rfl, rfl⟩⟩
theorem iN (n : Nd) (s : So) (e : Int) : Sm n (dD n s e).1 := by
  unfold dD
  exact ai (p := fun (x : Nd × Bool) => Sm n x.1) (qG rfl) ⟨rfl, Or.inl ⟨rfl, rfl, rfl⟩⟩
theorem ce (n : Nd) (b : Su) : Sm n (ab n b).1 := by
  unfold ab
  exact ai (p := fun (x : Nd × Bool) => Sm n x.1) (qG rfl) ⟨rfl, Or.inl ⟨rfl, rfl, rfl⟩⟩
theorem wb (n : Nd) (b : Int) (x : ByteArray) : Sm n (fj n b x).1 := by
  have h1 : Sm n (cX n b).1 := iN _ _ _
  unfold fj
  exact ai (p := fun (x : Nd × Bool) => Sm n x.1) h1 (h1.trans (iN _ _ _))
theorem i9 (n : Nd) (b : Int) : Sm n (au n b).1 := iN _ _ _
theorem sh (n : Nd) : Sm n (av n).1 := by
  unfold av
  cases n.draws with
  | nil => exact Sm.refl n
  | cons g r =>
    show Sm n (fU n g r).1
    unfold fU
    have h1 : Sm n (ab (jr n g r) (mv n g)).1 := (show Sm n (jr n g r) from ⟨rfl, Or.inl ⟨rfl, rfl, rfl⟩⟩).trans (ce _ _)
    exact ai (p := fun (x : Nd × Int) => Sm n x.1) ⟨rfl, Or.inl ⟨rfl, rfl, rfl⟩⟩ (ai (p := fun (x : Nd × Int) => Sm n x.1) h1 ⟨h1.id, h1.h⟩)
def Ons (i : Int) (l : List Ou) : Prop := ∀ o ∈ l, o.node = i
def Nok (i : Int) (l : List Ou) : Prop := ∀ o ∈ l, o.kind = 2 → o.err = 0 → o.node ≠ i
theorem Ons.nil (i : Int) : Ons i [] := fun o h => absurd h (by simp)
theorem Nok.nil (i : Int) : Nok i [] := fun o h => absurd h (by simp)
theorem Ons.cons {i : Int} {o : Ou} {l : List Ou} (h : o.node = i) (hl : Ons i l) : Ons i (o :: l) := fun x hx => by
  rcases List.mem_cons.1 hx with rfl | hx
  · exact h
  · exact hl x hx
theorem Nok.cons {i : Int} {o : Ou} {l : List Ou} (h : o.kind = 2 → o.err ≠ 0) (hl : Nok i l) : Nok i (o :: l) := fun x hx hk he => by
  rcases List.mem_cons.1 hx with rfl | hx
  · exact absurd he (h hk)
  · exact hl x hx hk he
theorem Ons.app {i : Int} {l m : List Ou} (h : Ons i l) (k : Ons i m) : Ons i (l ++ m) := fun x hx => (List.mem_append.1 hx).elim (h x) (k x)
theorem Nok.app {i : Int} {l m : List Ou} (h : Nok i l) (k : Nok i m) : Nok i (l ++ m) := fun x hx => (List.mem_append.1 hx).elim (h x) (k x)
structure Ct (n : Nd) (x : Nd × List Ou) : Prop where
  ok : Rq2 x.1
  id : x.1.id = n.id
  ow : Ons n.id x.2
  kp : x.1.req.on = true → n.req.on = true ∧ Nok n.id x.2
theorem gV {n : Nd} {b : Bool} {x y : Nd × List Ou} (hx : Ct n x) (hy : Ct n y) : Ct n (bif b then x else y) := by
  cases b
  · exact hy
  · exact hx
theorem oT {n : Nd} {b : Bool} {x y : Nd × List Ou} (hx : b = true → Ct n x) (hy : b = false → Ct n y) : Ct n (bif b then x else y) := by
  cases b
  · exact hy rfl
  · exact hx rfl
theorem uT {n m : Nd} {l : List Ou} (h : Rq2 n) (hs : Sm n m) (ho : Ons n.id l) (hk : Nok n.id l) : Ct n (m, l) := ⟨hs.rq h, hs.id, ho, fun hr => ⟨hs.on hr, hk⟩⟩
theorem fp {n : Nd} (h : Rq2 n) (id e : Int) (x : ByteArray) (he : e ≠ 0) : Ct n (n, [ae n id e x]) :=
  uT h (Sm.refl n) (.cons rfl (.nil _)) (.cons (fun _ => he) (.nil _))
theorem kI {n m : Nd} (h : Rq2 n) (hs : Sm n m) : Ct n (m, []) := uT h hs (.nil _) (.nil _)
theorem Ca {n m k : Nd} (h : Rq2 n) (hs : Sm n m) (p : Pk) (hk : k.id = n.id) : Ct n (m, [az k p]) :=
  uT h hs (.cons hk (.nil _)) (.cons (fun h2 => absurd h2 (by simp [az])) (.nil _))
theorem kA {n m : Nd} {l : List Ou} (hq : Rq2 m) (hid : m.id = n.id) (ho : Ons n.id l) (hr : m.req.on = false) : Ct n (m, l) := ⟨hq, hid, ho, fun h => absurd (hr.symm.trans h) (by simp)⟩
theorem np {n : Nd} (h : Rq2 n) (hp : n.primary = false) : n.req.on = false := by
  cases hr : n.req.on with
  | false => rfl
  | true => have := h.q hr; rw [hp] at this; cases this
theorem j9 {n m : Nd} (hs : Sm n m) (h : n.req.on = false) : m.req.on = false := by
  cases hr : m.req.on with
  | false => rfl
  | true => have := hs.on hr; rw [h] at this; cases this
theorem qV {n : Nd} (h : Rq2 n) (id : Int) : Ct n (bz n id) := by
  unfold bz
  refine gV (fp h _ _ _ (by decide)) (oT (fun _ => fp h _ _ _ (by decide)) (fun hp => gV (fp h _ _ _ (by decide)) (gV (fp h _ _ _ (by decide)) (oT (fun _ => fp h _ _ _ (by decide)) (fun hb => gV (fp h _ _ _ (by decide)) (gV ?_ ?_))))))
  · exact ⟨⟨h.q, fun _ => hp⟩, rfl, .cons (by rfl) (.nil _), fun hr => ⟨hr, .cons (fun h2 => absurd h2 (by simp [az])) (.nil _)⟩⟩
  · have hs := ce n { n.store.super with pri := true }
    have ho := j9 hs (np h hp)
    simp only [Bool.or_eq_false_iff] at hb
    have ha : (ab n { n.store.super with pri := true }).1.asking = false := by
      rcases hs.h with ⟨_, h2, _⟩ | ⟨_, h2⟩
      · rw [h2]; exact hb.2
      · exact h2
    refine gV (kI h hs) (kA ⟨fun _ => rfl, fun h2 => ?_⟩ hs.id (.cons (by exact hs.id) (.nil _)) ho)
    have h2 : (ab n { n.store.super with pri := true }).1.asking = true := h2
    rw [ha] at h2; cases h2
theorem tn {n : Nd} (h : Rq2 n) (id : Int) : Ct n (cD n id) := by
  unfold cD
  refine gV (fp h _ _ _ (by decide)) (oT (fun _ => fp h _ _ _ (by decide)) (fun hp => oT (fun _ => fp h _ _ _ (by decide)) (fun hb => ?_)))
  have hs := ce n { n.store.super with pri := false }
  simp only [Bool.or_eq_false_iff] at hb
  have ho := j9 hs hb.1
  have hq : Rq2 { (ab n { n.store.super with pri := false }).1 with primary := false } := ⟨fun h2 => absurd (ho.symm.trans h2) (by simp), fun _ => rfl⟩
  refine gV (kI h hs) (gV (kA (by exact hq) (by exact hs.id) (.cons (by exact hs.id) (.cons (by exact hs.id) (.nil _))) ho) (kA (by exact hq) (by exact hs.id) (.cons (by exact hs.id) (.nil _)) ho))
theorem qU {n : Nd} (h : Rq2 n) (id : Int) : Ct n (cf n id) := by
  unfold cf
  refine gV (fp h _ _ _ (by decide)) (oT (fun _ => fp h _ _ _ (by decide)) (fun hp => gV (fp h _ _ _ (by decide)) ?_))
  have hs := ce n { n.store.super with dis := true }
  exact gV (kI h hs) (kA (hs.rq h) (by exact hs.id) (.cons (by exact hs.id) (.nil _)) (j9 hs (np h hp)))
theorem uN {n : Nd} (h : Rq2 n) (b : Int) : Ct n (d5 n b) := by
  have hs := i9 { n with req := rq0 } b
  have h0 : Rq2 { n with req := rq0 } := ⟨fun h2 => absurd h2 (by simp [rq0]), h.a⟩
  have ho := j9 hs rfl
  have hi : (au { n with req := rq0 } b).1.id = n.id := hs.id
  unfold d5
  exact gV (kI h (Sm.refl n)) (gV (kA (hs.rq h0) hi (.cons (by rfl) (.nil _)) ho) (kA (hs.rq h0) hi (.cons rfl (.cons hi (.nil _))) ho))
theorem w8 {n : Nd} (h : Rq2 n) (b : Int) (x : ByteArray) : Ct n (eX n b x) := by
  have hs := wb n b x
  unfold eX
  exact gV (kI h hs) (Ca h hs _ (by exact hs.id))
theorem r4 {n : Nd} (h : Rq2 n) : Ct n (dP n) := by
  have hs := ce n (js n)
  unfold dP
  exact gV (kI h (Sm.refl n)) (gV (Ca h (by exact ⟨rfl, Or.inl ⟨rfl, rfl, rfl⟩⟩) _ (by rfl)) (gV (kI h hs) (Ca h hs _ (by exact hs.id))))
theorem Bq {n : Nd} (h : Rq2 n) (b : Int) (x : ByteArray) : Ct n (oV n b x) := by
  have h1 : Sm n (di n b x).1 := iN _ _ _
  have h2 := h1.trans (i9 (di n b x).1 b)
  have h3 : Sm n (lq n b x) := ⟨h2.id, h2.h⟩
  have hk := r4 (h3.rq h)
  unfold oV
  refine gV (kI h (Sm.refl n)) (gV (kI h h1) (gV (kI h h2) ⟨hk.ok, hk.id.trans h3.id, ?_, fun hr => ?_⟩))
  · have := hk.ow
    rw [h3.id] at this
    exact Ons.app (.cons h3.id (.nil _)) this
  · obtain ⟨k1, k2⟩ := hk.kp hr
    rw [h3.id] at k2
    exact ⟨h3.on k1, Nok.app (.cons (fun h2 => absurd h2 (by simp [az])) (.nil _)) k2⟩
theorem vw {n : Nd} (h : Rq2 n) : Ct n (fa n) := by
  have hs := ce n (cU n)
  unfold fa
  exact gV (kI h hs) (Ca h (by exact ⟨hs.id, hs.h⟩) _ (by exact hs.id))
theorem wD {n : Nd} (h : Rq2 n) (k : Int) (hk : k ≠ 10 → k ≠ 12 → k ≠ 13 → n.asking = true) : Ct n (dm n k) := by
  unfold dm
  refine oT (fun _ => gV (Ca h (Sm.refl n) _ (by rfl)) (Ca h (by exact ⟨rfl, Or.inl ⟨rfl, rfl, rfl⟩⟩) _ (by rfl))) (fun k1 => oT (fun _ => ?_) (fun k2 => oT (fun _ => kI h (by exact ⟨rfl, Or.inl ⟨rfl, rfl, rfl⟩⟩)) (fun k3 => ?_)))
  · exact ⟨⟨h.q, fun h2 => absurd h2 (by simp)⟩, rfl, .cons (by rfl) (.nil _), fun hr => ⟨hr, .cons (fun _ => by show (12 : Int) ≠ 0; decide) (.nil _)⟩⟩
  · have ha := hk (by simpa using k1) (by simpa using k2) (by simpa using k3)
    have hs := ce n (fb n)
    have ho := j9 hs (np h (h.a ha))
    exact gV (kI h hs) (kA ⟨fun _ => rfl, fun h2 => absurd h2 (by simp)⟩ hs.id (.cons (by exact hs.id) (.nil _)) ho)
theorem AT {n : Nd} (h : Rq2 n) (H : He) (v : Vd) (m : BitVec 32) : Ct n (tG n H v m) := by
  have s1 := ce n (cU n)
  have s2 : Sm n (iJ n m).1 := iN _ _ _
  have s3 := s2.trans (ce (iJ n m).1 (o5 n H))
  have s4 : Sm n (tQ (ab (iJ n m).1 (o5 n H)).1 H 4) := ⟨s3.id, s3.h⟩
  have hk := r4 (s4.rq h)
  unfold tG
  refine gV (uT h (Sm.refl n) (.cons (by rfl) (.nil _)) (.cons (fun h2 => absurd h2 (by simp [b9])) (.nil _))) (gV (gV (kI h ⟨s1.id, s1.h⟩) (kI h s1)) (gV (kI h s2) (gV (kI h ⟨s2.id, s2.h⟩) (gV (kI h s3) ⟨hk.ok, hk.id.trans s4.id, ?_, fun hr => ?_⟩))))
  · have := hk.ow
    rw [s4.id] at this
    exact this
  · obtain ⟨k1, k2⟩ := hk.kp hr
    rw [s4.id] at k2
    exact ⟨s4.on k1, k2⟩
theorem zq {n : Nd} (h : Rq2 n) {p : Pk} (hf : a6 n p = true) : Ct n (eO n p) := by
  unfold eO
  refine oT (fun _ => AT h _ _ _) (fun k1 => oT (fun _ => w8 h _ _) (fun k2 => oT (fun _ => uN h _) (fun k3 => oT (fun _ => kI h (i9 n _)) (fun k4 => oT (fun _ => Ca h (Sm.refl n) _ (by rfl)) (fun k5 => oT (fun _ => Bq h _ _) (fun k6 => oT (fun _ => ?_) (fun k7 => oT (fun _ => vw h) (fun k8 => oT (fun _ => kI h (by exact ⟨rfl, Or.inl ⟨rfl, rfl, rfl⟩⟩)) (fun k9 => wD h _ ?_)))))))))
  · refine kI h ?_
    unfold eJ
    exact ai (p := fun (x : Nd) => Sm n x) (Sm.refl n) (i9 n _)
  · intro n10 n12 n13
    unfold a6 at hf
    have e10 : (p.kind == 10) = false := by simpa using n10
    have e12 : (p.kind == 12) = false := by simpa using n12
    have e13 : (p.kind == 13) = false := by simpa using n13
    rw [k1, k2, k3, k4, k5, k6, k7, k8, k9, e10, e12, e13] at hf
    cases ha : n.asking with
    | true => rfl
    | false =>
      rw [ha] at hf
      revert hf
      cases (!n.up || decide (p.kind ≥ 2) && decide (p.kind ≤ 7) && decide (p.block ≥ n.store.super.blocks)) <;> cases p.kind == 11 <;> simp
theorem lf {n : Nd} (h : Rq2 n) (b : ByteArray) : Ct n (bb n b) := by
  unfold bb
  refine gV (kI h (Sm.refl n)) (gV (kI h (Sm.refl n)) (oT (fun _ => uT h (Sm.refl n) (.cons (by rfl) (.nil _)) (.cons (fun h2 => absurd h2 (by simp [b9])) (.nil _))) (fun hf => ?_)))
  rw [Bool.or_eq_false_iff] at hf
  exact zq h (nbf hf.2)
end Go.Dm
namespace Go.Dm
open Go
theorem tM (n : Nd) : Ons n.id (dy n) := by
  unfold dy
  cases n.asking
  · exact .nil _
  · exact .cons rfl (.nil _)
structure Ls (n : Nd) (x : Nd × List Ou) : Prop where
  rq : Rq2 x.1
  id : x.1.id = n.id
  ow : Ons n.id x.2
  kp : x.1.req.on = true → n.req.on = true ∧ x.2 = []
theorem E1 {n : Nd} {b : Bool} {x y : Nd × List Ou} (hx : b = true → Ls n x) (hy : b = false → Ls n y) : Ls n (bif b then x else y) := by
  cases b
  · exact hy rfl
  · exact hx rfl
theorem uH {n : Nd} {x : Nd × List Ou} (hq : Rq2 x.1) (hid : x.1.id = n.id) (ho : Ons n.id x.2) (hr : x.1.req.on = false) : Ls n x := ⟨hq, hid, ho, fun h => absurd (hr.symm.trans h) (by simp)⟩
theorem yM {n : Nd} (h : Rq2 n) : Ls n (aj n) := by
  have q0 : Rq2 (eP n) := ⟨fun h => absurd h (by simp [eP, rq0]), fun h => absurd h (by simp [eP])⟩
  have s1 := sh (eP n)
  have o1 : (av (eP n)).1.req.on = false := j9 s1 rfl
  have i1 : (av (eP n)).1.id = n.id := s1.id
  have ha := tM n
  unfold aj
  refine E1 (fun _ => ⟨h, rfl, .nil _, fun h => ⟨h, rfl⟩⟩) (fun _ => E1 (fun _ => uH q0 rfl ha rfl) (fun _ => E1 (fun _ => uH (s1.rq q0) i1 ha o1) (fun _ => uH (s1.rq q0) i1 ?_ o1)))
  exact ha.app (.cons i1 (.nil _))
theorem sy {n : Nd} (h : Rq2 n) (w : Bool) : Ls n ((ct n w).1.1, (ct n w).2) := by
  have h1 := yM h
  unfold ct
  cases hu : n.up with
  | false => exact ⟨h, rfl, .nil _, fun h => ⟨h, rfl⟩⟩
  | true =>
    cases (aj n).1.up
    · exact h1
    · exact h1
def Non (i : Int) (l : List Ou) : Prop := ∀ o ∈ l, o.node ≠ i
theorem Non.nil (i : Int) : Non i [] := fun o h => absurd h (by simp)
theorem Non.app {i : Int} {l m : List Ou} (h : Non i l) (k : Non i m) : Non i (l ++ m) := fun x hx => (List.mem_append.1 hx).elim (h x) (k x)
theorem Ons.non {i j : Int} {l : List Ou} (h : Ons i l) (hij : i ≠ j) : Non j l := fun o ho => by rw [h o ho]; exact hij
theorem Ons.kept {i : Int} {l : List Ou} (h : Ons i l) : Ons i (bi l) := fun o ho => h o (List.mem_filter.1 ho).1
structure Qi (c : Cl) : Prop where
  i0 : c.n0.id = 0
  i1 : c.n1.id = 1
  q0 : Rq2 c.n0
  q1 : Rq2 c.n1
def Nds (l : List Ou) : Prop := ∀ o ∈ l, o.node = 0 ∨ o.node = 1
theorem Nds.nil : Nds [] := fun o h => absurd h (by simp)
theorem Nds.app {l m : List Ou} (h : Nds l) (k : Nds m) : Nds (l ++ m) := fun x hx => (List.mem_append.1 hx).elim (h x) (k x)
theorem Ons.nds {i : Int} {l : List Ou} (h : Ons i l) (hi : i = 0 ∨ i = 1) : Nds l := fun o ho => by rw [h o ho]; exact hi
structure Qt (c d : Cl) (l : List Ou) : Prop where
  ok : Qi d
  nd : Nds l
  k0 : d.n0.req.on = true → c.n0.req.on = true ∧ Non 0 l
  k1 : d.n1.req.on = true → c.n1.req.on = true ∧ Non 1 l
theorem Qt.refl {c : Cl} (h : Qi c) : Qt c c [] := ⟨h, .nil, fun h => ⟨h, .nil _⟩, fun h => ⟨h, .nil _⟩⟩
theorem Qt.trans {a b c : Cl} {l m : List Ou} (h : Qt a b l) (k : Qt b c m) : Qt a c (l ++ m) :=
  ⟨k.ok, h.nd.app k.nd, fun x => ⟨(h.k0 (k.k0 x).1).1, (h.k0 (k.k0 x).1).2.app (k.k0 x).2⟩, fun x => ⟨(h.k1 (k.k1 x).1).1, (h.k1 (k.k1 x).1).2.app (k.k1 x).2⟩⟩
theorem Qi.nodes {c d : Cl} (h : Qi c) (h0 : d.n0 = c.n0) (h1 : d.n1 = c.n1) : Qi d := ⟨by rw [h0]; exact h.i0, by rw [h1]; exact h.i1, by rw [h0]; exact h.q0, by rw [h1]; exact h.q1⟩
theorem Qt.nodes {c d : Cl} (h : Qi c) (h0 : d.n0 = c.n0) (h1 : d.n1 = c.n1) : Qt c d [] := ⟨h.nodes h0 h1, .nil, fun x => ⟨by rw [← h0]; exact x, .nil _⟩, fun x => ⟨by rw [← h1]; exact x, .nil _⟩⟩
theorem qW {c : Cl} (h : Qi c) : Qt c (ez c).1 (ez c).2 := by
  have l0 := sy h.q0 c.w0
  have l1 := sy h.q1 c.w1
  have o0 := l0.ow
  have o1 := l1.ow
  rw [h.i0] at o0
  rw [h.i1] at o1
  refine ⟨⟨l0.id.trans h.i0, l1.id.trans h.i1, l0.rq, l1.rq⟩, (o0.nds (Or.inl rfl)).app (o1.nds (Or.inr rfl)), fun x => ?_, fun x => ?_⟩
  · obtain ⟨k1, k2⟩ := l0.kp x
    refine ⟨k1, ?_⟩
    show Non 0 ((ct c.n0 c.w0).2 ++ (ct c.n1 c.w1).2)
    have k2 : (ct c.n0 c.w0).2 = [] := k2
    rw [k2]
    exact o1.non (by decide)
  · obtain ⟨k1, k2⟩ := l1.kp x
    refine ⟨k1, ?_⟩
    show Non 1 ((ct c.n0 c.w0).2 ++ (ct c.n1 c.w1).2)
    have k2 : (ct c.n1 c.w1).2 = [] := k2
    rw [k2, List.append_nil]
    exact o0.non (by decide)
theorem sO (c : Cl) (i : Int) (n : Nd) (l : List Ou) : (dn c i n l).n0 = (aW c i n).n0 ∧ (dn c i n l).n1 = (aW c i n).n1 := by
  unfold dn
  cases n.up
  · exact ⟨da _ _ _, dh _ _ _⟩
  · exact ⟨rfl, rfl⟩
theorem iT {c : Cl} {i : Int} {n : Nd} {l : List Ou} (h : Qi (aW c i n)) : ∃ m, (bB c i n l).2 = bi l ++ m ∧ Qt (aW c i n) (bB c i n l).1 m := by
  obtain ⟨e0, e1⟩ := sO c i n l
  unfold bB
  cases !(dn c i n l).link.up || n.up && !cP l with
  | true => exact ⟨[], (List.append_nil _).symm, Qt.nodes h e0 e1⟩
  | false =>
    cases cP l with
    | true =>
      have hq : Qi { dn c i n l with w0 := false, w1 := false } := h.nodes e0 e1
      have := (Qt.nodes (d := { dn c i n l with w0 := false, w1 := false }) h e0 e1).trans (qW hq)
      exact ⟨_, rfl, this⟩
    | false =>
      have := (Qt.nodes (d := dn c i n l) h e0 e1).trans (qW (h.nodes e0 e1))
      exact ⟨_, rfl, this⟩
theorem ma (n : Nd) (s : Int) : bi (cM n s).2 = [] := rfl
theorem xp {c : Cl} (h : Qi c) : Qt c (dQ c).1 (dQ c).2 := by
  have hq : Qi (aW c 0 (cM c.n0 c.link.ses).1) := ⟨h.i0, h.i1, ⟨h.q0.q, h.q0.a⟩, h.q1⟩
  obtain ⟨m, h1, h2⟩ := iT (l := (cM c.n0 c.link.ses).2) hq
  rw [ma, List.nil_append] at h1
  unfold dQ
  rw [h1]
  exact ⟨h2.ok, h2.nd, h2.k0, h2.k1⟩
theorem vo {c : Cl} (h : Qi c) : Qt c (f9 c).1 (f9 c).2 := by
  have hq : Qi (aW c 1 (cM c.n1 c.link.ses).1) := ⟨h.i0, h.i1, h.q0, ⟨h.q1.q, h.q1.a⟩⟩
  obtain ⟨m, h1, h2⟩ := iT (l := (cM c.n1 c.link.ses).2) hq
  rw [ma, List.nil_append] at h1
  unfold f9
  rw [h1]
  exact ⟨h2.ok, h2.nd, h2.k0, h2.k1⟩
theorem qB {c : Cl} (h : Qi c) (i : Int) : Qt c (dk c i).1 (dk c i).2 := by
  have hp : Qt c (aB c i true) [] := Qt.nodes h (da _ _ _) (dh _ _ _)
  unfold dk
  cases !(bZ c i).up with
  | true => exact Qt.refl h
  | false =>
    cases !AD (aB c i true) (1 - i) || !(bZ c (1 - i)).up || c.link.up with
    | true => exact hp
    | false =>
      have ho : Qt c { aB c i true with link := b6 c.link } [] := Qt.nodes h (da _ _ _) (dh _ _ _)
      have h0 := xp ho.ok
      have h1 := vo h0.ok
      exact (ho.trans (h0.trans h1))
theorem vb {c : Cl} (h : Qi c) : Qt c (yT c).1 (yT c).2 := by
  unfold yT
  cases !c.link.up
  · exact qW h
  · exact Qt.refl h
end Go.Dm
namespace Go.Dm
open Go
structure Wv1 (e : Evt) (i : Int) (n m : Nd) (l : List Ou) : Prop where
  kp : m.req.on = true → (n.req.on = true ∧ (e.kind = 4 ∨ Nok i l)) ∨ (e.kind = 5 ∧ e.node = i ∧ Non i l)
structure Wv2 (e : Evt) (c d : Cl) (l : List Ou) : Prop where
  ok : Qi d
  nd : Nds l
  e0 : Wv1 e 0 c.n0 d.n0 l
  e1 : Wv1 e 1 c.n1 d.n1 l
theorem Non.nok {i : Int} {l : List Ou} (h : Non i l) : Nok i l := fun o ho _ _ => h o ho
theorem Qt.ev {e : Evt} {c d : Cl} {l : List Ou} (h : Qt c d l) : Wv2 e c d l :=
  ⟨h.ok, h.nd, ⟨fun x => Or.inl ⟨(h.k0 x).1, Or.inr (h.k0 x).2.nok⟩⟩, ⟨fun x => Or.inl ⟨(h.k1 x).1, Or.inr (h.k1 x).2.nok⟩⟩⟩
theorem Nok.kept {i : Int} {l : List Ou} (h : Nok i l) : Nok i (bi l) := fun o ho => h o (List.mem_filter.1 ho).1
theorem nQ {e : Evt} {c : Cl} {i : Int} {n : Nd} {l : List Ou} (h : Qi c) (hi : i = 0 ∨ i = 1) (hq : Rq2 n) (hid : n.id = (bZ c i).id) (ho : Ons i l)
    (hk : n.req.on = true → ((bZ c i).req.on = true ∧ (e.kind = 4 ∨ Nok i (bi l))) ∨ (e.kind = 5 ∧ e.node = i ∧ Non i (bi l))) : Wv2 e c (bB c i n l).1 (bB c i n l).2 := by
  rcases hi with rfl | rfl
  · have hQ : Qi (aW c 0 n) := ⟨hid.trans h.i0, h.i1, hq, h.q1⟩
    obtain ⟨m, h1, h2⟩ := iT (l := l) hQ
    rw [h1]
    refine ⟨h2.ok, (ho.kept.nds (Or.inl rfl)).app h2.nd, ⟨fun x => ?_⟩, ⟨fun x => ?_⟩⟩
    · obtain ⟨k1, k2⟩ := h2.k0 x
      rcases hk k1 with ⟨a, b⟩ | ⟨a, b, d⟩
      · refine Or.inl ⟨a, b.imp id fun b => b.app k2.nok⟩
      · exact Or.inr ⟨a, b, d.app k2⟩
    · obtain ⟨k1, k2⟩ := h2.k1 x
      exact Or.inl ⟨k1, Or.inr ((ho.kept.non (by decide)).app k2).nok⟩
  · have hQ : Qi (aW c 1 n) := ⟨h.i0, hid.trans h.i1, h.q0, hq⟩
    obtain ⟨m, h1, h2⟩ := iT (l := l) hQ
    rw [h1]
    refine ⟨h2.ok, (ho.kept.nds (Or.inr rfl)).app h2.nd, ⟨fun x => ?_⟩, ⟨fun x => ?_⟩⟩
    · obtain ⟨k1, k2⟩ := h2.k0 x
      exact Or.inl ⟨k1, Or.inr ((ho.kept.non (by decide)).app k2).nok⟩
    · obtain ⟨k1, k2⟩ := h2.k1 x
      rcases hk k1 with ⟨a, b⟩ | ⟨a, b, d⟩
      · refine Or.inl ⟨a, b.imp id fun b => b.app k2.nok⟩
      · exact Or.inr ⟨a, b, d.app k2⟩
theorem Qi.at {c : Cl} (h : Qi c) {i : Int} (hi : i = 0 ∨ i = 1) : (bZ c i).id = i ∧ Rq2 (bZ c i) := by
  rcases hi with rfl | rfl
  · exact ⟨h.i0, h.q0⟩
  · exact ⟨h.i1, h.q1⟩
theorem fR {e : Evt} {c : Cl} {i : Int} {x : Nd × List Ou} (h : Qi c) (hi : i = 0 ∨ i = 1) (hx : Ct (bZ c i) x) : Wv2 e c (bB c i x.1 x.2).1 (bB c i x.1 x.2).2 := by
  have ha := h.at hi
  have ho := hx.ow
  rw [ha.1] at ho
  refine nQ h hi hx.ok hx.id ho fun y => ?_
  obtain ⟨k1, k2⟩ := hx.kp y
  rw [ha.1] at k2
  exact Or.inl ⟨k1, Or.inr k2.kept⟩
structure Wt (n : Nd) (x : Nd × List Ou) : Prop where
  rq : Rq2 x.1
  id : x.1.id = n.id
  ow : Ons n.id x.2
  kp : x.1.req.on = true → (n.req.on = true ∧ Nok n.id (bi x.2)) ∨ Non n.id (bi x.2)
theorem Wt.of {n : Nd} {x : Nd × List Ou} (h : Ct n x) : Wt n x := ⟨h.ok, h.id, h.ow, fun y => Or.inl ⟨(h.kp y).1, (h.kp y).2.kept⟩⟩
theorem Cx {n : Nd} {b : Bool} {x y : Nd × List Ou} (hx : b = true → Wt n x) (hy : b = false → Wt n y) : Wt n (bif b then x else y) := by
  cases b
  · exact hy rfl
  · exact hx rfl
theorem rF {n m : Nd} {l : List Ou} (hq : Rq2 n) (hs : Sm n m) (ho : Ons n.id l) (hn : n.req.on = false) : Ct n (m, l) := kA (hs.rq hq) hs.id ho (j9 hs hn)
theorem mD {n : Nd} {s : So} {e : Int} (h : (dD n s e).2 = true) : (dD n s e).1 = { n with store := s } := by
  revert h
  unfold dD
  cases !(e == 0)
  · exact fun _ => rfl
  · exact fun h => absurd h (by simp)
theorem wi {n : Nd} {b : Int} {x : ByteArray} (h : (fj n b x).2 = true) : (fj n b x).1.primary = n.primary ∧ (fj n b x).1.asking = n.asking := by
  revert h
  unfold fj
  cases h1 : (cX n b).2 with
  | false => exact fun h => absurd h (by simp)
  | true =>
    intro h
    have h : (dD (cX n b).1 (ft (cX n b).1.store b x).1 (ft (cX n b).1.store b x).2).2 = true := h
    have e1 : (cX n b).1 = { n with store := (gR n.store b).1 } := mD h1
    have e2 := mD h
    show (dD (cX n b).1 (ft (cX n b).1.store b x).1 (ft (cX n b).1.store b x).2).1.primary = _ ∧ (dD (cX n b).1 (ft (cX n b).1.store b x).1 (ft (cX n b).1.store b x).2).1.asking = _
    rw [e2, e1]
    exact ⟨rfl, rfl⟩
theorem pe {n : Nd} (h : Rq2 n) (hn : n.req.on = false) (hp : n.primary = true) (id b : Int) (x : ByteArray) : Wt n (ca n id b x) := by
  have hs := wb n b x
  have hid : (fj n b x).1.id = n.id := hs.id
  unfold ca
  refine Cx (fun _ => .of (rF h hs (.nil _) hn)) (fun hl => Cx (fun _ => .of (rF h hs (.cons hid (.nil _)) hn)) (fun _ => ?_))
  obtain ⟨h3, h2⟩ := wi (by simpa using hl)
  refine ⟨⟨fun _ => h3.trans hp, fun ha => ?_⟩, hid, .cons hid (.nil _), fun _ => Or.inr (.nil _)⟩
  have ha : (fj n b x).1.asking = true := ha
  rw [h2] at ha
  exact absurd (h.a ha) (by rw [hp]; simp)
theorem nY {n : Nd} {b : Su} (h : (ab n b).2 = true) : (ab n b).1.primary = n.primary := by
  revert h
  unfold ab
  cases !((bS n.store b).2 == 0)
  · exact fun _ => rfl
  · exact fun h => absurd h (by simp)
theorem t5 {n : Nd} (hz : (av n).2 = 0) : (av n).1.primary = n.primary := by
  revert hz
  unfold av
  cases n.draws with
  | nil => exact fun h => absurd h (show (14 : Int) ≠ 0 by decide)
  | cons g r =>
    show (fU n g r).2 = 0 → (fU n g r).1.primary = n.primary
    unfold fU
    cases g == 0 with
    | true => exact fun h => absurd h (by simp)
    | false =>
      cases h1 : (ab (jr n g r) (mv n g)).2 with
      | false => exact fun h => absurd h (by simp)
      | true => exact fun _ => nY h1
theorem vZ {n : Nd} (h : Rq2 n) (id b : Int) (x : ByteArray) : Wt n (bJ n id b x) := by
  unfold bJ
  refine Cx (fun hb => .of (fp h _ _ _ (by simpa using hb))) (fun hb => ?_)
  obtain ⟨hu, hp, hn⟩ := lK (nbf hb)
  have hs := sh n
  have hi : (av n).1.id = n.id := hs.id
  have w2 := pe h hn hp id b x
  refine Cx (fun _ => Cx (fun _ => .of (rF h hs (.nil _) hn)) (fun k6 => Cx (fun _ => .of (rF h hs (.cons hi (.nil _)) hn)) (fun k0 => ?_))) (fun _ => w2)
  have w3 := pe (hs.rq h) (j9 hs hn) ((t5 (by simpa using k0)).trans hp) id b x
  refine ⟨w3.rq, w3.id.trans hi, ?_, fun y => ?_⟩
  · have := w3.ow; rw [hi] at this; exact this
  · have := w3.kp y
    rw [hi] at this
    rcases this with ⟨a, _⟩ | a
    · exact absurd (hs.on a) (by rw [hn]; simp)
    · exact Or.inr a
theorem yq (n : Nd) (id b : Int) : (eF n id b).1 = n := by
  unfold eF
  exact ai (p := fun (x : Nd × List Ou) => x.1 = n) rfl (ai (p := fun (x : Nd × List Ou) => x.1 = n) rfl rfl)
theorem xF (n : Nd) (id b : Int) : Ons n.id (eF n id b).2 := by
  unfold eF
  exact ai (p := fun (x : Nd × List Ou) => Ons n.id x.2) (.cons rfl (.nil _)) (ai (p := fun (x : Nd × List Ou) => Ons n.id x.2) (.cons rfl (.nil _)) (.cons rfl (.nil _)))
theorem io {n : Nd} (h : Rq2 n) (ks : List Bool) : Rq2 (bF n ks).1 ∧ (bF n ks).1.id = n.id ∧ ((bF n ks).1.req.on = true → n.req.on = true ∧ (bF n ks).2 ≠ 0) := by
  unfold bF
  cases n.up with
  | true => exact ⟨h, rfl, fun x => ⟨x, show (7 : Int) ≠ 0 by decide⟩⟩
  | false =>
    cases ha : !((bh (bV n.store.disk ks)).2 == 0) with
    | true => exact ⟨⟨h.q, h.a⟩, rfl, fun x => ⟨x, by simpa using ha⟩⟩
    | false => exact ⟨⟨fun x => absurd x (by simp [rq0]), fun x => absurd x (by simp)⟩, rfl, fun x => absurd x (by simp [rq0])⟩
theorem vP (n : Nd) (k : Int) : Sm n (dq n k) := by
  unfold dq
  cases n.up
  · exact Sm.refl n
  · exact ⟨rfl, Or.inl ⟨rfl, rfl, rfl⟩⟩
theorem zI (n : Nd) (k : Int) : Sm n (fg n k) := by
  unfold fg
  cases decide ((n.draws.length : Int) < 1000)
  · exact Sm.refl n
  · exact ⟨rfl, Or.inl ⟨rfl, rfl, rfl⟩⟩
theorem nm {e : Evt} {c : Cl} {i : Int} {n : Nd} {l : List Ou} (h : Qi c) (hi : i = 0 ∨ i = 1) (hq : Rq2 n) (hid : n.id = (bZ c i).id) (ho : Ons i l)
    (hk : n.req.on = true → (bZ c i).req.on = true ∧ Nok i l) : Wv2 e c (aW c i n) l := by
  rcases hi with rfl | rfl
  · exact ⟨⟨hid.trans h.i0, h.i1, hq, h.q1⟩, ho.nds (Or.inl rfl), ⟨fun x => Or.inl ⟨(hk x).1, Or.inr (hk x).2⟩⟩, ⟨fun x => Or.inl ⟨x, Or.inr (ho.non (by decide)).nok⟩⟩⟩
  · exact ⟨⟨h.i0, hid.trans h.i1, h.q0, hq⟩, ho.nds (Or.inr rfl), ⟨fun x => Or.inl ⟨x, Or.inr (ho.non (by decide)).nok⟩⟩, ⟨fun x => Or.inl ⟨(hk x).1, Or.inr (hk x).2⟩⟩⟩
theorem p7 {e : Evt} {c : Cl} {b : Bool} {x y : Cl × List Ou} (hx : b = true → Wv2 e c x.1 x.2) (hy : b = false → Wv2 e c y.1 y.2) : Wv2 e c (bif b then x else y).1 (bif b then x else y).2 := by
  cases b
  · exact hy rfl
  · exact hx rfl
theorem BW {e : Evt} {c : Cl} (h : Qi c) {i : Int} (hi : i = 0 ∨ i = 1) (hn : e.node = i) : Wv2 e c (rV c e i (bZ c i)).1 (rV c e i (bZ c i)).2 := by
  obtain ⟨hid, hq⟩ := h.at hi
  have r0 : Wv2 e c c [] := (Qt.refl h).ev
  unfold rV
  refine p7 (fun _ => fR h hi (qV hq _)) (fun _ => p7 (fun _ => fR h hi (tn hq _)) (fun _ => p7 (fun _ => fR h hi (qU hq _)) (fun _ => p7 (fun h4 => ?_) (fun _ => p7 (fun h5 => ?_) (fun _ =>
    p7 (fun _ => (qB h i).ev) (fun _ => p7 (fun _ => ?_) (fun _ => p7 (fun _ => (vb h).ev) (fun _ => p7 (fun _ => ?_) (fun _ => p7 (fun _ => p7 (fun _ => r0) (fun _ => fR (x := (fQ (bZ c i), [])) h hi (kI hq (qG rfl)))) (fun _ =>
    p7 (fun _ => ?_) (fun _ => p7 (fun _ => fR (x := (dq (bZ c i) e.n, [])) h hi (kI hq (vP _ _))) (fun _ => p7 (fun _ => ?_) (fun _ => p7 (fun _ => p7 (fun _ => r0) (fun _ => fR h hi (lf hq _))) (fun _ => r0))))))))))))))
  · have e1 := yq (bZ c i) e.id e.block
    have ow := xF (bZ c i) e.id e.block
    rw [hid] at ow
    refine nQ h hi (by rw [e1]; exact hq) (by rw [e1]) ow fun x => Or.inl ⟨by rw [e1] at x; exact x, Or.inl (eq_of_beq h4)⟩
  · have w := vZ hq e.id e.block e.data
    have ow := w.ow
    rw [hid] at ow
    refine nQ h hi w.rq w.id ow fun x => ?_
    have := w.kp x
    rw [hid] at this
    rcases this with ⟨a, b⟩ | b
    · exact Or.inl ⟨a, Or.inr b⟩
    · exact Or.inr ⟨eq_of_beq h5, hn, b⟩
  · have hp : Qt c (aB c i false) [] := Qt.nodes h (da _ _ _) (dh _ _ _)
    exact (hp.trans (vb hp.ok)).ev
  · unfold sa
    refine p7 (fun _ => r0) (fun _ => ?_)
    have hq' : Qi { c with link := (df c.link i).2.1 } := h.nodes rfl rfl
    have := fR (e := e) (c := { c with link := (df c.link i).2.1 }) hq' hi (lf hq (df c.link i).1)
    exact ⟨this.ok, this.nd, this.e0, this.e1⟩
  · obtain ⟨h1, h2, h3⟩ := io hq e.keeps
    refine nm h hi h1 h2 (.cons (by show (bF (bZ c i) e.keeps).1.id = i; rw [h2, hid]) (.nil _)) fun x => ⟨(h3 x).1, .cons (fun _ => (h3 x).2) (.nil _)⟩
  · have hs := zI (bZ c i) e.n
    exact nm h hi (hs.rq hq) hs.id (.nil _) fun x => ⟨hs.on x, .nil _⟩
theorem zO {e : Evt} {c : Cl} (h : Qi c) : Wv2 e c (doM c e).1 (doM c e).2 := by
  unfold doM
  cases hb : !(e.node == 0) && !(e.node == 1) with
  | true => exact (Qt.refl h).ev
  | false =>
    have hi : e.node = 0 ∨ e.node = 1 := by
      simp only [Bool.and_eq_false_iff, Bool.not_eq_false', beq_iff_eq] at hb
      exact hb
    exact BW h hi rfl
end Go.Dm
namespace Go.Dm
open Go
structure J2 (Q R : Prop) (c : Cl) : Prop where
  j0 : IP Q c.n0
  j1 : IP R c.n1
theorem J2.nodes {Q R : Prop} {c d : Cl} (h : J2 Q R c) (h0 : d.n0 = c.n0) (h1 : d.n1 = c.n1) : J2 Q R d := ⟨by rw [h0]; exact h.j0, by rw [h1]; exact h.j1⟩
theorem ra {Q R : Prop} {c : Cl} (h : J2 Q R c) : J2 Q R (ez c).1 := ⟨sG h.j0 _, sG h.j1 _⟩
theorem lp {Q R : Prop} {c : Cl} {i : Int} {n : Nd} {l : List Ou} (h : J2 Q R (aW c i n)) : J2 Q R (bB c i n l).1 := by
  obtain ⟨e0, e1⟩ := sO c i n l
  have h1 : J2 Q R (dn c i n l) := h.nodes e0 e1
  unfold bB
  refine ai (p := fun (x : Cl × List Ou) => J2 Q R x.1) h1 (ai (p := fun (x : Cl × List Ou) => J2 Q R x.1) ?_ (ra h1))
  exact ra (c := { dn c i n l with w0 := false, w1 := false }) (h.nodes e0 e1)
def Qof (Q R : Prop) (i : Int) : Prop := if i = 0 then Q else R
theorem J2.at {Q R : Prop} {c : Cl} (h : J2 Q R c) {i : Int} (hi : i = 0 ∨ i = 1) : IP (Qof Q R i) (bZ c i) := by
  rcases hi with rfl | rfl
  · exact h.j0
  · exact h.j1
theorem J2.put {Q R : Prop} {c : Cl} (h : J2 Q R c) {i : Int} (hi : i = 0 ∨ i = 1) {n : Nd} (hn : IP (Qof Q R i) n) : J2 Q R (aW c i n) := by
  rcases hi with rfl | rfl
  · exact ⟨hn, h.j1⟩
  · exact ⟨h.j0, hn⟩
theorem wG {Q R : Prop} {c : Cl} (h : J2 Q R c) : J2 Q R (dQ c).1 := lp (J2.put h (Or.inl rfl) (h.j0.same rfl rfl))
theorem xe {Q R : Prop} {c : Cl} (h : J2 Q R c) : J2 Q R (f9 c).1 := lp (J2.put h (Or.inr rfl) (h.j1.same rfl rfl))
theorem ru {Q R : Prop} {c : Cl} (h : J2 Q R c) (i : Int) : J2 Q R (dk c i).1 := by
  have hp : J2 Q R (aB c i true) := h.nodes (da _ _ _) (dh _ _ _)
  unfold dk
  refine ai (p := fun (x : Cl × List Ou) => J2 Q R x.1) h (ai (p := fun (x : Cl × List Ou) => J2 Q R x.1) hp ?_)
  have ho : J2 Q R { aB c i true with link := b6 c.link } := h.nodes (da _ _ _) (dh _ _ _)
  exact xe (wG ho)
theorem vI {Q R : Prop} {c : Cl} (h : J2 Q R c) : J2 Q R (yT c).1 := by
  unfold yT
  exact ai (p := fun (x : Cl × List Ou) => J2 Q R x.1) h (ra h)
theorem v8 {Q : Prop} {n : Nd} (h : IP Q n) (k : Int) : IP Q (dq n k) := by
  unfold dq
  exact ai (p := fun (x : Nd) => IP Q x) ⟨h.d.same rfl rfl, h.s⟩ h
theorem yD {Q : Prop} {n : Nd} (h : IP Q n) (k : Int) : IP Q (fg n k) := by
  unfold fg
  cases decide ((n.draws.length : Int) < 1000)
  · exact h
  · exact h.same rfl rfl
theorem Bk {Q R : Prop} {e : Evt} {c : Cl} (h : J2 Q R c) {i : Int} (hi : i = 0 ∨ i = 1) (hs : (bZ c i).state = 1 → Qof Q R i) : J2 Q R (rV c e i (bZ c i)).1 := by
  have hn := h.at hi
  have aft : ∀ (c' : Cl) {n : Nd} {l : List Ou}, J2 Q R c' → IP (Qof Q R i) n → J2 Q R (bB c' i n l).1 := fun c' n l hc h' => lp (hc.put hi h')
  have cc : ∀ {b : Bool} {x y : Cl × List Ou}, J2 Q R x.1 → J2 Q R y.1 → J2 Q R (bif b then x else y).1 := fun {b} {x y} hx hy => ai (p := fun (x : Cl × List Ou) => J2 Q R x.1) hx hy
  unfold rV
  refine cc (aft c h (qH hn _)) (cc (aft c h (s9 hn _)) (cc (aft c h (qx hn _)) (cc (aft c h (wz hn _ _)) (cc (aft c h (xD hn _ _ _)) (cc (ru h i) (cc (vI (h.nodes (da _ _ _) (dh _ _ _)))
    (cc (vI h) (cc ?_ (cc (cc h (aft c h (IP.down hn.d))) (cc (h.put hi (iq hn _)) (cc (aft c h (v8 hn _)) (cc (h.put hi (yD hn _)) (cc (cc h (aft c h (lG hn hs _))) h)))))))))))))
  unfold sa
  exact cc h (aft { c with link := (df c.link i).2.1 } (h.nodes rfl rfl) (lG hn hs _))
theorem CR {Q R : Prop} {e : Evt} {c : Cl} (h : J2 Q R c) (h0 : c.n0.state = 1 → Q) (h1 : c.n1.state = 1 → R) : J2 Q R (doM c e).1 := by
  unfold doM
  cases hb : !(e.node == 0) && !(e.node == 1) with
  | true => exact h
  | false =>
    have hi : e.node = 0 ∨ e.node = 1 := by
      simp only [Bool.and_eq_false_iff, Bool.not_eq_false', beq_iff_eq] at hb
      exact hb
    refine Bk h hi ?_
    rcases hi with hi | hi
    · rw [hi]; exact h0
    · rw [hi]; exact h1
end Go.Dm
namespace Go.Dm
open Go
structure VL (N : Nat) (v : Vl) : Prop where
  a : v.acked.length = N
  b : v.begun.length = N
  l : v.last.length = N
structure VW (C : Int) (M : Nat) (v : Vl) : Prop where
  l : ∀ x ∈ v.last, x ≤ C
  b : ∀ x ∈ v.begun, x.length ≤ M
theorem VW.mono {C D : Int} {M L : Nat} {v : Vl} (h : VW C M v) (hc : C ≤ D) (hm : M ≤ L) : VW D L v := ⟨fun x hx => Int.le_trans (h.l x hx) hc, fun x hx => Nat.le_trans (h.b x hx) hm⟩
theorem qJ {α : Type} {l : List α} {i : Nat} {x y : α} (h : y ∈ l.set i x) : y ∈ l ∨ y = x := List.mem_or_eq_of_mem_set h
theorem wL {N M : Nat} {C : Int} {v : Vl} (h : VL N v) (w : VW C M v) (b : Int) (x : ByteArray) : VL N (f7 v b x) ∧ VW C (M + 1) (f7 v b x) := by
  unfold f7
  cases ge v b with
  | false => exact ⟨h, w.mono (Int.le_refl _) (Nat.le_succ _)⟩
  | true =>
    refine ⟨⟨h.a, ?_, h.l⟩, ⟨w.l, fun y hy => ?_⟩⟩
    · show (v.begun.set _ _).length = N
      rw [List.length_set]; exact h.b
    · rcases qJ hy with hy | rfl
      · exact Nat.le_trans (w.b y hy) (Nat.le_succ _)
      · rw [List.length_append]
        have : (v.begun.getD b.toNat []).length ≤ M := by
          rw [List.getD_eq_getElem?_getD]
          cases hg : v.begun[b.toNat]? with
          | none => exact Nat.zero_le _
          | some z => exact w.b z (List.mem_of_getElem? hg)
        simp only [List.length_cons, List.length_nil]
        omega
theorem BM {N M : Nat} {C : Int} {v : Vl} (h : VL N v) (w : VW C M v) (r : Rq) : VL N (uB v r C) ∧ VW C M (uB v r C) := by
  unfold uB
  cases ge v r.block with
  | false => exact ⟨h, w⟩
  | true =>
    refine ⟨⟨?_, ?_, ?_⟩, ⟨fun y hy => ?_, fun y hy => ?_⟩⟩
    · show (v.acked.set _ _).length = N
      rw [List.length_set]; exact h.a
    · show (v.begun.set _ _).length = N
      rw [List.length_set]; exact h.b
    · show (v.last.set _ _).length = N
      rw [List.length_set]; exact h.l
    · rcases qJ hy with hy | rfl
      · exact w.l y hy
      · exact Int.le_refl _
    · rcases qJ hy with hy | rfl
      · exact w.b y hy
      · exact Nat.zero_le _
structure Mg (N M : Nat) (m : Mm) : Prop where
  v0 : VL N m.n0
  v1 : VL N m.n1
  h0 : m.h0 = true → VL N m.s0
  h1 : m.h1 = true → VL N m.s1
  w0 : VW m.count M m.n0
  w1 : VW m.count M m.n1
  x0 : VW m.count M m.s0
  x1 : VW m.count M m.s1
  c : 0 ≤ m.count
  u : 0 ≤ m.lost
theorem zR (m : Mm) (p : Int) (v : Vl) : (uq m p v).count = m.count ∧ (uq m p v).lost = m.lost ∧ (uq m p v).s0 = m.s0 ∧ (uq m p v).s1 = m.s1 ∧ (uq m p v).h0 = m.h0 ∧ (uq m p v).h1 = m.h1 ∧ (uq m p v).w0 = m.w0 ∧ (uq m p v).w1 = m.w1 := by
  unfold uq
  cases p == 0 <;> exact ⟨rfl, rfl, rfl, rfl, rfl, rfl, rfl, rfl⟩
theorem Mg.put {N M : Nat} {m : Mm} (h : Mg N M m) (p : Int) {v : Vl} (hv : VL N v) (hw : VW m.count M v) : Mg N M (uq m p v) := by
  unfold uq
  cases p == 0
  · exact ⟨h.v0, hv, h.h0, h.h1, h.w0, hw, h.x0, h.x1, h.c, h.u⟩
  · exact ⟨hv, h.v1, h.h0, h.h1, hw, h.w1, h.x0, h.x1, h.c, h.u⟩
theorem Mg.of {N M : Nat} {m : Mm} (h : Mg N M m) (p : Int) : VL N (vof m p) ∧ VW m.count M (vof m p) := by
  unfold vof
  cases p == 0
  · exact ⟨h.v1, h.w1⟩
  · exact ⟨h.v0, h.w0⟩
theorem Mg.up {N M L : Nat} {m : Mm} (h : Mg N M m) (hm : M ≤ L) : Mg N L m :=
  ⟨h.v0, h.v1, h.h0, h.h1, h.w0.mono (Int.le_refl _) hm, h.w1.mono (Int.le_refl _) hm, h.x0.mono (Int.le_refl _) hm, h.x1.mono (Int.le_refl _) hm, h.c, h.u⟩
theorem gy {N M : Nat} {m : Mm} (h : Mg N M m) (p : Int) (e : Evt) : Mg N (M + 1) (co m p e) := by
  obtain ⟨hv, hw⟩ := h.of p
  obtain ⟨a, b⟩ := wL hv hw e.block e.data
  exact (h.up (Nat.le_succ _)).put p a b
theorem se (m : Mm) (p : Int) (e : Evt) : (co m p e).count = m.count ∧ (co m p e).lost = m.lost ∧ (co m p e).s0 = m.s0 ∧ (co m p e).s1 = m.s1 ∧ (co m p e).h0 = m.h0 ∧ (co m p e).h1 = m.h1 ∧ (co m p e).w0 = m.w0 ∧ (co m p e).w1 = m.w1 := zR _ _ _
theorem vM {N M : Nat} {m : Mm} (h : Mg N M m) (c : Cl) (e : Evt) : Mg N (M + 2) (eK m c e) := by
  unfold eK
  cases c.link.up
  · exact (gy h _ e).up (Nat.le_succ _)
  · exact gy (gy h _ e) _ e
theorem nN (m : Mm) (c : Cl) (e : Evt) : (eK m c e).count = m.count ∧ (eK m c e).lost = m.lost ∧ (eK m c e).s0 = m.s0 ∧ (eK m c e).s1 = m.s1 ∧ (eK m c e).w0 = m.w0 ∧ (eK m c e).w1 = m.w1 := by
  unfold eK
  obtain ⟨a1, a2, a3, a4, _, _, a7, a8⟩ := se m e.node e
  cases c.link.up
  · exact ⟨a1, a2, a3, a4, a7, a8⟩
  · obtain ⟨b1, b2, b3, b4, _, _, b7, b8⟩ := se (co m e.node e) (1 - e.node) e
    exact ⟨b1.trans a1, b2.trans a2, b3.trans a3, b4.trans a4, b7.trans a7, b8.trans a8⟩
theorem Mg.w {N M : Nat} {m : Mm} (h : Mg N M m) (p : Int) (r : Rq) : Mg N M (oU m p r) := by
  unfold oU
  cases p == 0
  · exact ⟨h.v0, h.v1, h.h0, h.h1, h.w0, h.w1, h.x0, h.x1, h.c, h.u⟩
  · exact ⟨h.v0, h.v1, h.h0, h.h1, h.w0, h.w1, h.x0, h.x1, h.c, h.u⟩
theorem v4 (m : Mm) (p : Int) (r : Rq) : (oU m p r).count = m.count ∧ (oU m p r).lost = m.lost ∧ (oU m p r).s0 = m.s0 ∧ (oU m p r).s1 = m.s1 := by
  unfold oU
  cases p == 0 <;> exact ⟨rfl, rfl, rfl, rfl⟩
theorem pi {N M : Nat} {m : Mm} (h : Mg N M m) (c : Cl) (e : Evt) (l : List Ou) : Mg N (M + 2) (bk m c e l) := by
  unfold bk
  exact ai (p := fun (x : Mm) => Mg N (M + 2) x) (h.up (by omega)) ((vM h c e).w _ _)
theorem sw (m : Mm) (c : Cl) (e : Evt) (l : List Ou) : (bk m c e l).count = m.count ∧ (bk m c e l).lost = m.lost ∧ (bk m c e l).s0 = m.s0 ∧ (bk m c e l).s1 = m.s1 := by
  unfold bk
  obtain ⟨a1, a2, a3, a4⟩ := v4 (eK m c e) e.node ⟨true, e.id, e.block, e.data⟩
  obtain ⟨b1, b2, b3, b4, _⟩ := nN m c e
  exact ai (p := fun (x : Mm) => x.count = m.count ∧ x.lost = m.lost ∧ x.s0 = m.s0 ∧ x.s1 = m.s1) ⟨rfl, rfl, rfl, rfl⟩ ⟨a1.trans b1, a2.trans b2, a3.trans b3, a4.trans b4⟩
theorem nV {N M : Nat} {m : Mm} (h : Mg N M m) (p : Int) (r : Rq) : Mg N M (iE m p r) := by
  obtain ⟨hv, hw⟩ := h.of p
  obtain ⟨a, b⟩ := BM hv hw r
  exact h.put p a b
theorem kX {N M : Nat} {m : Mm} (h : Mg N M m) (hc : m.count < 1000000) (p : Int) : Mg N M (cV m p) ∧ (cV m p).count = m.count + 1 := by
  have e : IntKind.wrap .i64 (m.count + 1) = m.count + 1 := cI (by have := h.c; omega) (by omega)
  have hw := h.w p rq0
  obtain ⟨n1, n2, n3, n4⟩ := v4 m p rq0
  have l1 : (oU m p rq0).count ≤ m.count + 1 := by rw [n1]; omega
  refine ⟨⟨hw.v0, hw.v1, hw.h0, hw.h1, ?_, ?_, ?_, ?_, ?_, hw.u⟩, e⟩
  · show VW (IntKind.wrap .i64 (m.count + 1)) M _; rw [e]; exact hw.w0.mono l1 (Nat.le_refl _)
  · show VW (IntKind.wrap .i64 (m.count + 1)) M _; rw [e]; exact hw.w1.mono l1 (Nat.le_refl _)
  · show VW (IntKind.wrap .i64 (m.count + 1)) M _; rw [e]; exact hw.x0.mono l1 (Nat.le_refl _)
  · show VW (IntKind.wrap .i64 (m.count + 1)) M _; rw [e]; exact hw.x1.mono l1 (Nat.le_refl _)
  · show 0 ≤ IntKind.wrap .i64 (m.count + 1); rw [e]; have := h.c; omega
theorem mA (m : Mm) (p : Int) (r : Rq) : (iE m p r).count = m.count ∧ (iE m p r).lost = m.lost ∧ (iE m p r).s0 = m.s0 ∧ (iE m p r).s1 = m.s1 ∧ (iE m p r).h0 = m.h0 ∧ (iE m p r).h1 = m.h1 ∧ (iE m p r).w0 = m.w0 ∧ (iE m p r).w1 = m.w1 := zR _ _ _
structure Mst (N M : Nat) (m x : Mm) (k : Nat) : Prop where
  g : Mg N M x
  c1 : m.count ≤ x.count
  c2 : x.count ≤ m.count + k
  u : x.lost = m.lost
  s0 : x.s0 = m.s0
  s1 : x.s1 = m.s1
theorem m7 {N M : Nat} {m : Mm} (h : Mg N M m) (hc : m.count < 1000000) (e : Evt) (o : Ou) : Mst N M m (a5 e m o) 1 := by
  obtain ⟨a, b⟩ := kX h hc o.node
  obtain ⟨n1, n2, n3, n4⟩ := v4 m o.node rq0
  have k1 := nV a o.node (wof m o.node)
  obtain ⟨p1, p2, p3, p4, _⟩ := mA (cV m o.node) o.node (wof m o.node)
  have k2 := nV k1 (1 - o.node) (wof m o.node)
  obtain ⟨q1, q2, q3, q4, _⟩ := mA (iE (cV m o.node) o.node (wof m o.node)) (1 - o.node) (wof m o.node)
  have r1 : Mst N M m (iE (cV m o.node) o.node (wof m o.node)) 1 := ⟨k1, by rw [p1, b]; omega, by rw [p1, b]; omega, p2.trans n2, p3.trans n3, p4.trans n4⟩
  unfold a5
  exact ai (p := fun (x : Mm) => Mst N M m x 1) ⟨h, by omega, by omega, rfl, rfl, rfl⟩ (ai (p := fun (x : Mm) => Mst N M m x 1) ⟨k2, by rw [q1]; exact r1.c1, by rw [q1]; exact r1.c2, q2.trans r1.u, q3.trans r1.s0, q4.trans r1.s1⟩ r1)
theorem jM {N M : Nat} (e : Evt) : ∀ (l : List Ou) {m : Mm}, Mg N M m → m.count + l.length < 1000000 → Mst N M m (l.foldl (a5 e) m) l.length
  | [], m, h, _ => ⟨h, by simp, by simp, rfl, rfl, rfl⟩
  | o :: l, m, h, hc => by
    simp only [List.length_cons] at hc ⊢
    have h1 := m7 h (by omega) e o
    have c2 := h1.c2
    have c1 := h1.c1
    have h2 := jM e l h1.g (by omega)
    have d1 := h2.c1
    have d2 := h2.c2
    rw [List.foldl_cons]
    exact ⟨h2.g, by omega, by omega, h2.u.trans h1.u, h2.s0.trans h1.s0, h2.s1.trans h1.s1⟩
end Go.Dm
namespace Go.Dm
open Go
theorem vO (m : Mm) (e : Evt) (o : Ou) (h : e.kind = 4 ∨ ¬ (o.kind = 2 ∧ o.err = 0)) : lB m e o = false := by
  unfold lB
  rcases h with h | h
  · rw [h]; simp
  · cases h1 : o.kind == 2 with
    | false => rfl
    | true =>
      cases h2 : o.err == 0 with
      | false => rfl
      | true => exact absurd ⟨eq_of_beq h1, eq_of_beq h2⟩ h
theorem tz (e : Evt) (m : Mm) (o : Ou) (h : e.kind = 4 ∨ (o.kind = 2 → o.err = 0 → o.node ≠ 0)) : (a5 e m o).w0 = m.w0 := by
  by_cases hn : o.node = 0
  · have : lB m e o = false := vO m e o (h.imp id fun h ⟨a, b⟩ => h a b hn)
    unfold a5
    rw [this]; rfl
  · have hp : (o.node == 0) = false := by simpa using hn
    have a1 : (cV m o.node).w0 = m.w0 := by unfold cV oU; rw [hp]; rfl
    have b1 := (mA (cV m o.node) o.node (wof m o.node)).2.2.2.2.2.2.1.trans a1
    have d1 := (mA (iE (cV m o.node) o.node (wof m o.node)) (1 - o.node) (wof m o.node)).2.2.2.2.2.2.1.trans b1
    unfold a5
    exact ai (p := fun (x : Mm) => x.w0 = m.w0) rfl (ai (p := fun (x : Mm) => x.w0 = m.w0) d1 b1)
theorem tK (e : Evt) (m : Mm) (o : Ou) (hd : o.node = 0 ∨ o.node = 1) (h : e.kind = 4 ∨ (o.kind = 2 → o.err = 0 → o.node ≠ 1)) : (a5 e m o).w1 = m.w1 := by
  by_cases hn : o.node = 1
  · have : lB m e o = false := vO m e o (h.imp id fun h ⟨a, b⟩ => h a b hn)
    unfold a5
    rw [this]; rfl
  · have hp : (o.node == 0) = true := by simpa using hd.resolve_right hn
    have a1 : (cV m o.node).w1 = m.w1 := by unfold cV oU; rw [hp]; rfl
    have b1 := (mA (cV m o.node) o.node (wof m o.node)).2.2.2.2.2.2.2.trans a1
    have d1 := (mA (iE (cV m o.node) o.node (wof m o.node)) (1 - o.node) (wof m o.node)).2.2.2.2.2.2.2.trans b1
    unfold a5
    exact ai (p := fun (x : Mm) => x.w1 = m.w1) rfl (ai (p := fun (x : Mm) => x.w1 = m.w1) d1 b1)
theorem jY (e : Evt) : ∀ (l : List Ou) (m : Mm), (e.kind = 4 ∨ Nok 0 l) → (l.foldl (a5 e) m).w0 = m.w0
  | [], m, _ => rfl
  | o :: l, m, h => by
    rw [List.foldl_cons, jY e l _ (h.imp id fun h x hx => h x (List.mem_cons_of_mem _ hx))]
    exact tz e m o (h.imp id fun h => h o List.mem_cons_self)
theorem jO (e : Evt) : ∀ (l : List Ou) (m : Mm), Nds l → (e.kind = 4 ∨ Nok 1 l) → (l.foldl (a5 e) m).w1 = m.w1
  | [], m, _, _ => rfl
  | o :: l, m, hd, h => by
    rw [List.foldl_cons, jO e l _ (fun x hx => hd x (List.mem_cons_of_mem _ hx)) (h.imp id fun h x hx => h x (List.mem_cons_of_mem _ hx))]
    exact tK e m o (hd o List.mem_cons_self) (h.imp id fun h => h o List.mem_cons_self)
theorem lQ {l : List Ou} {p : Int} (h : Non p l) : cm l p = false := by
  unfold cm
  rw [List.any_eq_false]
  intro o ho
  have : (o.node == p) = false := by simpa using h o ho
  rw [this]; simp
theorem pG {m : Mm} {c : Cl} {e : Evt} {l : List Ou} (h : m.w0.on = true ∨ (e.kind = 5 ∧ e.node = 0 ∧ Non 0 l)) : (bk m c e l).w0.on = true := by
  have n0 := (nN m c e).2.2.2.2.1
  unfold bk
  rcases h with h | ⟨h1, h2, h3⟩
  · refine ai (p := fun (x : Mm) => x.w0.on = true) h ?_
    unfold oU
    exact ai (p := fun (x : Mm) => x.w0.on = true) rfl (by rw [← n0] at h; exact h)
  · rw [h1, h2, lQ h3]
    rfl
theorem oX {m : Mm} {c : Cl} {e : Evt} {l : List Ou} (h : m.w1.on = true ∨ (e.kind = 5 ∧ e.node = 1 ∧ Non 1 l)) : (bk m c e l).w1.on = true := by
  have n0 := (nN m c e).2.2.2.2.2
  unfold bk
  rcases h with h | ⟨h1, h2, h3⟩
  · refine ai (p := fun (x : Mm) => x.w1.on = true) h ?_
    unfold oU
    exact ai (p := fun (x : Mm) => x.w1.on = true) (by rw [← n0] at h; exact h) rfl
  · rw [h1, h2, lQ h3]
    rfl
theorem mV {N M : Nat} {m : Mm} (h : Mg N M m) (c : Cl) : Mg N M (aN m c) ∧ (VL N m.s0 → VL N (aN m c).s0) ∧ (VL N m.s1 → VL N (aN m c).s1) ∧ (c.n0.state = 1 → VL N (aN m c).s0) ∧ (c.n1.state = 1 → VL N (aN m c).s1) := by
  have a0 : VL N m.s0 → VL N (aN m c).s0 := fun hs => ai (p := fun (x : Vl) => VL N x) h.v1 hs
  have a1 : VL N m.s1 → VL N (aN m c).s1 := fun hs => ai (p := fun (x : Vl) => VL N x) h.v0 hs
  refine ⟨⟨h.v0, h.v1, fun x => a0 (h.h0 x), fun x => a1 (h.h1 x), h.w0, h.w1, ai (p := fun (x : Vl) => VW m.count M x) h.w1 h.x0, ai (p := fun (x : Vl) => VW m.count M x) h.w0 h.x1, h.c, h.u⟩, a0, a1, fun hs => ?_, fun hs => ?_⟩
  · show VL N (bif c.n0.state == 1 || c.n0.state == 4 then m.n1 else m.s0)
    rw [hs]; exact h.v1
  · show VL N (bif c.n1.state == 1 || c.n1.state == 4 then m.n0 else m.s1)
    rw [hs]; exact h.v0
structure Mup (N M : Nat) (m x : Mm) (k : Nat) : Prop where
  g : Mg N M x
  c : x.count = m.count
  u1 : m.lost ≤ x.lost
  u2 : x.lost ≤ m.lost + k
  s0 : x.s0 = m.s0
  s1 : x.s1 = m.s1
theorem vU {b : Bool} {k : Int} (h0 : 0 ≤ k) (h : k < 1000000) : k ≤ (bif b then IntKind.wrap .i64 (k + 1) else k) ∧ (bif b then IntKind.wrap .i64 (k + 1) else k) ≤ k + 1 := by
  rw [cI (by omega) (by omega)]
  cases b
  · exact ⟨Int.le_refl _, by show k ≤ k + 1; omega⟩
  · exact ⟨by show k ≤ k + 1; omega, Int.le_refl _⟩
theorem Cu {N M : Nat} {m : Mm} (h : Mg N M m) (hl : m.lost < 1000000) {n : Nd} (hs : n.up = true → n.store.super.inc = true → VL N m.s0) :
    Mup N M m (oG m n) 1 ∧ (oG m n).w0 = (bif n.req.on then m.w0 else rq0) ∧ (oG m n).w1 = m.w1 := by
  have h1 : Mg N M (bE m n) := by
    unfold bE
    exact ai (p := fun (x : Mm) => Mg N M x) h ⟨h.v0, h.v1, h.h0, h.h1, h.w0, h.w1, h.x0, h.x1, h.c, h.u⟩
  have e : (bE m n).count = m.count ∧ (bE m n).lost = m.lost ∧ (bE m n).s0 = m.s0 ∧ (bE m n).s1 = m.s1 ∧ (bE m n).w1 = m.w1 ∧ (bE m n).w0 = (bif n.req.on then m.w0 else rq0) := by
    unfold bE
    cases n.req.on <;> exact ⟨rfl, rfl, rfl, rfl, rfl, rfl⟩
  obtain ⟨e1, e2, e3, e4, e5, e6⟩ := e
  unfold oG
  cases hu : n.up with
  | false => exact ⟨⟨h1, e1, by show m.lost ≤ (bE m n).lost; omega, by show (bE m n).lost ≤ _; omega, e3, e4⟩, e6, e5⟩
  | true =>
    show Mup N M m (dg (bE m n) n.store.super) 1 ∧ (dg (bE m n) n.store.super).w0 = _ ∧ (dg (bE m n) n.store.super).w1 = _
    unfold dg
    cases hi : n.store.super.inc with
    | true =>
      refine ⟨⟨⟨h1.v0, h1.v1, fun _ => ?_, h1.h1, h1.w0, h1.w1, h1.x0, h1.x1, h1.c, h1.u⟩, e1, by show m.lost ≤ (bE m n).lost; omega, by show (bE m n).lost ≤ _; omega, e3, e4⟩, e6, e5⟩
      show VL N (bE m n).s0
      rw [e3]; exact hs hu hi
    | false =>
      cases hh : (bE m n).h0 with
      | false => exact ⟨⟨⟨h1.v0, h1.v1, fun x => absurd x (by simp), h1.h1, h1.w0, h1.w1, h1.x0, h1.x1, h1.c, h1.u⟩, e1, by show m.lost ≤ (bE m n).lost; omega, by show (bE m n).lost ≤ _; omega, e3, e4⟩, e6, e5⟩
      | true =>
        have hlo := vU (b := !(bE m n).d0 && gY (bE m n).n0 (bE m n).s0) (k := (bE m n).lost) h1.u (by omega)
        refine ⟨⟨⟨h1.h0 hh, h1.v1, fun x => absurd x (by simp), h1.h1, h1.x0, h1.w1, h1.x0, h1.x1, h1.c, Int.le_trans h1.u hlo.1⟩, e1, ?_, ?_, e3, e4⟩, e6, e5⟩
        · have := hlo.1; rw [← e2]; exact this
        · have := hlo.2; rw [← e2]; exact this
theorem Cv {N M : Nat} {m : Mm} (h : Mg N M m) (hl : m.lost < 1000000) {n : Nd} (hs : n.up = true → n.store.super.inc = true → VL N m.s1) :
    Mup N M m (qw m n) 1 ∧ (qw m n).w1 = (bif n.req.on then m.w1 else rq0) ∧ (qw m n).w0 = m.w0 := by
  have h1 : Mg N M (bI m n) := by
    unfold bI
    exact ai (p := fun (x : Mm) => Mg N M x) h ⟨h.v0, h.v1, h.h0, h.h1, h.w0, h.w1, h.x0, h.x1, h.c, h.u⟩
  have e : (bI m n).count = m.count ∧ (bI m n).lost = m.lost ∧ (bI m n).s0 = m.s0 ∧ (bI m n).s1 = m.s1 ∧ (bI m n).w0 = m.w0 ∧ (bI m n).w1 = (bif n.req.on then m.w1 else rq0) := by
    unfold bI
    cases n.req.on <;> exact ⟨rfl, rfl, rfl, rfl, rfl, rfl⟩
  obtain ⟨e1, e2, e3, e4, e5, e6⟩ := e
  unfold qw
  cases hu : n.up with
  | false => exact ⟨⟨h1, e1, by show m.lost ≤ (bI m n).lost; omega, by show (bI m n).lost ≤ _; omega, e3, e4⟩, e6, e5⟩
  | true =>
    show Mup N M m (dz (bI m n) n.store.super) 1 ∧ (dz (bI m n) n.store.super).w1 = _ ∧ (dz (bI m n) n.store.super).w0 = _
    unfold dz
    cases hi : n.store.super.inc with
    | true =>
      refine ⟨⟨⟨h1.v0, h1.v1, h1.h0, fun _ => ?_, h1.w0, h1.w1, h1.x0, h1.x1, h1.c, h1.u⟩, e1, by show m.lost ≤ (bI m n).lost; omega, by show (bI m n).lost ≤ _; omega, e3, e4⟩, e6, e5⟩
      show VL N (bI m n).s1
      rw [e4]; exact hs hu hi
    | false =>
      cases hh : (bI m n).h1 with
      | false => exact ⟨⟨⟨h1.v0, h1.v1, h1.h0, fun x => absurd x (by simp), h1.w0, h1.w1, h1.x0, h1.x1, h1.c, h1.u⟩, e1, by show m.lost ≤ (bI m n).lost; omega, by show (bI m n).lost ≤ _; omega, e3, e4⟩, e6, e5⟩
      | true =>
        have hlo := vU (b := !(bI m n).d1 && gY (bI m n).n1 (bI m n).s1) (k := (bI m n).lost) h1.u (by omega)
        refine ⟨⟨⟨h1.v0, h1.h1 hh, h1.h0, fun x => absurd x (by simp), h1.w0, h1.x1, h1.x0, h1.x1, h1.c, Int.le_trans h1.u hlo.1⟩, e1, ?_, ?_, e3, e4⟩, e6, e5⟩
        · have := hlo.1; rw [← e2]; exact this
        · have := hlo.2; rw [← e2]; exact this
structure Iw (N M : Nat) (c : Cl) (m : Mm) : Prop where
  q : Qi c
  g : Mg N M m
  j : J2 (VL N m.s0) (VL N m.s1) c
  w0 : m.w0.on = c.n0.req.on
  w1 : m.w1.on = c.n1.req.on
structure Sto (m x : Mm) (k : Nat) : Prop where
  c1 : m.count ≤ x.count
  c2 : x.count ≤ m.count + k
  u1 : m.lost ≤ x.lost
  u2 : x.lost ≤ m.lost + 2
theorem wh {Q R : Prop} (h : Q → R) {n : Nd} (hn : IP Q n) : IP R n :=
  ⟨⟨fun a b => h (hn.d.1 a b), fun a b c d e => h (hn.d.2 a b c d e)⟩, fun a b => h (hn.s a b)⟩
theorem BQ {N M : Nat} {c : Cl} {m : Mm} (h : Iw N M c m) (e : Evt) (hc : m.count + (doM c e).2.length < 1000000) (hl : m.lost < 100000) :
    Iw N (M + 2) (doM c e).1 (my m c e (doM c e).1 (doM c e).2) ∧ Sto m (my m c e (doM c e).1 (doM c e).2) (doM c e).2.length := by
  obtain ⟨g1, a0, a1, b0, b1⟩ := mV h.g c
  have ev := zO (e := e) h.q
  have jj : J2 (VL N (aN m c).s0) (VL N (aN m c).s1) c := ⟨wh a0 h.j.j0, wh a1 h.j.j1⟩
  have jd := CR (e := e) jj b0 b1
  generalize hd : (doM c e).1 = d at ev jd ⊢
  generalize ho : (doM c e).2 = l at ev hc ⊢
  have g2 := pi g1 c e l
  obtain ⟨n1, n2, n3, n4⟩ := sw (aN m c) c e l
  have hc2 : (bk (aN m c) c e l).count + l.length < 1000000 := by rw [n1]; exact hc
  have g3 := jM e l g2 hc2
  have e3 : (l.foldl (a5 e) (bk (aN m c) c e l)).s0 = (aN m c).s0 := g3.s0.trans n3
  have e4 : (l.foldl (a5 e) (bk (aN m c) c e l)).s1 = (aN m c).s1 := g3.s1.trans n4
  have e5 : (l.foldl (a5 e) (bk (aN m c) c e l)).lost = m.lost := g3.u.trans n2
  have q0 : d.n0.req.on = true → (l.foldl (a5 e) (bk (aN m c) c e l)).w0.on = true := fun hr => by
    rcases ev.e0.kp hr with ⟨k1, k2⟩ | ⟨k1, k2, k3⟩
    · rw [jY e l _ k2]
      exact pG (Or.inl (by show m.w0.on = true; rw [h.w0]; exact k1))
    · rw [jY e l _ (Or.inr k3.nok)]
      exact pG (Or.inr ⟨k1, k2, k3⟩)
  have q1 : d.n1.req.on = true → (l.foldl (a5 e) (bk (aN m c) c e l)).w1.on = true := fun hr => by
    rcases ev.e1.kp hr with ⟨k1, k2⟩ | ⟨k1, k2, k3⟩
    · rw [jO e l _ ev.nd k2]
      exact oX (Or.inl (by show m.w1.on = true; rw [h.w1]; exact k1))
    · rw [jO e l _ ev.nd (Or.inr k3.nok)]
      exact oX (Or.inr ⟨k1, k2, k3⟩)
  unfold my
  generalize l.foldl (a5 e) (bk (aN m c) c e l) = x at g3 e3 e4 e5 q0 q1 ⊢
  have u0 := Cu g3.g (n := d.n0) (by omega) (fun hu hi => by rw [e3]; exact jd.j0.s hu hi)
  obtain ⟨v1, v2, v3⟩ := u0
  have := v1.u2
  have u1 := Cv v1.g (n := d.n1) (by omega) (fun hu hi => by rw [v1.s1, e4]; exact jd.j1.s hu hi)
  obtain ⟨t1, t2, t3⟩ := u1
  have c1 := g3.c1
  have c2 := g3.c2
  rw [n1] at c1 c2
  have cs : (aN m c).count = m.count := rfl
  have c3 := v1.c
  have c4 := t1.c
  have l1 := v1.u1
  have l3 := t1.u1
  have l4 := t1.u2
  refine ⟨⟨ev.ok, t1.g, ⟨?_, ?_⟩, ?_, ?_⟩, ⟨by omega, by omega, by omega, by omega⟩⟩
  · rw [t1.s0, v1.s0, e3]; exact jd.j0
  · rw [t1.s1, v1.s1, e4]; exact jd.j1
  · rw [t3, v2]
    cases hr : d.n0.req.on with
    | true => exact q0 hr
    | false => rfl
  · rw [t2, v3]
    cases hr : d.n1.req.on with
    | true => exact q1 hr
    | false => rfl
end Go.Dm
