/-
  A part of the proofs over this seat: what its functions make of data, in plain terms (the file in which the theorems stand says what is proved).
-/
import Derived.KernelRfl
import Derived.Test.YtafmihnhdodekaaGreatReC1
namespace Go.Dm
open Go
theorem eb2 {b c : Bool} {gs : List G} {Q : Prop} (h : b = c) (r : Wy gs Q) : Wy (.b c :: .b c :: gs) (b = c ∧ b = c ∧ Q) := ⟨h, h, r⟩
theorem en2 {b c : Bool} {gs : List G} {Q : Prop} (h : b = c) (r : Wy gs Q) : Wy (.b (not c) :: .b (not c) :: gs) (not b = not c ∧ not b = not c ∧ Q) := ⟨congrArg not h, congrArg not h, r⟩
theorem et2 {gs : List G} {Q : Prop} (r : Wy gs Q) : Wy (.b true :: .b true :: gs) (true = true ∧ true = true ∧ Q) := ⟨rfl, rfl, r⟩
theorem ef2 {gs : List G} {Q : Prop} (r : Wy gs Q) : Wy (.b false :: .b false :: gs) (false = false ∧ false = false ∧ Q) := ⟨rfl, rfl, r⟩
theorem eb3 {b c : Bool} {gs : List G} {Q : Prop} (h : b = c) (r : Wy gs Q) : Wy (.b c :: .b c :: .b c :: gs) (b = c ∧ b = c ∧ b = c ∧ Q) := ⟨h, h, h, r⟩
theorem en3 {b c : Bool} {gs : List G} {Q : Prop} (h : b = c) (r : Wy gs Q) : Wy (.b (not c) :: .b (not c) :: .b (not c) :: gs) (not b = not c ∧ not b = not c ∧ not b = not c ∧ Q) := ⟨congrArg not h, congrArg not h, congrArg not h, r⟩
theorem et3 {gs : List G} {Q : Prop} (r : Wy gs Q) : Wy (.b true :: .b true :: .b true :: gs) (true = true ∧ true = true ∧ true = true ∧ Q) := ⟨rfl, rfl, rfl, r⟩
theorem ef3 {gs : List G} {Q : Prop} (r : Wy gs Q) : Wy (.b false :: .b false :: .b false :: gs) (false = false ∧ false = false ∧ false = false ∧ Q) := ⟨rfl, rfl, rfl, r⟩
theorem eb4 {b c : Bool} {gs : List G} {Q : Prop} (h : b = c) (r : Wy gs Q) : Wy (.b c :: .b c :: .b c :: .b c :: gs) (b = c ∧ b = c ∧ b = c ∧ b = c ∧ Q) := ⟨h, h, h, h, r⟩
theorem en4 {b c : Bool} {gs : List G} {Q : Prop} (h : b = c) (r : Wy gs Q) : Wy (.b (not c) :: .b (not c) :: .b (not c) :: .b (not c) :: gs) (not b = not c ∧ not b = not c ∧ not b = not c ∧ not b = not c ∧ Q) := ⟨congrArg not h, congrArg not h, congrArg not h, congrArg not h, r⟩
theorem et4 {gs : List G} {Q : Prop} (r : Wy gs Q) : Wy (.b true :: .b true :: .b true :: .b true :: gs) (true = true ∧ true = true ∧ true = true ∧ true = true ∧ Q) := ⟨rfl, rfl, rfl, rfl, r⟩
theorem ef4 {gs : List G} {Q : Prop} (r : Wy gs Q) : Wy (.b false :: .b false :: .b false :: .b false :: gs) (false = false ∧ false = false ∧ false = false ∧ false = false ∧ Q) := ⟨rfl, rfl, rfl, rfl, r⟩
theorem eb5 {b c : Bool} {gs : List G} {Q : Prop} (h : b = c) (r : Wy gs Q) : Wy (.b c :: .b c :: .b c :: .b c :: .b c :: gs) (b = c ∧ b = c ∧ b = c ∧ b = c ∧ b = c ∧ Q) := ⟨h, h, h, h, h, r⟩
theorem en5 {b c : Bool} {gs : List G} {Q : Prop} (h : b = c) (r : Wy gs Q) : Wy (.b (not c) :: .b (not c) :: .b (not c) :: .b (not c) :: .b (not c) :: gs) (not b = not c ∧ not b = not c ∧ not b = not c ∧ not b = not c ∧ not b = not c ∧ Q) := ⟨congrArg not h, congrArg not h, congrArg not h, congrArg not h, congrArg not h, r⟩
theorem et5 {gs : List G} {Q : Prop} (r : Wy gs Q) : Wy (.b true :: .b true :: .b true :: .b true :: .b true :: gs) (true = true ∧ true = true ∧ true = true ∧ true = true ∧ true = true ∧ Q) := ⟨rfl, rfl, rfl, rfl, rfl, r⟩
theorem ef5 {gs : List G} {Q : Prop} (r : Wy gs Q) : Wy (.b false :: .b false :: .b false :: .b false :: .b false :: gs) (false = false ∧ false = false ∧ false = false ∧ false = false ∧ false = false ∧ Q) := ⟨rfl, rfl, rfl, rfl, rfl, r⟩
theorem eb6 {b c : Bool} {gs : List G} {Q : Prop} (h : b = c) (r : Wy gs Q) : Wy (.b c :: .b c :: .b c :: .b c :: .b c :: .b c :: gs) (b = c ∧ b = c ∧ b = c ∧ b = c ∧ b = c ∧ b = c ∧ Q) := ⟨h, h, h, h, h, h, r⟩
theorem en6 {b c : Bool} {gs : List G} {Q : Prop} (h : b = c) (r : Wy gs Q) : Wy (.b (not c) :: .b (not c) :: .b (not c) :: .b (not c) :: .b (not c) :: .b (not c) :: gs) (not b = not c ∧ not b = not c ∧ not b = not c ∧ not b = not c ∧ not b = not c ∧ not b = not c ∧ Q) := ⟨congrArg not h, congrArg not h, congrArg not h, congrArg not h, congrArg not h, congrArg not h, r⟩
theorem et6 {gs : List G} {Q : Prop} (r : Wy gs Q) : Wy (.b true :: .b true :: .b true :: .b true :: .b true :: .b true :: gs) (true = true ∧ true = true ∧ true = true ∧ true = true ∧ true = true ∧ true = true ∧ Q) := ⟨rfl, rfl, rfl, rfl, rfl, rfl, r⟩
theorem ef6 {gs : List G} {Q : Prop} (r : Wy gs Q) : Wy (.b false :: .b false :: .b false :: .b false :: .b false :: .b false :: gs) (false = false ∧ false = false ∧ false = false ∧ false = false ∧ false = false ∧ false = false ∧ Q) := ⟨rfl, rfl, rfl, rfl, rfl, rfl, r⟩
theorem eb7 {b c : Bool} {gs : List G} {Q : Prop} (h : b = c) (r : Wy gs Q) : Wy (.b c :: .b c :: .b c :: .b c :: .b c :: .b c :: .b c :: gs) (b = c ∧ b = c ∧ b = c ∧ b = c ∧ b = c ∧ b = c ∧ b = c ∧ Q) := ⟨h, h, h, h, h, h, h, r⟩
theorem et7 {gs : List G} {Q : Prop} (r : Wy gs Q) : Wy (.b true :: .b true :: .b true :: .b true :: .b true :: .b true :: .b true :: gs) (true = true ∧ true = true ∧ true = true ∧ true = true ∧ true = true ∧ true = true ∧ true = true ∧ Q) := ⟨rfl, rfl, rfl, rfl, rfl, rfl, rfl, r⟩
theorem ef7 {gs : List G} {Q : Prop} (r : Wy gs Q) : Wy (.b false :: .b false :: .b false :: .b false :: .b false :: .b false :: .b false :: gs) (false = false ∧ false = false ∧ false = false ∧ false = false ∧ false = false ∧ false = false ∧ false = false ∧ Q) := ⟨rfl, rfl, rfl, rfl, rfl, rfl, rfl, r⟩
theorem eb8 {b c : Bool} {gs : List G} {Q : Prop} (h : b = c) (r : Wy gs Q) : Wy (.b c :: .b c :: .b c :: .b c :: .b c :: .b c :: .b c :: .b c :: gs) (b = c ∧ b = c ∧ b = c ∧ b = c ∧ b = c ∧ b = c ∧ b = c ∧ b = c ∧ Q) := ⟨h, h, h, h, h, h, h, h, r⟩
theorem en8 {b c : Bool} {gs : List G} {Q : Prop} (h : b = c) (r : Wy gs Q) : Wy (.b (not c) :: .b (not c) :: .b (not c) :: .b (not c) :: .b (not c) :: .b (not c) :: .b (not c) :: .b (not c) :: gs) (not b = not c ∧ not b = not c ∧ not b = not c ∧ not b = not c ∧ not b = not c ∧ not b = not c ∧ not b = not c ∧ not b = not c ∧ Q) := ⟨congrArg not h, congrArg not h, congrArg not h, congrArg not h, congrArg not h, congrArg not h, congrArg not h, congrArg not h, r⟩
theorem et8 {gs : List G} {Q : Prop} (r : Wy gs Q) : Wy (.b true :: .b true :: .b true :: .b true :: .b true :: .b true :: .b true :: .b true :: gs) (true = true ∧ true = true ∧ true = true ∧ true = true ∧ true = true ∧ true = true ∧ true = true ∧ true = true ∧ Q) := ⟨rfl, rfl, rfl, rfl, rfl, rfl, rfl, rfl, r⟩
theorem ef8 {gs : List G} {Q : Prop} (r : Wy gs Q) : Wy (.b false :: .b false :: .b false :: .b false :: .b false :: .b false :: .b false :: .b false :: gs) (false = false ∧ false = false ∧ false = false ∧ false = false ∧ false = false ∧ false = false ∧ false = false ∧ false = false ∧ Q) := ⟨rfl, rfl, rfl, rfl, rfl, rfl, rfl, rfl, r⟩
theorem en9 {b c : Bool} {gs : List G} {Q : Prop} (h : b = c) (r : Wy gs Q) : Wy (.b (not c) :: .b (not c) :: .b (not c) :: .b (not c) :: .b (not c) :: .b (not c) :: .b (not c) :: .b (not c) :: .b (not c) :: gs) (not b = not c ∧ not b = not c ∧ not b = not c ∧ not b = not c ∧ not b = not c ∧ not b = not c ∧ not b = not c ∧ not b = not c ∧ not b = not c ∧ Q) := ⟨congrArg not h, congrArg not h, congrArg not h, congrArg not h, congrArg not h, congrArg not h, congrArg not h, congrArg not h, congrArg not h, r⟩
theorem et9 {gs : List G} {Q : Prop} (r : Wy gs Q) : Wy (.b true :: .b true :: .b true :: .b true :: .b true :: .b true :: .b true :: .b true :: .b true :: gs) (true = true ∧ true = true ∧ true = true ∧ true = true ∧ true = true ∧ true = true ∧ true = true ∧ true = true ∧ true = true ∧ Q) := ⟨rfl, rfl, rfl, rfl, rfl, rfl, rfl, rfl, rfl, r⟩
theorem ef9 {gs : List G} {Q : Prop} (r : Wy gs Q) : Wy (.b false :: .b false :: .b false :: .b false :: .b false :: .b false :: .b false :: .b false :: .b false :: gs) (false = false ∧ false = false ∧ false = false ∧ false = false ∧ false = false ∧ false = false ∧ false = false ∧ false = false ∧ false = false ∧ Q) := ⟨rfl, rfl, rfl, rfl, rfl, rfl, rfl, rfl, rfl, r⟩
theorem DT {gs : List G} {Q : Prop} (r : Wy gs Q) : Wy (.b false :: .b false :: .b false :: .b false :: .b false :: .b false :: .b false :: .b false :: .b false :: .b false :: gs) (false = false ∧ false = false ∧ false = false ∧ false = false ∧ false = false ∧ false = false ∧ false = false ∧ false = false ∧ false = false ∧ false = false ∧ Q) := ⟨rfl, rfl, rfl, rfl, rfl, rfl, rfl, rfl, rfl, rfl, r⟩
theorem Gx {b c : Bool} {gs : List G} {Q : Prop} (h : b = c) (r : Wy gs Q) : Wy (.b c :: .b c :: .b c :: .b c :: .b c :: .b c :: .b c :: .b c :: .b c :: .b c :: .b c :: gs) (b = c ∧ b = c ∧ b = c ∧ b = c ∧ b = c ∧ b = c ∧ b = c ∧ b = c ∧ b = c ∧ b = c ∧ b = c ∧ Q) := ⟨h, h, h, h, h, h, h, h, h, h, h, r⟩
theorem Ez {gs : List G} {Q : Prop} (r : Wy gs Q) : Wy (.b true :: .b true :: .b true :: .b true :: .b true :: .b true :: .b true :: .b true :: .b true :: .b true :: .b true :: gs) (true = true ∧ true = true ∧ true = true ∧ true = true ∧ true = true ∧ true = true ∧ true = true ∧ true = true ∧ true = true ∧ true = true ∧ true = true ∧ Q) := ⟨rfl, rfl, rfl, rfl, rfl, rfl, rfl, rfl, rfl, rfl, rfl, r⟩
theorem AG {gs : List G} {Q : Prop} (r : Wy gs Q) : Wy (.b false :: .b false :: .b false :: .b false :: .b false :: .b false :: .b false :: .b false :: .b false :: .b false :: .b false :: gs) (false = false ∧ false = false ∧ false = false ∧ false = false ∧ false = false ∧ false = false ∧ false = false ∧ false = false ∧ false = false ∧ false = false ∧ false = false ∧ Q) := ⟨rfl, rfl, rfl, rfl, rfl, rfl, rfl, rfl, rfl, rfl, rfl, r⟩
theorem Hb {b c : Bool} {gs : List G} {Q : Prop} (h : b = c) (r : Wy gs Q) : Wy (.b c :: .b c :: .b c :: .b c :: .b c :: .b c :: .b c :: .b c :: .b c :: .b c :: .b c :: .b c :: gs) (b = c ∧ b = c ∧ b = c ∧ b = c ∧ b = c ∧ b = c ∧ b = c ∧ b = c ∧ b = c ∧ b = c ∧ b = c ∧ b = c ∧ Q) := ⟨h, h, h, h, h, h, h, h, h, h, h, h, r⟩
theorem Hj {gs : List G} {Q : Prop} (r : Wy gs Q) : Wy (.b true :: .b true :: .b true :: .b true :: .b true :: .b true :: .b true :: .b true :: .b true :: .b true :: .b true :: .b true :: gs) (true = true ∧ true = true ∧ true = true ∧ true = true ∧ true = true ∧ true = true ∧ true = true ∧ true = true ∧ true = true ∧ true = true ∧ true = true ∧ true = true ∧ Q) := ⟨rfl, rfl, rfl, rfl, rfl, rfl, rfl, rfl, rfl, rfl, rfl, rfl, r⟩
theorem oO {gs : List G} {Q : Prop} (r : Wy gs Q) : Wy (.b false :: .b false :: .b false :: .b false :: .b false :: .b false :: .b false :: .b false :: .b false :: .b false :: .b false :: .b false :: gs) (false = false ∧ false = false ∧ false = false ∧ false = false ∧ false = false ∧ false = false ∧ false = false ∧ false = false ∧ false = false ∧ false = false ∧ false = false ∧ false = false ∧ Q) := ⟨rfl, rfl, rfl, rfl, rfl, rfl, rfl, rfl, rfl, rfl, rfl, rfl, r⟩
theorem bft (b : Bool) : b = true ∨ b = false := Bool.eq_false_or_eq_true b
theorem vq : (∀ {α : Type} (a b : α), (bif true then a else b) = a) ∧ (∀ {α : Type} (a b : α), (bif false then a else b) = b) ∧ (∀ b, (true && b) = b) ∧ (∀ b, (false && b) = false) ∧ (∀ b, (true || b) = true) ∧ (∀ b, (false || b) = b) ∧ (!true) = false ∧ (!false) = true := ⟨fun _ _ => rfl, fun _ _ => rfl, fun _ => rfl, fun _ => rfl, fun _ => rfl, fun _ => rfl, rfl, rfl⟩
theorem vr : (∀ {α : Type} (p q : List α), (p ++ q).length = p.length + q.length) ∧ (∀ {α : Type} (a : α) (p : List α), (a :: p).length = p.length + 1) ∧ (∀ {α : Type}, ([] : List α).length = 0) ∧ (∀ {α : Type} (i : Nat) (l : List α), (l.drop i).length = l.length - i) ∧ (∀ {α : Type} (i : Nat) (l : List α), (l.take i).length = min i l.length) ∧ (∀ {α β : Type} (f : α → β) (p : List α), (p.map f).length = p.length) := ⟨fun _ _ => List.length_append, fun _ _ => List.length_cons, rfl, fun _ _ => List.length_drop, fun _ _ => List.length_take, fun f _ => List.length_map f⟩
end Go.Dm
namespace Go.Dm
open Go
abbrev mi (x : BitVec 32) : Int := (x.toNat : Int)
theorem la (n : Nat) : IntKind.wrap .u32 (n : Int) = ((n % 4294967296 : Nat) : Int) := by
  unfold IntKind.wrap
  simp [IntKind.signed, IntKind.bits]
theorem jZ (x : BitVec 32) : 0 ≤ mi x ∧ mi x < 4294967296 := by
  have := x.isLt
  simp only [mi]
  omega
theorem DO {x y : BitVec 32} (h : mi x = mi y) : x = y := by
  apply BitVec.eq_of_toNat_eq
  simp only [mi] at h
  omega
def inM (m : Int) (i : Nat) : Bool := (IntKind.wrap .u32 (m.tdiv (2 ^ i))).tmod 2 == 1
theorem Dj (x : BitVec 32) (i : Nat) : inM (mi x) i = x.getLsbD i := by
  unfold inM mi
  have e : ((x.toNat : Int)).tdiv (2 ^ i) = ((x.toNat / 2 ^ i : Nat) : Int) := by
    rw [Int.tdiv_eq_ediv_of_nonneg (by omega)]; simp
  rw [e, la]
  have hl : x.toNat / 2 ^ i < 4294967296 := Nat.lt_of_le_of_lt (Nat.div_le_self _ _) x.isLt
  rw [Nat.mod_eq_of_lt hl, Int.tmod_eq_emod_of_nonneg (Int.natCast_nonneg _)]
  show _ = Nat.testBit x.toNat i
  rw [Nat.testBit_eq_decide_div_mod_eq, Bool.eq_iff_iff]
  generalize x.toNat / 2 ^ i = q
  simp only [beq_iff_eq, decide_eq_true_eq]
  omega
theorem Al {i : Nat} (h : i < 32) : (2 : Int) ^ i = mi (BitVec.twoPow 32 i) := by
  simp only [mi, BitVec.toNat_twoPow]
  rw [Nat.mod_eq_of_lt (Nat.pow_lt_pow_right (by omega) h)]
  simp
theorem xr {x : BitVec 32} {i : Nat} (h : i < 32) (hx : x.getLsbD i = false) : IntKind.wrap .u32 (mi x + 2 ^ i) = mi (x ||| BitVec.twoPow 32 i) := by
  rw [Al h]
  have e : x ||| BitVec.twoPow 32 i = x + BitVec.twoPow 32 i := by
    rw [BitVec.add_eq_or_of_and_eq_zero]
    apply BitVec.eq_of_getLsbD_eq
    intro j hj
    simp only [BitVec.getLsbD_and, BitVec.getLsbD_twoPow, hj, decide_true, Bool.true_and, BitVec.getLsbD_zero]
    by_cases hji : i = j
    · subst hji; simp [hx]
    · simp [hji]
  rw [e]
  simp only [mi]
  rw [← Int.natCast_add, la, BitVec.toNat_add]
theorem Bi {x : BitVec 32} {i : Nat} (h : i < 32) (hx : x.getLsbD i = true) : IntKind.wrap .u32 (mi x - 2 ^ i) = mi (x &&& ~~~BitVec.twoPow 32 i) := by
  have hb : (x &&& ~~~BitVec.twoPow 32 i).getLsbD i = false := by simp [h]
  have ha := xr h hb
  have e : (x &&& ~~~BitVec.twoPow 32 i) ||| BitVec.twoPow 32 i = x := by
    apply BitVec.eq_of_getLsbD_eq
    intro j hj
    simp only [BitVec.getLsbD_or, BitVec.getLsbD_and, BitVec.getLsbD_not, BitVec.getLsbD_twoPow, hj, decide_true, Bool.true_and]
    by_cases hji : i = j
    · subst hji; simp [hx]
    · simp [hji]
  rw [e] at ha
  rw [Al h] at ha ⊢
  have h1 := jZ x
  have h2 := jZ (x &&& ~~~BitVec.twoPow 32 i)
  have h3 := jZ (BitVec.twoPow 32 i)
  have hle : mi (BitVec.twoPow 32 i) ≤ mi x := by
    simp only [mi, BitVec.toNat_twoPow]
    rw [Nat.mod_eq_of_lt (Nat.pow_lt_pow_right (by omega) h)]
    have : 2 ^ i ≤ x.toNat := Nat.ge_two_pow_of_testBit (by simpa [BitVec.getLsbD] using hx)
    omega
  have w1 : IntKind.wrap .u32 (mi x - mi (BitVec.twoPow 32 i)) = mi x - mi (BitVec.twoPow 32 i) := by
    unfold IntKind.wrap
    simp [IntKind.signed, IntKind.bits]
    omega
  rw [w1]
  unfold IntKind.wrap at ha
  simp [IntKind.signed, IntKind.bits] at ha
  omega
def xH (x : BitVec 32) : List Nat := (List.range 32).filter x.getLsbD
def CF (x : BitVec 32) (l : List Nat) : BitVec 32 := l.foldl (fun m i => m ||| BitVec.twoPow 32 i) x
theorem tH : ∀ (l : List Nat) (x : BitVec 32) (j : Nat), j < 32 → (CF x l).getLsbD j = (x.getLsbD j || l.contains j)
  | [], x, j, _ => by simp [CF]
  | i :: l, x, j, hj => by
    have := tH l (x ||| BitVec.twoPow 32 i) j hj
    unfold CF at this ⊢
    simp only [List.foldl_cons]
    rw [this]
    simp only [BitVec.getLsbD_or, BitVec.getLsbD_twoPow, List.contains_cons, hj, decide_true, Bool.true_and]
    rw [Bool.or_assoc]
    congr 2
    rw [Bool.eq_iff_iff]
    simp
    omega
theorem ul (x y : BitVec 32) : CF x (xH y) = x ||| y := by
  apply BitVec.eq_of_getLsbD_eq
  intro j hj
  rw [tH _ _ _ hj, BitVec.getLsbD_or]
  congr 1
  unfold xH
  rw [Bool.eq_iff_iff]
  simp [hj]
abbrev is (l : List Int) : List (List C) := l.map eI
abbrev eW (x : BitVec 32) : List C := [w4 (mi x)]
abbrev ms (l : List (BitVec 32)) : List (List C) := l.map eW
theorem Ef (l : List Int) : (is l).length = l.length := by simp [is]
theorem kU {i : Nat} (h : i ≤ 31) : (2 : Int) ^ i ≤ 2147483648 ∧ 0 < (2 : Int) ^ i := by
  have h1 : (2 : Nat) ^ i ≤ 2 ^ 31 := Nat.pow_le_pow_right (by omega) h
  have h2 : 0 < (2 : Nat) ^ i := Nat.pow_pos (by omega)
  have e : ((2 ^ i : Nat) : Int) = (2 : Int) ^ i := by simp
  rw [← e]
  omega
def kg (x : BitVec 32) : List Int := (xH x).map fun (i : Nat) => (i : Int)
def lsI (x : BitVec 32) (n : Nat) : List Int := ((List.range n).filter x.getLsbD).map fun (i : Nat) => (i : Int)
theorem zg (x : BitVec 32) (n : Nat) : lsI x (n + 1) = if x.getLsbD n then lsI x n ++ [(n : Int)] else lsI x n := by
  unfold lsI
  rw [List.range_succ, List.filter_append]
  cases hb : x.getLsbD n <;> simp [hb]
theorem wl (x : BitVec 32) (n : Nat) : (lsI x n).length ≤ n := by
  unfold lsI
  rw [List.length_map]
  exact Nat.le_trans (List.length_filter_le _ _) (by simp)
theorem Dd (x : BitVec 32) : lsI x 32 = kg x := rfl
theorem xZ (x : BitVec 32) : (kg x).length ≤ 32 := wl x 32
def inB (i : Int) : Bool := decide (0 ≤ i) && decide (i < 32)
def kF (x : BitVec 32) (i : Int) : Bool := inB i && x.getLsbD i.toNat
def oW (i : Int) : BitVec 32 := if inB i then BitVec.twoPow 32 i.toNat else 0#32
def yP (m : BitVec 32) (l : List Int) : BitVec 32 := l.foldl (fun m x => m ||| oW x) m
def sc (m : BitVec 32) (l : List Int) : BitVec 32 := l.foldl (fun m x => m &&& ~~~oW x) m
def orI (m : BitVec 32) (l : List (BitVec 32)) : BitVec 32 := l.foldl (fun m x => m ||| x) m
def CE (B : Int) : BitVec 32 := if 1 ≤ B ∧ B ≤ 32 then BitVec.ofNat 32 (2 ^ B.toNat - 1) else 0#32
def iS (x : BitVec 32) (B : Int) : Bool := decide (1 ≤ B) && decide (B ≤ 32) && (x &&& ~~~CE B == 0#32)
def jG (x : BitVec 32) (f : Int) : Option Int := (kg x).find? fun i => decide (f ≤ i)
theorem vI (x : BitVec 32) : ∀ (l : List Nat), (∀ i ∈ l, i < 32) → ∀ (m : BitVec 32), yP m (l.map fun (i : Nat) => (i : Int)) = CF m l
  | [], _, m => rfl
  | i :: l, h, m => by
    have hi := h i (by simp)
    have hb : oW (i : Int) = BitVec.twoPow 32 i := by
      unfold oW inB
      rw [decide_eq_true (by omega : (0 : Int) ≤ i), decide_eq_true (by omega : (i : Int) < 32)]
      simp
    have := vI x l (fun j hj => h j (by simp [hj])) (m ||| BitVec.twoPow 32 i)
    unfold yP CF at this ⊢
    simp only [List.map_cons, List.foldl_cons, hb]
    exact this
theorem uo (x y : BitVec 32) : yP x (kg y) = x ||| y := by
  rw [← ul x y]
  unfold kg
  refine vI x _ (fun i hi => ?_) _
  unfold xH at hi
  simp at hi
  exact hi.1
end Go.Dm
namespace Go.Dm
open Go
structure Wr where
  sec : Int
  data : ByteArray
  deriving Inhabited, DecidableEq
abbrev Wr.cs (w : Wr) : List C := [ii w.sec, st w.data]
structure Dk where
  sure : List ByteArray
  cache : List Wr
  fuse : Int
  dead : Bool
  deriving Inhabited, DecidableEq
abbrev Dk.cs (d : Dk) : List C := [.slice 1 (d.sure.map eS), .slice 2 (d.cache.map Wr.cs), ii d.fuse, bo d.dead]
structure Ve where
  cur : Int
  bit : Int
  o0 : Int
  o1 : Int
  deriving Inhabited, DecidableEq
abbrev Ve.cs (v : Ve) : List C := [u v.cur, u v.bit, u v.o0, u v.o1]
structure Su where
  blocks : Int
  v : Ve
  inc : Bool
  pri : Bool
  dis : Bool
  deriving Inhabited, DecidableEq
abbrev Su.cs (s : Su) : List C := [ii s.blocks, u s.v.cur, u s.v.bit, u s.v.o0, u s.v.o1, bo s.inc, bo s.pri, bo s.dis]
structure He where
  blocks : Int
  v : Ve
  inc : Bool
  was : Bool
  dis : Bool
  pri : Bool
  mask : BitVec 32
  deriving Inhabited, DecidableEq
abbrev He.cs (h : He) : List C := [ii h.blocks, u h.v.cur, u h.v.bit, u h.v.o0, u h.v.o1, bo h.inc, bo h.was, bo h.dis, bo h.pri, w4 (mi h.mask)]
structure Vd where
  kind : Int
  src : Int
  deriving Inhabited, DecidableEq
abbrev Vd.cs (v : Vd) : List C := [ii v.kind, ii v.src]
structure Mi where
  g : Int
  p : Int
  n : Int
  deriving Inhabited, DecidableEq
abbrev Mi.cs (m : Mi) : List C := [u m.g, u m.p, ii m.n]
structure Pk where
  kind : Int
  ses : Int
  hello : He
  block : Int
  data : ByteArray
  deriving Inhabited, DecidableEq
abbrev Pk.cs (p : Pk) : List C := [ii p.kind, u p.ses, ii p.hello.blocks, u p.hello.v.cur, u p.hello.v.bit, u p.hello.v.o0, u p.hello.v.o1, bo p.hello.inc, bo p.hello.was, bo p.hello.dis, bo p.hello.pri, w4 (mi p.hello.mask), ii p.block, st p.data]
structure Lk where
  up : Bool
  ses : Int
  to0 : List ByteArray
  to1 : List ByteArray
  deriving Inhabited, DecidableEq
abbrev Lk.cs (l : Lk) : List C := [bo l.up, u l.ses, .slice 1 (l.to0.map eS), .slice 1 (l.to1.map eS)]
structure So where
  disk : Dk
  super : Su
  mask : BitVec 32
  deriving Inhabited, DecidableEq
abbrev So.cs (s : So) : List C := [.slice 1 (s.disk.sure.map eS), .slice 2 (s.disk.cache.map Wr.cs), ii s.disk.fuse, bo s.disk.dead,
  ii s.super.blocks, u s.super.v.cur, u s.super.v.bit, u s.super.v.o0, u s.super.v.o1, bo s.super.inc, bo s.super.pri, bo s.super.dis, w4 (mi s.mask)]
structure Rq where
  on : Bool
  id : Int
  block : Int
  data : ByteArray
  deriving Inhabited, DecidableEq
abbrev Rq.cs (r : Rq) : List C := [bo r.on, ii r.id, ii r.block, st r.data]
structure Nd where
  id : Int
  up : Bool
  store : So
  primary : Bool
  state : Int
  ses : Int
  peer : He
  peerPri : Bool
  req : Rq
  asking : Bool
  askId : Int
  wanted : Int
  minted : Bool
  draws : List Int
  mints : List Mi
  deriving Inhabited, DecidableEq
abbrev Nd.cs (n : Nd) : List C := [ii n.id, bo n.up, .slice 1 (n.store.disk.sure.map eS), .slice 2 (n.store.disk.cache.map Wr.cs), ii n.store.disk.fuse, bo n.store.disk.dead,
  ii n.store.super.blocks, u n.store.super.v.cur, u n.store.super.v.bit, u n.store.super.v.o0, u n.store.super.v.o1, bo n.store.super.inc, bo n.store.super.pri, bo n.store.super.dis, w4 (mi n.store.mask),
  bo n.primary, ii n.state, u n.ses, ii n.peer.blocks, u n.peer.v.cur, u n.peer.v.bit, u n.peer.v.o0, u n.peer.v.o1, bo n.peer.inc, bo n.peer.was, bo n.peer.dis, bo n.peer.pri, w4 (mi n.peer.mask), bo n.peerPri,
  bo n.req.on, ii n.req.id, ii n.req.block, st n.req.data, bo n.asking, ii n.askId, ii n.wanted, bo n.minted, .slice 1 (n.draws.map eU), .slice 3 (n.mints.map Mi.cs)]
structure Ou where
  kind : Int
  node : Int
  id : Int
  err : Int
  data : ByteArray
  deriving Inhabited, DecidableEq
abbrev Ou.cs (o : Ou) : List C := [ii o.kind, ii o.node, ii o.id, ii o.err, st o.data]
structure Cl where
  n0 : Nd
  n1 : Nd
  link : Lk
  w0 : Bool
  w1 : Bool
  deriving Inhabited, DecidableEq
abbrev Cl.cs (c : Cl) : List C := c.n0.cs ++ (c.n1.cs ++ [bo c.link.up, u c.link.ses, .slice 1 (c.link.to0.map eS), .slice 1 (c.link.to1.map eS), bo c.w0, bo c.w1])
structure Evt where
  kind : Int
  node : Int
  id : Int
  block : Int
  data : ByteArray
  n : Int
  keeps : List Bool
  deriving Inhabited, DecidableEq
abbrev Evt.cs (e : Evt) : List C := [ii e.kind, ii e.node, ii e.id, ii e.block, st e.data, u e.n, .slice 1 (e.keeps.map eB)]
end Go.Dm
namespace Go.Dm
open Go
def vy : Nat → Int → ByteArray → ByteArray
  | 0, _, s => s
  | k + 1, n, s => vy k (IntKind.wrap .u64 (n.tdiv 256)) (cw [IntKind.wrap .u8 (n.tmod 256)] ++ s)
def ea (n : Int) : ByteArray := vy 8 n ⟨#[]⟩
def dH (n : Int) : ByteArray := vy 4 (IntKind.wrap .u64 n) ⟨#[]⟩
def eX (l : List UInt8) : Int := l.foldl (fun n b => IntKind.wrap .u64 (IntKind.wrap .u64 (n * 256) + IntKind.wrap .u64 (b.toNat : Int))) 0
def ae (s : ByteArray) (i : Nat) : UInt8 := s[i]?.getD 0
def fl (b : Bool) (n : Int) : Int := bif b then n else 0
def oJ (n : Int) (b : UInt8) : Int := (IntKind.wrap .u64 (GE .u64 n (IntKind.wrap .u64 (b.toNat : Int)) * 16777619)).tmod 4294967296
def DQ (s : ByteArray) : Int := IntKind.wrap .u32 (s.data.toList.foldl oJ 2166136261)
def bK (s : ByteArray) : ByteArray := s ++ dH (DQ s)
def aa (s : ByteArray) : ByteArray × Int :=
  bif decide ((s.size : Int) < 4) then (⟨#[]⟩, 2) else bif bK (s.extract 0 (s.size - 4)) == s then (s.extract 0 (s.size - 4), 0) else (⟨#[]⟩, 3)
theorem aq (ns : List Int) : (cw ns).size = ns.length := by
  have key : ∀ (l : List Int) (a : ByteArray), (l.foldl (fun r n => r.push (UInt8.ofNat n.toNat)) a).size = a.size + l.length := by
    intro l
    induction l with
    | nil => intro a; rfl
    | cons x l ih => intro a; rw [List.foldl_cons, ih, ByteArray.size_push, List.length_cons]; omega
  have := key ns ByteArray.empty
  simpa [cw] using this
theorem mQ : ∀ (k : Nat) (n : Int) (s : ByteArray), (vy k n s).size = k + s.size
  | 0, n, s => by simp [vy]
  | k + 1, n, s => by
    rw [vy, mQ k, ByteArray.size_append, aq]
    simp only [List.length_cons, List.length_nil]
    omega
theorem aQ (a : Array UInt8) : (ByteArray.mk a).size = a.size := rfl
theorem aJ : (⟨#[]⟩ : ByteArray).size = 0 := rfl
theorem ap (n : Int) : (ea n).size = 8 := by unfold ea; rw [mQ, aJ]
theorem az (n : Int) : (dH n).size = 4 := by unfold dH; rw [mQ, aJ]
theorem ar (s : ByteArray) : (bK s).size = s.size + 4 := by unfold bK; rw [ByteArray.size_append, az]
theorem gv (s : ByteArray) (i : Nat) : s[i]? = s.data.toList[i]? := by
  by_cases h : i < s.size
  · rw [getElem?_pos s i h]
    have h2 : i < s.data.toList.length := by simpa using h
    rw [List.getElem?_eq_getElem h2]
    simp
    rfl
  · rw [getElem?_neg s i h, List.getElem?_eq_none (by simpa using h)]
theorem tq (s : ByteArray) : s.data.toList.length = s.size := by simp
theorem F8 {α : Type} {l : List α} (h : l.length = 8) : ∃ a b c d e f g i, l = [a, b, c, d, e, f, g, i] := by
  match l, h with
  | [a, b, c, d, e, f, g, i], _ => exact ⟨a, b, c, d, e, f, g, i, rfl⟩
theorem Fg {α : Type} {l : List α} (h : l.length = 4) : ∃ a b c d, l = [a, b, c, d] := by
  match l, h with
  | [a, b, c, d], _ => exact ⟨a, b, c, d, rfl⟩
theorem ft {s : ByteArray} {i : Nat} (h : i < s.size) : s[i]? = some (ae s i) := by
  unfold ae
  rw [getElem?_pos s i h]
  rfl
def dj (d : Dk) (i : Int) : ByteArray := d.cache.foldl (fun s w => bif w.sec == i then w.data else s) (d.sure.getD i.toNat ⟨#[]⟩)
def bd (d : Dk) (i : Int) : ByteArray × Int :=
  bif d.dead then (⟨#[]⟩, 6) else bif decide (i < 0) || decide (i ≥ (d.sure.length : Int)) then (⟨#[]⟩, 4) else (dj d i, 0)
def aT (d : Dk) : Dk :=
  { d with dead := bif d.fuse == 1 then true else d.dead, fuse := bif decide (d.fuse > 0) then IntKind.wrap .i64 (d.fuse - 1) else d.fuse }
def bm (d : Dk) (i : Int) (data : ByteArray) : Dk × Int :=
  bif d.dead then (d, 6) else bif decide (i < 0) || decide (i ≥ (d.sure.length : Int)) then (d, 4) else bif decide ((data.size : Int) > 64) then (d, 5) else
  bif (aT d).dead then (aT d, 6) else ({ aT d with cache := (aT d).cache ++ [⟨i, data⟩] }, 0)
def ju (d : Dk) : List ByteArray := (List.range d.sure.length).map fun (i : Nat) => dj d (i : Int)
def dT (d : Dk) : Dk × Int :=
  bif d.dead then (d, 6) else bif (aT d).dead then (aT d, 6) else
  ({ aT d with sure := ju (aT d), cache := [] }, 0)
def CL (d : Dk) (n : Int) : Dk := { d with fuse := if 0 > n then 0 else n }
def pO (d : Dk) : Dk := { d with dead := true, fuse := 0 }
def bU (d : Dk) (keeps : List Bool) : Dk :=
  ⟨(d.cache.zip keeps).foldl (fun s x => bif x.2 then s.set x.1.sec.toNat x.1.data else s) d.sure, [], 0, false⟩
def aL (v : Ve) (g : Int) : Int := bif g == 0 then -1 else bif v.cur == g then 0 else bif v.bit == g then 1 else bif v.o0 == g then 2 else bif v.o1 == g then 3 else -1
def dB (v : Ve) (g : Int) : Ve := bif v.bit == 0 then ⟨g, v.cur, v.o0, v.o1⟩ else ⟨g, v.bit, v.cur, v.o0⟩
def bF (v : Ve) : Ve := bif v.bit == 0 then v else ⟨v.cur, 0, v.bit, v.o0⟩
def qD (v : Ve) (g : Int) : Ve := { v with bit := g }
def cH (s : Su) : Bool := decide (s.blocks ≥ 1) && decide (s.blocks ≤ 32) && !(s.v.cur == 0)
def dE (s : Su) : ByteArray := (((((⟨#[71, 77, 1]⟩ ++ cw [IntKind.wrap .u8 s.blocks, fl s.inc 1 + fl s.pri 2 + fl s.dis 4]) ++ ea s.v.cur) ++ ea s.v.bit) ++ ea s.v.o0) ++ ea s.v.o1)
theorem al (s : Su) : (dE s).size = 37 := by
  unfold dE
  simp only [ByteArray.size_append, aq, ap, List.length_cons, List.length_nil]
  rfl
def bn (s : Su) : ByteArray × Int := bif !cH s then (⟨#[]⟩, 1) else (bK (dE s), 0)
def su0 : Su := ⟨0, ⟨0, 0, 0, 0⟩, false, false, false⟩
def bN (t : ByteArray) (at' : Nat) : Int := eX (t.extract at' (at' + 8)).data.toList
def aV (b : UInt8) (i : Nat) : Bool := ((b.toNat / 2 ^ i) % 2 == 1)
def Ay (t : ByteArray) : Su := ⟨IntKind.wrap .i64 ((ae t 3).toNat : Int), ⟨bN t 5, bN t 13, bN t 21, bN t 29⟩, aV (ae t 4) 0, aV (ae t 4) 1, aV (ae t 4) 2⟩
def cu (b : ByteArray) : Su × Int :=
  bif !((aa b).2 == 0) then (su0, (aa b).2) else
  bif !(((aa b).1.size : Int) == 37) || decide (((ae (aa b).1 4).toNat : Int) > 7) then (su0, 2) else
  bif !cH (Ay (aa b).1) || !(dE (Ay (aa b).1) == (aa b).1) then (su0, 2) else (Ay (aa b).1, 0)
def mV (d : Dk) (s : Su) : Bool := IntKind.wrap .i64 ((d.sure.length : Int) - 2) == s.blocks
def gd (d : Dk) : Su × Int :=
  bif !((bd d 0).2 == 0) then (su0, (bd d 0).2) else bif !((cu (bd d 0).1).2 == 0) then (su0, (cu (bd d 0).1).2) else
  bif !mV d (cu (bd d 0).1).1 then (su0, 2) else ((cu (bd d 0).1).1, 0)
def cb (d : Dk) (s : Su) : Dk × Int :=
  bif !((bn s).2 == 0) || !mV d s then (d, 1) else
  bif !((bm d 0 (bn s).1).2 == 0) then bm d 0 (bn s).1 else dT (bm d 0 (bn s).1).1
def fj (d : Dk) : BitVec 32 × Int :=
  bif !((bd d 1).2 == 0) then (0#32, (bd d 1).2) else bif !((aa (bd d 1).1).2 == 0) then (0#32, (aa (bd d 1).1).2) else
  bif !(((aa (bd d 1).1).1.size : Int) == 4) then (0#32, 2) else
  bif !iS (BitVec.ofInt 32 (eX (aa (bd d 1).1).1.data.toList)) (IntKind.wrap .i64 ((d.sure.length : Int) - 2)) then (0#32, 2) else (BitVec.ofInt 32 (eX (aa (bd d 1).1).1.data.toList), 0)
def d8 (d : Dk) (m : BitVec 32) : Dk × Int :=
  bif !iS m (IntKind.wrap .i64 ((d.sure.length : Int) - 2)) then (d, 1) else bm d 1 (bK (dH (mi m)))
def g8 (d : Dk) (m : BitVec 32) : Dk × Int :=
  bif !((d8 d m).2 == 0) then d8 d m else dT (d8 d m).1
def j4 (d : Dk) (i : Int) : Bool := decide (i ≥ 0) && decide (i < IntKind.wrap .i64 ((d.sure.length : Int) - 2))
def bz (d : Dk) (i : Int) : ByteArray × Int :=
  bif !j4 d i then (⟨#[]⟩, 4) else bif !((bd d (IntKind.wrap .i64 (i + 2))).2 == 0) then (⟨#[]⟩, (bd d (IntKind.wrap .i64 (i + 2))).2) else
  bif !(((bd d (IntKind.wrap .i64 (i + 2))).1.size : Int) == 8) then (⟨#[]⟩, 2) else ((bd d (IntKind.wrap .i64 (i + 2))).1, 0)
def iN (d : Dk) (i : Int) (data : ByteArray) : Dk × Int :=
  bif !j4 d i then (d, 4) else bif !((data.size : Int) == 8) then (d, 5) else
  bif !((bm d (IntKind.wrap .i64 (i + 2)) data).2 == 0) then bm d (IntKind.wrap .i64 (i + 2)) data else dT (bm d (IntKind.wrap .i64 (i + 2)) data).1
def tA (d : Dk) : List ByteArray × Int :=
  match (List.range (d.sure.length - 2)).find? (fun (i : Nat) => !((bz d (i : Int)).2 == 0)) with
  | some i => ([], (bz d (i : Int)).2)
  | none => ((List.range (d.sure.length - 2)).map fun (i : Nat) => (bz d (i : Int)).1, 0)
def Et (s : Su) (pri : Bool) (m : BitVec 32) : He := ⟨s.blocks, s.v, s.inc, s.pri && !pri, s.dis, pri, m⟩
def cA (h : He) : Bool := decide (h.blocks ≥ 1) && decide (h.blocks ≤ 32) && !(h.v.cur == 0) && iS h.mask h.blocks && !(h.pri && h.was) && !(h.pri && h.inc)
def f9 (h : He) : ByteArray := (((((cw [IntKind.wrap .u8 h.blocks, fl h.inc 1 + fl h.was 2 + fl h.dis 4 + fl h.pri 8] ++ ea h.v.cur) ++ ea h.v.bit) ++ ea h.v.o0) ++ ea h.v.o1) ++ dH (mi h.mask))
theorem ak (h : He) : (f9 h).size = 38 := by
  unfold f9
  simp only [ByteArray.size_append, aq, ap, az, List.length_cons, List.length_nil]
def gH (h : He) : ByteArray × Int := bif !cA h then (⟨#[]⟩, 1) else (f9 h, 0)
def he0 : He := ⟨0, ⟨0, 0, 0, 0⟩, false, false, false, false, 0#32⟩
def DR (b : ByteArray) : He := ⟨IntKind.wrap .i64 ((ae b 0).toNat : Int), ⟨bN b 2, bN b 10, bN b 18, bN b 26⟩, aV (ae b 1) 0, aV (ae b 1) 1, aV (ae b 1) 2, aV (ae b 1) 3, BitVec.ofInt 32 (eX (b.extract 34 b.size).data.toList)⟩
def eR (b : ByteArray) : He × Int :=
  bif !((b.size : Int) == 38) || decide (((ae b 1).toNat : Int) > 15) then (he0, 2) else bif !cA (DR b) then (he0, 2) else (DR b, 0)
end Go.Dm
namespace Go.Dm
open Go
def ay : Vd := ⟨4, -1⟩
def aO (kind src : Int) (t : He) : Vd := bif t.pri || kind == 4 then ay else ⟨kind, src⟩
def ee (s t : He) : Int :=
  bif s.dis then 4 else bif decide (aL s.v t.v.bit ≥ 0) then 2 else bif t.dis then 3 else
  bif decide (aL s.v t.v.cur < 0) then 4 else bif decide (aL s.v t.v.cur ≤ 1) then 2 else 3
def cl (p : Int) : Int := bif p == 0 then 4 else bif p == 1 then 2 else 3
def ag (x y : He) : Vd :=
  bif !(x.blocks == y.blocks) || x.pri && y.pri || x.inc && y.inc || x.dis && y.dis then ay else
  bif x.inc then aO (ee y x) 1 x else bif y.inc then aO (ee x y) 0 y else
  bif x.dis then aO 3 1 x else bif y.dis then aO 3 0 y else
  bif x.v.cur == y.v.cur then
    (bif mi x.mask == 0 && mi y.mask == 0 then ⟨1, -1⟩ else bif y.pri || !x.pri && y.was && !x.was then aO 2 1 x else aO 2 0 y) else
  bif decide (aL x.v y.v.cur > 0) && decide (aL y.v x.v.cur < 0) then aO (cl (aL x.v y.v.cur)) 0 y else
  bif decide (aL y.v x.v.cur > 0) && decide (aL x.v y.v.cur < 0) then aO (cl (aL y.v x.v.cur)) 1 x else ay
def vf (v : Vd) (x y : He) : BitVec 32 := bif v.kind == 2 then x.mask ||| y.mask else bif v.kind == 3 then CE x.blocks else 0#32
def bJ (k : Int) : Bool := decide (k ≥ 2) && decide (k ≤ 7)
def fH (k : Int) : Bool := k == 2 || k == 6
def dC (h : He) : Bool := (h.blocks == 0 && ((h.v.cur == 0 && (h.v.bit == 0 && ((h.v.o0 == 0 && (h.v.o1 == 0 && true)) && true))) && (h.inc == false && (h.was == false && (h.dis == false && (h.pri == false && (mi h.mask == 0 && true)))))))
theorem vl (h : He) : dC h = true ↔ h = he0 := by
  obtain ⟨b, ⟨c, d, e, f⟩, g, i, j, k, m⟩ := h
  have hm : ((m.toNat : Int) = 0) ↔ m = 0#32 := by
    constructor
    · intro h; apply BitVec.eq_of_toNat_eq; simp; omega
    · rintro rfl; rfl
  have hm2 : m.toNat = 0 ↔ m = 0#32 := by rw [← hm]; omega
  simp [dC, he0, hm2]
def bA (p : Pk) : Bool :=
  bif decide (p.kind < 1) || decide (p.kind > 13) then false else
  bif p.kind == 1 && !cA p.hello || !(p.kind == 1) && !dC p.hello then false else
  bif decide (p.block < 0) || decide (p.block > 31) || !bJ p.kind && !(p.block == 0) then false else
  bif fH p.kind then (p.data.size : Int) == 8 else p.data == ⟨#[]⟩
def iR (p : Pk) : ByteArray :=
  bif bJ p.kind then
    (bif p.kind == 1 then (cw [IntKind.wrap .u8 p.kind] ++ ea p.ses) ++ (gH p.hello).1 else cw [IntKind.wrap .u8 p.kind] ++ ea p.ses) ++ cw [IntKind.wrap .u8 p.block]
  else bif p.kind == 1 then (cw [IntKind.wrap .u8 p.kind] ++ ea p.ses) ++ (gH p.hello).1 else cw [IntKind.wrap .u8 p.kind] ++ ea p.ses
theorem kL (h : He) : (gH h).1.size ≤ 38 := by
  unfold gH
  cases cA h with
  | false => exact Nat.zero_le _
  | true => exact Nat.le_of_eq (ak h)
def cd (p : Pk) : ByteArray := iR p ++ p.data
def dF (p : Pk) : ByteArray × Int := bif !bA p then (⟨#[]⟩, 1) else (bK (cd p), 0)
def pk0 : Pk := ⟨0, 0, he0, 0, ⟨#[]⟩⟩
abbrev jS (t : ByteArray) : Int := IntKind.wrap .i64 ((ae t 0).toNat : Int)
abbrev kZ (t : ByteArray) : ByteArray := t.extract 9 t.size
def o6 (t : ByteArray) : Bool := decide (((kZ t).size : Int) > 0)
def ng (t : ByteArray) : Pk :=
  bif jS t == 1 then ⟨jS t, eX (t.extract 1 9).data.toList, (eR (kZ t)).1, 0, ⟨#[]⟩⟩ else
  bif bJ (jS t) && o6 t then ⟨jS t, eX (t.extract 1 9).data.toList, he0, IntKind.wrap .i64 ((ae (kZ t) 0).toNat : Int), (kZ t).extract 1 (kZ t).size⟩
  else ⟨jS t, eX (t.extract 1 9).data.toList, he0, 0, kZ t⟩
def e7 (t : ByteArray) : Pk × Int :=
  bif decide ((t.size : Int) < 9) then (pk0, 2) else
  bif jS t == 1 && !((eR (kZ t)).2 == 0) then (pk0, 2) else
  bif !bA (ng t) || !(cd (ng t) == t) then (pk0, 2) else (ng t, 0)
def bc (b : ByteArray) : Pk × Int :=
  bif !((aa b).2 == 0) then (pk0, (aa b).2) else e7 (aa b).1
def aA (b : ByteArray) (ses : Int) : Pk × Int :=
  bif !((bc b).2 == 0) then (pk0, (bc b).2) else bif !((bc b).1.ses == ses) then (pk0, 16) else ((bc b).1, 0)
def cL (l : Lk) : Lk := ⟨true, IntKind.wrap .u64 (l.ses + 1), [], []⟩
def bi (l : Lk) : Lk := ⟨false, l.ses, [], []⟩
def cp (l : Lk) (to : Int) (ps : List ByteArray) : Lk × Int :=
  bif !(to == 0) && !(to == 1) then (l, 1) else bif !l.up then (l, 7) else
  bif to == 0 then ({ l with to0 := l.to0 ++ ps }, 0) else ({ l with to1 := l.to1 ++ ps }, 0)
def dk (l : Lk) (to : Int) : ByteArray × Lk × Bool :=
  bif to == 0 then (match l.to0 with | [] => (⟨#[]⟩, l, false) | x :: r => (x, { l with to0 := r }, true)) else
  bif to == 1 then (match l.to1 with | [] => (⟨#[]⟩, l, false) | x :: r => (x, { l with to1 := r }, true)) else (⟨#[]⟩, l, false)
end Go.Dm
namespace Go.Dm
open Go
theorem gL (d : Dk) (i : Int) (x : ByteArray) : (bm d i x).1.sure = d.sure := by
  unfold bm
  cases d.dead <;> cases (decide (i < 0) || decide (i ≥ (d.sure.length : Int))) <;> cases decide ((x.size : Int) > 64) <;> cases h : (aT d).dead <;> simp [aT]
theorem eF (d : Dk) (i : Int) (x : ByteArray) : (bm d i x).1.cache.length ≤ d.cache.length + 1 := by
  unfold bm
  cases d.dead <;> cases (decide (i < 0) || decide (i ≥ (d.sure.length : Int))) <;> cases decide ((x.size : Int) > 64) <;> cases h : (aT d).dead <;> simp [aT]
theorem qo (d : Dk) (m : BitVec 32) : (d8 d m).1.sure = d.sure := by
  unfold d8
  cases iS m (IntKind.wrap .i64 ((d.sure.length : Int) - 2)) with
  | false => rfl
  | true => exact gL _ _ _
theorem ni (d : Dk) (m : BitVec 32) : (d8 d m).1.cache.length ≤ d.cache.length + 1 := by
  unfold d8
  cases iS m (IntKind.wrap .i64 ((d.sure.length : Int) - 2)) with
  | false => exact Nat.le_succ _
  | true => exact eF _ _ _
def AT (a b : Su) : Bool := (a.blocks == b.blocks && ((a.v.cur == b.v.cur && (a.v.bit == b.v.bit && ((a.v.o0 == b.v.o0 && (a.v.o1 == b.v.o1 && true)) && true))) && (a.inc == b.inc && (a.pri == b.pri && (a.dis == b.dis && true)))))
theorem tM (a b : Su) : AT a b = true ↔ a = b := by
  obtain ⟨a1, ⟨a2, a3, a4, a5⟩, a6, a7, a8⟩ := a
  obtain ⟨b1, ⟨b2, b3, b4, b5⟩, b6, b7, b8⟩ := b
  simp [AT, and_assoc]
def so0 : So := ⟨⟨[], [], 0, false⟩, su0, 0#32⟩
def bq (d : Dk) : So × Int :=
  bif !((gd d).2 == 0) then (so0, (gd d).2) else bif !((fj d).2 == 0) then (so0, (fj d).2) else
  bif !((tA d).2 == 0) then (so0, (tA d).2) else (⟨d, (gd d).1, (fj d).1⟩, 0)
def bO (s : So) (b : Su) : So × Int :=
  bif AT b s.super then (s, 0) else
  bif (cb s.disk b).2 == 0 then (⟨(cb s.disk b).1, b, s.mask⟩, (cb s.disk b).2) else (⟨(cb s.disk b).1, s.super, s.mask⟩, (cb s.disk b).2)
def kB (s : So) (m : BitVec 32) : So × Int :=
  bif mi m == mi s.mask then (s, 0) else
  bif (g8 s.disk m).2 == 0 then (⟨(g8 s.disk m).1, s.super, m⟩, (g8 s.disk m).2) else (⟨(g8 s.disk m).1, s.super, s.mask⟩, (g8 s.disk m).2)
def yu (s : So) (i : Int) : Bool := decide (i < 0) || decide (i ≥ s.super.blocks)
def fI (s : So) (i : Int) : So × Int := bif yu s i then (s, 4) else kB s (yP s.mask [i])
def dG (s : So) (i : Int) : So × Int :=
  bif yu s i then (s, 4) else bif mi (sc s.mask [i]) == mi s.mask then (s, 0) else
  bif (d8 s.disk (sc s.mask [i])).2 == 0 then (⟨(d8 s.disk (sc s.mask [i])).1, s.super, sc s.mask [i]⟩, (d8 s.disk (sc s.mask [i])).2)
  else (⟨(d8 s.disk (sc s.mask [i])).1, s.super, s.mask⟩, (d8 s.disk (sc s.mask [i])).2)
def dK (s : So) (m : BitVec 32) : So × Int := kB s (s.mask ||| m)
def d9 (s : So) (i : Int) (data : ByteArray) : So × Int := (⟨(iN s.disk i data).1, s.super, s.mask⟩, (iN s.disk i data).2)
end Go.Dm
namespace Go.Dm
open Go
def rq0 : Rq := ⟨false, 0, 0, ⟨#[]⟩⟩
def ch (n : Nd) : Nd := ⟨n.id, false, ⟨pO n.store.disk, su0, 0#32⟩, false, 0, 0, he0, false, rq0, false, 0, 0, false, n.draws, n.mints⟩
def af (n : Nd) (id e : Int) (data : ByteArray) : Ou := ⟨2, n.id, id, e, data⟩
def aR (n : Nd) (p : Pk) : Ou := ⟨1, n.id, 0, 0, (dF { p with ses := n.ses }).1⟩
def ac (n : Nd) (b : Su) : Nd × Bool :=
  bif !((bO n.store b).2 == 0) then (ch { n with store := (bO n.store b).1 }, false) else ({ n with store := (bO n.store b).1 }, true)
def i4 (n : Nd) : Bool := n.state == 2 || n.state == 3
def pkk (kind : Int) : Pk := ⟨kind, 0, he0, 0, ⟨#[]⟩⟩
def bT (n : Nd) (id : Int) : Nd × List Ou :=
  bif !n.up then (n, [af n id 7 ⟨#[]⟩]) else bif n.primary then (n, [af n id 8 ⟨#[]⟩]) else
  bif n.store.super.inc then (n, [af n id 9 ⟨#[]⟩]) else bif n.store.super.dis then (n, [af n id 10 ⟨#[]⟩]) else
  bif n.state == 1 || n.state == 4 || n.asking then (n, [af n id 11 ⟨#[]⟩]) else bif n.peerPri then (n, [af n id 12 ⟨#[]⟩]) else
  bif i4 n then ({ n with asking := true, askId := id }, [aR { n with asking := true, askId := id } (pkk 10)]) else
  bif !(ac n { n.store.super with pri := true }).2 then ((ac n { n.store.super with pri := true }).1, []) else
  ({ (ac n { n.store.super with pri := true }).1 with primary := true }, [af { (ac n { n.store.super with pri := true }).1 with primary := true } id 0 ⟨#[]⟩])
def cT (n : Nd) (id : Int) : Nd × List Ou :=
  bif !n.up then (n, [af n id 7 ⟨#[]⟩]) else bif !n.primary then (n, [af n id 8 ⟨#[]⟩]) else
  bif n.req.on || n.state == 1 then (n, [af n id 11 ⟨#[]⟩]) else
  bif !(ac n { n.store.super with pri := false }).2 then ((ac n { n.store.super with pri := false }).1, []) else
  bif i4 { (ac n { n.store.super with pri := false }).1 with primary := false } then
    ({ (ac n { n.store.super with pri := false }).1 with primary := false }, [aR { (ac n { n.store.super with pri := false }).1 with primary := false } (pkk 13), af { (ac n { n.store.super with pri := false }).1 with primary := false } id 0 ⟨#[]⟩]) else
    ({ (ac n { n.store.super with pri := false }).1 with primary := false }, [af { (ac n { n.store.super with pri := false }).1 with primary := false } id 0 ⟨#[]⟩])
def cG (n : Nd) (id : Int) : Nd × List Ou :=
  bif !n.up then (n, [af n id 7 ⟨#[]⟩]) else bif n.primary then (n, [af n id 8 ⟨#[]⟩]) else bif !(n.state == 0) then (n, [af n id 11 ⟨#[]⟩]) else
  bif !(ac n { n.store.super with dis := true }).2 then ((ac n { n.store.super with dis := true }).1, []) else
  ((ac n { n.store.super with dis := true }).1, [af (ac n { n.store.super with dis := true }).1 id 0 ⟨#[]⟩])
def fA (n : Nd) (id block : Int) : Nd × List Ou :=
  bif !n.up then (n, [af n id 7 ⟨#[]⟩]) else bif !n.primary then (n, [af n id 8 ⟨#[]⟩]) else
  (n, [af n id (bz n.store.disk block).2 (bz n.store.disk block).1])
def d7 (n : Nd) (s : So) (e : Int) : Nd × Bool := bif !(e == 0) then (ch { n with store := s }, false) else ({ n with store := s }, true)
end Go.Dm
namespace Go.Dm
open Go
theorem ai {α : Type} {p : α → Prop} {b : Bool} {x y : α} (hx : p x) (hy : p y) : p (bif b then x else y) := by
  cases b
  · exact hy
  · exact hx
def Fit (d e : Dk) : Prop := e.sure.length = d.sure.length ∧ e.cache.length ≤ d.cache.length + 1
theorem Fit.refl (d : Dk) : Fit d d := ⟨rfl, Nat.le_succ _⟩
theorem iB (d : Dk) (i : Int) (x : ByteArray) : Fit d (bm d i x).1 := ⟨by rw [gL], eF d i x⟩
theorem l9 (d e : Dk) (h : Fit d e) : Fit d (dT e).1 := by
  unfold dT
  refine ai (p := fun (x : Dk × Int) => Fit d x.1) h (ai (p := fun (x : Dk × Int) => Fit d x.1) h ?_)
  exact ⟨by simp [ju, aT, h.1], Nat.zero_le _⟩
theorem mC (d : Dk) (s : Su) : Fit d (cb d s).1 := by
  unfold cb
  exact ai (p := fun (x : Dk × Int) => Fit d x.1) (Fit.refl d) (ai (p := fun (x : Dk × Int) => Fit d x.1) (iB _ _ _) (l9 _ _ (iB _ _ _)))
theorem lM (d : Dk) (m : BitVec 32) : Fit d (d8 d m).1 := ⟨by rw [qo], ni d m⟩
theorem qX (d : Dk) (m : BitVec 32) : Fit d (g8 d m).1 := by
  unfold g8
  exact ai (p := fun (x : Dk × Int) => Fit d x.1) (lM _ _) (l9 _ _ (lM _ _))
theorem zE (d : Dk) (i : Int) (x : ByteArray) : Fit d (iN d i x).1 := by
  unfold iN
  exact ai (p := fun (x : Dk × Int) => Fit d x.1) (Fit.refl d) (ai (p := fun (x : Dk × Int) => Fit d x.1) (Fit.refl d) (ai (p := fun (x : Dk × Int) => Fit d x.1) (iB _ _ _) (l9 _ _ (iB _ _ _))))
theorem md (s : So) (b : Su) : Fit s.disk (bO s b).1.disk := by
  unfold bO
  exact ai (p := fun (x : So × Int) => Fit s.disk x.1.disk) (Fit.refl _) (ai (p := fun (x : So × Int) => Fit s.disk x.1.disk) (mC _ _) (mC _ _))
theorem pH (s : So) (m : BitVec 32) : Fit s.disk (kB s m).1.disk := by
  unfold kB
  exact ai (p := fun (x : So × Int) => Fit s.disk x.1.disk) (Fit.refl _) (ai (p := fun (x : So × Int) => Fit s.disk x.1.disk) (qX _ _) (qX _ _))
theorem v6 (s : So) (i : Int) : Fit s.disk (fI s i).1.disk := by
  unfold fI
  exact ai (p := fun (x : So × Int) => Fit s.disk x.1.disk) (Fit.refl _) (pH _ _)
theorem xt (s : So) (i : Int) : Fit s.disk (dG s i).1.disk := by
  unfold dG
  exact ai (p := fun (x : So × Int) => Fit s.disk x.1.disk) (Fit.refl _) (ai (p := fun (x : So × Int) => Fit s.disk x.1.disk) (Fit.refl _) (ai (p := fun (x : So × Int) => Fit s.disk x.1.disk) (lM _ _) (lM _ _)))
theorem wU (s : So) (m : BitVec 32) : Fit s.disk (dK s m).1.disk := pH _ _
theorem xx (s : So) (i : Int) (x : ByteArray) : Fit s.disk (d9 s i x).1.disk := zE _ _ _
theorem u5 (n : Nd) (s : So) (e : Int) : (d7 n s e).1.store.disk.sure = s.disk.sure := by
  unfold d7
  exact ai (p := fun (x : Nd × Bool) => x.1.store.disk.sure = s.disk.sure) rfl rfl
theorem sh (n : Nd) (s : So) (e : Int) : (d7 n s e).1.store.disk.cache = s.disk.cache := by
  unfold d7
  exact ai (p := fun (x : Nd × Bool) => x.1.store.disk.cache = s.disk.cache) rfl rfl
def pkb (kind block : Int) : Pk := ⟨kind, 0, he0, block, ⟨#[]⟩⟩
def pkd (kind block : Int) (x : ByteArray) : Pk := ⟨kind, 0, he0, block, x⟩
def dZ (n : Nd) (block : Int) : Nd × Bool := d7 n (fI n.store block).1 (fI n.store block).2
def fE (n : Nd) (block : Int) (x : ByteArray) : Nd × Bool :=
  bif !(dZ n block).2 then ((dZ n block).1, false) else
  d7 (dZ n block).1 (d9 (dZ n block).1.store block x).1 (d9 (dZ n block).1.store block x).2
def aK (n : Nd) (block : Int) : Nd × Bool := d7 n (dG n.store block).1 (dG n.store block).2
def e9 (n : Nd) (block : Int) : Nd × List Ou :=
  bif !n.req.on || !(n.req.block == block) then (n, []) else
  bif !(aK { n with req := rq0 } block).2 then ((aK { n with req := rq0 } block).1, [af n n.req.id 0 ⟨#[]⟩]) else
  ((aK { n with req := rq0 } block).1, [af n n.req.id 0 ⟨#[]⟩, aR (aK { n with req := rq0 } block).1 (pkb 4 block)])
def fN (n : Nd) (block : Int) (x : ByteArray) : Nd × List Ou :=
  bif !(fE n block x).2 then ((fE n block x).1, []) else ((fE n block x).1, [aR (fE n block x).1 (pkb 3 block)])
def eO (n : Nd) (block : Int) : Nd := bif n.req.on && n.req.block == block then n else (aK n block).1
def zu (n : Nd) (block : Int) : List Ou := [aR n (pkd 6 block (bz n.store.disk block).1)]
def ck (n : Nd) : Su := { n.store.super with v := bF n.store.super.v, pri := n.primary }
def fQ (n : Nd) : Nd × List Ou :=
  bif !(ac n (ck n)).2 then ((ac n (ck n)).1, []) else
  ({ (ac n (ck n)).1 with state := 2 }, [aR { (ac n (ck n)).1 with state := 2 } (pkk 9)])
def cy (n : Nd) : He := Et n.store.super n.primary n.store.mask
def eM (n : Nd) (ses : Int) : Nd := { n with state := 1, ses := ses, minted := false }
def cv (n : Nd) (ses : Int) : Nd × List Ou := (eM n ses, [aR (eM n ses) ⟨1, 0, cy (eM n ses), 0, ⟨#[]⟩⟩])
def aN (n : Nd) (h : He) : Vd × BitVec 32 :=
  bif n.id == 1 then (ag h (cy n), vf (ag h (cy n)) h (cy n)) else (ag (cy n) h, vf (ag (cy n) h) (cy n) h)
end Go.Dm
namespace Go.Dm
open Go
abbrev Nd.csd (n : Nd) (ds : List (List C)) : List C := [ii n.id, bo n.up, .slice 1 (n.store.disk.sure.map eS), .slice 2 (n.store.disk.cache.map Wr.cs), ii n.store.disk.fuse, bo n.store.disk.dead,
  ii n.store.super.blocks, u n.store.super.v.cur, u n.store.super.v.bit, u n.store.super.v.o0, u n.store.super.v.o1, bo n.store.super.inc, bo n.store.super.pri, bo n.store.super.dis, w4 (mi n.store.mask),
  bo n.primary, ii n.state, u n.ses, ii n.peer.blocks, u n.peer.v.cur, u n.peer.v.bit, u n.peer.v.o0, u n.peer.v.o1, bo n.peer.inc, bo n.peer.was, bo n.peer.dis, bo n.peer.pri, w4 (mi n.peer.mask), bo n.peerPri,
  bo n.req.on, ii n.req.id, ii n.req.block, st n.req.data, bo n.asking, ii n.askId, ii n.wanted, bo n.minted, .slice 1 ds, .slice 3 (n.mints.map Mi.cs)]
def AZ (n : Nd) (r : List Int) : Nd := { n with draws := r }
def i6 (n : Nd) (g : Int) (r : List Int) : Nd := { n with draws := r, mints := n.mints ++ [⟨g, n.store.super.v.cur, n.id⟩] }
def kj (n : Nd) (g : Int) : Su := { n.store.super with v := dB n.store.super.v g }
def fL (n : Nd) (g : Int) (r : List Int) : Nd × Int :=
  bif g == 0 then (AZ n r, 14) else
  bif !(ac (i6 n g r) (kj n g)).2 then ((ac (i6 n g r) (kj n g)).1, 6) else ({ (ac (i6 n g r) (kj n g)).1 with minted := true }, 0)
def aH (n : Nd) : Nd × Int := match n.draws with
  | [] => (n, 14)
  | g :: r => fL n g r
def eV (n : Nd) : List Ou := bif n.asking then [af n n.askId 13 ⟨#[]⟩] else []
def fD (n : Nd) : Nd := ⟨n.id, n.up, n.store, n.primary, 0, 0, he0, false, rq0, false, 0, 0, false, n.draws, n.mints⟩
def an (n : Nd) : Nd × List Ou :=
  bif n.state == 0 then (n, []) else bif !n.req.on then (fD n, eV n) else
  bif (aH (fD n)).2 == 6 then ((aH (fD n)).1, eV n) else
  ((aH (fD n)).1, eV n ++ [af (aH (fD n)).1 n.req.id (aH (fD n)).2 ⟨#[]⟩])
def bP (n : Nd) (block : Int) (x : ByteArray) : Int :=
  bif !n.up then 7 else bif !n.primary then 8 else bif decide (block < 0) || decide (block ≥ n.store.super.blocks) then 4 else
  bif !((x.size : Int) == 8) then 5 else bif n.req.on || n.state == 1 then 11 else 0
def cf (n : Nd) (id block : Int) (x : ByteArray) : Nd × List Ou :=
  bif !(fE n block x).2 then ((fE n block x).1, []) else
  bif (fE n block x).1.state == 0 then ((fE n block x).1, [af (fE n block x).1 id 0 ⟨#[]⟩]) else
  ({ (fE n block x).1 with req := ⟨true, id, block, x⟩ }, [aR { (fE n block x).1 with req := ⟨true, id, block, x⟩ } (pkd 2 block x)])
def bR (n : Nd) (id block : Int) (x : ByteArray) : Nd × List Ou :=
  bif !(bP n block x == 0) then (n, [af n id (bP n block x) ⟨#[]⟩]) else
  bif n.state == 0 && !n.minted then
    (bif (aH n).2 == 6 then ((aH n).1, []) else bif !((aH n).2 == 0) then ((aH n).1, [af (aH n).1 id (aH n).2 ⟨#[]⟩]) else cf (aH n).1 id block x)
  else cf n id block x
def gi (n : Nd) : Su := ⟨n.store.super.blocks, bF n.peer.v, false, false, false⟩
def cQ (n : Nd) : Nd × List Ou :=
  bif !n.store.super.inc || !(n.wanted == 0) then (n, []) else
  bif (jG n.store.mask 0).isSome then
    ({ n with wanted := IntKind.wrap .i64 ((jG n.store.mask 0).getD 0 + 1) }, [aR { n with wanted := IntKind.wrap .i64 ((jG n.store.mask 0).getD 0 + 1) } (pkb 5 ((jG n.store.mask 0).getD 0))]) else
  bif !(ac n (gi n)).2 then ((ac n (gi n)).1, []) else ((ac n (gi n)).1, [aR (ac n (gi n)).1 (pkk 8)])
def bw (n : Nd) (p : Pk) : Bool :=
  bif !n.up || decide (p.kind ≥ 2) && decide (p.kind ≤ 7) && decide (p.block ≥ n.store.super.blocks) then false else
  bif p.kind == 1 then n.state == 1 else
  bif p.kind == 2 then !n.primary && (n.state == 2 || n.state == 4) else
  bif p.kind == 3 then n.state == 2 || n.state == 3 else
  bif p.kind == 4 then n.state == 2 || n.state == 4 else
  bif p.kind == 5 || p.kind == 7 || p.kind == 8 then n.state == 3 else
  bif p.kind == 6 then n.state == 4 else
  bif p.kind == 9 then n.state == 4 && !n.store.super.inc else
  bif p.kind == 10 || p.kind == 13 then n.state == 2 || n.state == 3 || n.state == 4 else
  bif p.kind == 11 || p.kind == 12 then n.asking && (n.state == 2 || n.state == 3 || n.state == 4) else false
end Go.Dm
namespace Go.Dm
open Go
theorem li (n : Nd) (b : Su) : Fit n.store.disk (ac n b).1.store.disk := by
  unfold ac
  exact ai (p := fun (x : Nd × Bool) => Fit n.store.disk x.1.store.disk) (md _ _) (md _ _)
theorem qH (n : Nd) : Fit n.store.disk (aH n).1.store.disk := by
  unfold aH
  cases n.draws with
  | nil => exact Fit.refl _
  | cons g r =>
    show Fit n.store.disk (fL n g r).1.store.disk
    unfold fL
    refine ai (p := fun (x : Nd × Int) => Fit n.store.disk x.1.store.disk) (Fit.refl _) ?_
    have := li (i6 n g r) (kj n g)
    exact ai (p := fun (x : Nd × Int) => Fit n.store.disk x.1.store.disk) this this
theorem kI (n : Nd) (s : So) (e : Int) (h : Fit n.store.disk s.disk) : Fit n.store.disk (d7 n s e).1.store.disk := by
  unfold d7
  exact ai (p := fun (x : Nd × Bool) => Fit n.store.disk x.1.store.disk) h h
theorem uh (n : Nd) (i : Int) : Fit n.store.disk (aK n i).1.store.disk := kI _ _ _ (xt _ _)
def dm (n : Nd) (block : Int) (x : ByteArray) : Nd × Bool := d7 n (d9 n.store block x).1 (d9 n.store block x).2
def iO (n : Nd) (block : Int) (x : ByteArray) : Nd := { (aK (dm n block x).1 block).1 with wanted := 0 }
def py (n : Nd) (block : Int) (x : ByteArray) : Nd × List Ou :=
  bif !(n.wanted == IntKind.wrap .i64 (block + 1)) then (n, []) else
  bif !(dm n block x).2 then ((dm n block x).1, []) else
  bif !(aK (dm n block x).1 block).2 then ((aK (dm n block x).1 block).1, []) else
  ((cQ (iO n block x)).1, [aR (iO n block x) (pkb 7 block)] ++ (cQ (iO n block x)).2)
theorem zG (n : Nd) (i : Int) (x : ByteArray) : Fit n.store.disk (dm n i x).1.store.disk := kI _ _ _ (xx _ _ _)
theorem aW (n : Nd) : (cQ n).2.length ≤ 10 := by
  unfold cQ
  refine ai (p := fun (x : Nd × List Ou) => x.2.length ≤ 10) (by simp) (ai (p := fun (x : Nd × List Ou) => x.2.length ≤ 10) (by simp) (ai (p := fun (x : Nd × List Ou) => x.2.length ≤ 10) (by simp) (by simp)))
def fM (n : Nd) : Su := { n.store.super with pri := true }
def dX (n : Nd) (kind : Int) : Nd × List Ou :=
  bif kind == 10 then (bif n.primary || n.asking then (n, [aR n (pkk 12)]) else ({ n with peerPri := true }, [aR { n with peerPri := true } (pkk 11)])) else
  bif kind == 12 then ({ n with asking := false, askId := 0 }, [af { n with asking := false, askId := 0 } n.askId 12 ⟨#[]⟩]) else
  bif kind == 13 then ({ n with peerPri := false }, []) else
  bif !(ac n (fM n)).2 then ((ac n (fM n)).1, []) else
  ({ (ac n (fM n)).1 with primary := true, asking := false, askId := 0 }, [af { (ac n (fM n)).1 with primary := true, asking := false, askId := 0 } n.askId 0 ⟨#[]⟩])
def cz (n : Nd) : Ou := ⟨3, n.id, 0, 0, ⟨#[]⟩⟩
def lU (n : Nd) (h : He) (st : Int) : Nd := { n with state := st, peerPri := h.pri, peer := h }
def jr (n : Nd) (h : He) : Su := { n.store.super with inc := true, pri := false, v := qD n.store.super.v h.v.cur }
def eQ (n : Nd) (m : BitVec 32) : Nd × Bool := d7 n (dK n.store m).1 (dK n.store m).2
theorem yD (n : Nd) (m : BitVec 32) : Fit n.store.disk (eQ n m).1.store.disk := kI _ _ _ (wU _ _)
def ka (n : Nd) (h : He) (v : Vd) (m : BitVec 32) : Nd × List Ou :=
  bif v.kind == 4 then (n, [cz n]) else
  bif v.kind == 1 then (bif (ac n (ck n)).2 then (lU (ac n (ck n)).1 h 2, []) else ((ac n (ck n)).1, [])) else
  bif !(eQ n m).2 then ((eQ n m).1, []) else
  bif v.src == n.id then (lU (eQ n m).1 h 3, []) else
  bif !(ac (eQ n m).1 (jr n h)).2 then ((ac (eQ n m).1 (jr n h)).1, []) else
  cQ (lU (ac (eQ n m).1 (jr n h)).1 h 4)
def yz (n : Nd) (h : He) : Nd × List Ou := ka n h (aN n h).1 (aN n h).2
end Go.Dm
namespace Go.Dm
open Go
theorem nI (d : Dk) (i : Int) : (bz d i).1.size ≤ 8 := by
  unfold bz
  refine ai (p := fun (x : ByteArray × Int) => x.1.size ≤ 8) (Nat.zero_le _) (ai (p := fun (x : ByteArray × Int) => x.1.size ≤ 8) (Nat.zero_le _) ?_)
  cases h : (((bd d (IntKind.wrap .i64 (i + 2))).1.size : Int) == 8) with
  | false => exact Nat.zero_le _
  | true =>
    have := eq_of_beq h
    show (bd d (IntKind.wrap .i64 (i + 2))).1.size ≤ 8
    omega
def eC (n : Nd) (p : Pk) : Nd × List Ou :=
  bif p.kind == 1 then yz n p.hello else
  bif p.kind == 2 then fN n p.block p.data else
  bif p.kind == 3 then e9 n p.block else
  bif p.kind == 4 then ((aK n p.block).1, []) else
  bif p.kind == 5 then (n, zu n p.block) else
  bif p.kind == 6 then py n p.block p.data else
  bif p.kind == 7 then (eO n p.block, []) else
  bif p.kind == 8 then fQ n else
  bif p.kind == 9 then ({ n with state := 2 }, []) else dX n p.kind
def aw (n : Nd) (b : ByteArray) : Nd × List Ou :=
  bif !n.up || n.state == 0 then (n, []) else
  bif (aA b n.ses).2 == 16 then (n, []) else
  bif !((aA b n.ses).2 == 0) || !bw n (aA b n.ses).1 then (n, [cz n]) else eC n (aA b n.ses).1
end Go.Dm
namespace Go.Dm
open Go
def m1 (e : Evt) : Bool := decide ((e.data.size : Int) > 300) || decide ((e.keeps.length : Int) > 100)
def gj (l : List Evt) (BJ : Int) : Bool := bif decide ((l.length : Int) > BJ) then true else l.any m1
def aU (blocks g : Int) : Su := ⟨blocks, ⟨g, 0, 0, 0⟩, false, false, false⟩
def cr (n : Nat) (g : Int) : Dk := ⟨[(bn (aU n g)).1, bK (dH (mi 0#32))] ++ List.replicate n ⟨#[0, 0, 0, 0, 0, 0, 0, 0]⟩, [], 0, false⟩
def ij (c : Cl) (i : Int) : Nd := bif i == 0 then c.n0 else c.n1
def aZ (c : Cl) (i : Int) (n : Nd) : Cl := bif i == 0 then { c with n0 := n } else { c with n1 := n }
def yg (c : Cl) (i : Int) : Bool := bif i == 0 then c.w0 else c.w1
def ax (c : Cl) (i : Int) (w : Bool) : Cl := bif i == 0 then { c with w0 := w } else { c with w1 := w }
def bt (n : Nd) (keeps : List Bool) : Nd × Int :=
  bif n.up then (n, 7) else
  bif !((bq (bU n.store.disk keeps)).2 == 0) then ({ n with store := { n.store with disk := bU n.store.disk keeps } }, (bq (bU n.store.disk keeps)).2) else
  (⟨n.id, true, (bq (bU n.store.disk keeps)).1, false, 0, 0, he0, false, rq0, false, 0, 0, false, n.draws, n.mints⟩, 0)
def dD (n : Nd) (w : Bool) : (Nd × Bool) × List Ou :=
  bif !n.up then ((n, w), []) else bif !(an n).1.up then (((an n).1, false), (an n).2) else (((an n).1, w), (an n).2)
def fo (c : Cl) : Cl × List Ou :=
  (⟨(dD c.n0 c.w0).1.1, (dD c.n1 c.w1).1.1, bi c.link, (dD c.n0 c.w0).1.2, (dD c.n1 c.w1).1.2⟩, (dD c.n0 c.w0).2 ++ (dD c.n1 c.w1).2)
def a9 (i : Int) (k : Lk) (l : List Ou) : Lk :=
  l.foldl (fun k o => bif o.kind == 1 && k.up then (cp k (IntKind.wrap .i64 (1 - i)) [o.data]).1 else k) k
def cR (l : List Ou) : List Ou := l.filter fun o => !(o.kind == 1)
def cO (l : List Ou) : Bool := l.any fun o => !(o.kind == 1) && o.kind == 3
def cK (c : Cl) (i : Int) (n : Nd) (l : List Ou) : Cl :=
  bif !n.up then ax { aZ c i n with link := a9 i c.link l } i false else { aZ c i n with link := a9 i c.link l }
def bC (c : Cl) (i : Int) (n : Nd) (l : List Ou) : Cl × List Ou :=
  bif !(cK c i n l).link.up || n.up && !cO l then (cK c i n l, cR l) else
  bif cO l then ((fo { cK c i n l with w0 := false, w1 := false }).1, cR l ++ (fo { cK c i n l with w0 := false, w1 := false }).2) else
  ((fo (cK c i n l)).1, cR l ++ (fo (cK c i n l)).2)
def dU (c : Cl) : Cl × List Ou := bC c 0 (cv c.n0 c.link.ses).1 (cv c.n0 c.link.ses).2
def fP (c : Cl) : Cl × List Ou := bC c 1 (cv c.n1 c.link.ses).1 (cv c.n1 c.link.ses).2
def ey (c : Cl) (i : Int) : Cl × List Ou :=
  bif !(ij c i).up then (c, []) else
  bif !yg (ax c i true) (1 - i) || !(ij c (1 - i)).up || c.link.up then (ax c i true, []) else
  ((fP (dU { ax c i true with link := cL c.link }).1).1,
    (dU { ax c i true with link := cL c.link }).2 ++ (fP (dU { ax c i true with link := cL c.link }).1).2)
def cI (n : Nd) (g : Int) : Nd := bif decide ((n.draws.length : Int) < 1000) then { n with draws := n.draws ++ [g] } else n
def n4 (c : Cl) (i : Int) : Cl × List Ou :=
  bif !(dk c.link i).2.2 then (c, []) else
  bC { c with link := (dk c.link i).2.1 } i (aw (ij c i) (dk c.link i).1).1 (aw (ij c i) (dk c.link i).1).2
def At (c : Cl) : Cl × List Ou := bif !c.link.up then (c, []) else fo c
def du (n : Nd) (k : Int) : Nd := bif n.up then { n with store := { n.store with disk := CL n.store.disk (IntKind.wrap .i64 (if 1000 < k then 1000 else k)) } } else n
def oh (c : Cl) (e : Evt) (i : Int) (n : Nd) : Cl × List Ou :=
  bif e.kind == 1 then bC c i (bT n e.id).1 (bT n e.id).2 else
  bif e.kind == 2 then bC c i (cT n e.id).1 (cT n e.id).2 else
  bif e.kind == 3 then bC c i (cG n e.id).1 (cG n e.id).2 else
  bif e.kind == 4 then bC c i (fA n e.id e.block).1 (fA n e.id e.block).2 else
  bif e.kind == 5 then bC c i (bR n e.id e.block e.data).1 (bR n e.id e.block e.data).2 else
  bif e.kind == 6 then ey c i else
  bif e.kind == 7 then At (ax c i false) else
  bif e.kind == 8 then At c else
  bif e.kind == 9 then n4 c i else
  bif e.kind == 10 then (bif !n.up then (c, []) else bC c i (ch n) []) else
  bif e.kind == 11 then (aZ c i (bt n e.keeps).1, [af (bt n e.keeps).1 e.id (bt n e.keeps).2 ⟨#[]⟩]) else
  bif e.kind == 12 then bC c i (du n e.n) [] else
  bif e.kind == 13 then (aZ c i (cI n e.n), []) else
  bif e.kind == 14 then (bif (aA e.data c.link.ses).2 == 0 then (c, []) else bC c i (aw n e.data).1 (aw n e.data).2) else (c, [])
def doM (c : Cl) (e : Evt) : Cl × List Ou := bif !(e.node == 0) && !(e.node == 1) then (c, []) else oh c e e.node (ij c e.node)
def ja (c : Cl) (l : List Evt) : Cl × List Ou := l.foldl (fun x e => ((doM x.1 e).1, x.2 ++ (doM x.1 e).2)) (c, [])
end Go.Dm
namespace Go.Dm
open Go
def oo (j : Int) (s : Cl × List Ou × Bool) (x : Ou) : Cl × List Ou × Bool :=
  bif x.kind == 1 then (bif s.1.link.up then ({ s.1 with link := (cp s.1.link j [x.data]).1 }, s.2) else s) else (s.1, s.2.1 ++ [x], s.2.2 || x.kind == 3)
theorem kA (j : Int) (c : Cl) (out : List Ou) (q : Bool) (x : Ou) (h1 : (x.kind == 1) = true) (h2 : c.link.up = true) : oo j (c, out, q) x = ({ c with link := (cp c.link j [x.data]).1 }, out, q) := by
  unfold oo; rw [h1, cond_true]; simp only [h2, cond_true]
theorem kz (j : Int) (c : Cl) (out : List Ou) (q : Bool) (x : Ou) (h1 : (x.kind == 1) = true) (h2 : c.link.up = false) : oo j (c, out, q) x = (c, out, q) := by
  unfold oo; rw [h1, cond_true]; simp only [h2, cond_false]
theorem kJ (j : Int) (c : Cl) (out : List Ou) (q : Bool) (x : Ou) (h1 : (x.kind == 1) = false) : oo j (c, out, q) x = (c, out ++ [x], q || x.kind == 3) := by
  unfold oo; rw [h1, cond_false]
theorem vS (i j : Int) (hj : IntKind.wrap .i64 (1 - i) = j) : ∀ (l : List Ou) (c : Cl) (out : List Ou) (q : Bool), l.foldl (oo j) (c, out, q) = ({ c with link := a9 i c.link l }, out ++ cR l, q || cO l)
  | [], c, out, q => by simp [a9, cR, cO]
  | x :: l, c, out, q => by
    rw [List.foldl_cons]
    cases h1 : x.kind == 1 with
    | true =>
      cases h2 : c.link.up with
      | true =>
        rw [kA j c out q x h1 h2, vS i j hj l]
        simp [a9, cR, cO, h1, h2, hj]
      | false =>
        rw [kz j c out q x h1 h2, vS i j hj l]
        simp [a9, cR, cO, h1, h2]
    | false =>
      rw [kJ j c out q x h1, vS i j hj l]
      simp [a9, cR, cO, h1, Bool.or_assoc]
def ed (i : Int) (c : Cl) (n : Nd) (out : List Ou) (q : Bool) : Cl × List Ou :=
  bif !c.link.up || n.up && !q then (bif !n.up then ax c i false else c, out) else
  bif q then ((fo { c with w0 := false, w1 := false }).1, out ++ (fo { c with w0 := false, w1 := false }).2) else
  ((fo (bif !n.up then ax c i false else c)).1, out ++ (fo (bif !n.up then ax c i false else c)).2)
theorem eE (c : Cl) (i : Int) (w : Bool) : (ax c i w).link = c.link := by unfold ax; cases i == 0 <;> rfl
theorem gm (c : Cl) (i : Int) (w : Bool) : (ax c i w).n0 = c.n0 := by unfold ax; cases i == 0 <;> rfl
theorem gn (c : Cl) (i : Int) (w : Bool) : (ax c i w).n1 = c.n1 := by unfold ax; cases i == 0 <;> rfl
theorem pV (c : Cl) (i : Int) (w : Bool) : ({ ax c i w with w0 := false, w1 := false } : Cl) = { c with w0 := false, w1 := false } := by unfold ax; cases i == 0 <;> rfl
theorem rj (c : Cl) (i : Int) (n : Nd) (l : List Ou) : ed i { aZ c i n with link := a9 i c.link l } n (cR l) (cO l) = bC c i n l := by
  unfold ed bC cK
  cases n.up with
  | true =>
    cases cO l <;> cases h : (a9 i c.link l).up <;> simp [h]
  | false =>
    cases cO l <;> cases h : (a9 i c.link l).up <;> simp [h, eE, pV, gm, gn]
theorem dQ (c : Cl) (i : Int) (n : Nd) : (aZ c i n).link = c.link := by unfold aZ; cases i == 0 <;> rfl
theorem jy (l : Lk) (to : Int) (ps : List ByteArray) : (cp l to ps).1.to0.length ≤ l.to0.length + ps.length ∧ (cp l to ps).1.to1.length ≤ l.to1.length + ps.length := by
  unfold cp
  cases !(to == 0) && !(to == 1) with
  | true => exact ⟨Nat.le_add_right _ _, Nat.le_add_right _ _⟩
  | false =>
    cases l.up with
    | false => exact ⟨Nat.le_add_right _ _, Nat.le_add_right _ _⟩
    | true => cases to == 0 <;> simp
theorem oT (l : List Ou) : (cR l).length ≤ l.length := List.length_filter_le _ _
end Go.Dm
namespace Go.Dm
open Go
def Ak (N : Nat) (d : Dk) : Prop := d.sure.length = N ∧ (∀ s ∈ d.sure, s.size ≤ 64) ∧ ∀ w ∈ d.cache, 0 ≤ w.sec ∧ w.sec.toNat < N ∧ w.data.size ≤ 64
def Fw (a : Nat) (d e : Dk) : Prop := (∀ N, Ak N d → Ak N e) ∧ e.cache.length ≤ d.cache.length + a
theorem Fw.refl (a : Nat) (d : Dk) : Fw a d d := ⟨fun _ h => h, Nat.le_add_right _ _⟩
theorem Fw.trans {a b : Nat} {d e f : Dk} (h : Fw a d e) (k : Fw b e f) : Fw (a + b) d f := ⟨fun N x => k.1 N (h.1 N x), by have := h.2; have := k.2; omega⟩
theorem Fw.le {a b : Nat} {d e : Dk} (h : Fw a d e) (hab : a ≤ b) : Fw b d e := ⟨h.1, by have := h.2; omega⟩
theorem Fw.of_eq {a : Nat} {d e : Dk} (h1 : e.sure = d.sure) (h2 : e.cache = d.cache) : Fw a d e := ⟨fun N h => by unfold Ak at h ⊢; rw [h1, h2]; exact h, by rw [h2]; omega⟩
theorem sa (d : Dk) : Fw 0 d (aT d) := Fw.of_eq rfl rfl
theorem za (d : Dk) : Fw 0 d (pO d) := Fw.of_eq rfl rfl
theorem wu (d : Dk) (n : Int) : Fw 0 d (CL d n) := Fw.of_eq rfl rfl
theorem ip (d : Dk) (i : Int) (x : ByteArray) : Fw 1 d (bm d i x).1 := by
  refine ⟨fun N h => ?_, eF d i x⟩
  unfold bm
  cases d.dead with
  | true => exact h
  | false =>
    cases hr : (decide (i < 0) || decide (i ≥ (d.sure.length : Int))) with
    | true => exact h
    | false =>
      cases hl : decide ((x.size : Int) > 64) with
      | true => exact h
      | false =>
        cases (aT d).dead with
        | true => exact (sa d).1 N h
        | false =>
          simp only [Bool.or_eq_false_iff, decide_eq_false_iff_not] at hr hl
          refine ⟨h.1, h.2.1, fun w hw => ?_⟩
          have hw' : w ∈ d.cache ++ [⟨i, x⟩] := hw
          rcases List.mem_append.1 hw' with hw | hw
          · exact h.2.2 w hw
          · simp only [List.mem_singleton] at hw
            subst hw
            have := h.1
            exact ⟨by show 0 ≤ i; omega, by show i.toNat < N; omega, by show x.size ≤ 64; omega⟩
theorem pC {N : Nat} {d : Dk} (h : Ak N d) (i : Int) : (dj d i).size ≤ 64 := by
  unfold dj
  have key : ∀ (l : List Wr) (s : ByteArray), (∀ w ∈ l, w.data.size ≤ 64) → s.size ≤ 64 → (l.foldl (fun s w => bif w.sec == i then w.data else s) s).size ≤ 64 := by
    intro l
    induction l with
    | nil => intro s _ hs; exact hs
    | cons w l ih =>
      intro s hl hs
      rw [List.foldl_cons]
      refine ih _ (fun w hw => hl w (List.mem_cons_of_mem _ hw)) ?_
      cases w.sec == i with
      | true => exact hl w (List.mem_cons_self ..)
      | false => exact hs
  refine key _ _ (fun w hw => (h.2.2 w hw).2.2) ?_
  rw [List.getD_eq_getElem?_getD]
  cases hg : d.sure[i.toNat]? with
  | none => exact Nat.zero_le _
  | some s => exact h.2.1 s (List.mem_of_getElem? hg)
theorem gQ {N : Nat} {d : Dk} (h : Ak N d) (i : Int) : (bd d i).1.size ≤ 64 := by
  unfold bd
  exact ai (p := fun (x : ByteArray × Int) => x.1.size ≤ 64) (Nat.zero_le _) (ai (p := fun (x : ByteArray × Int) => x.1.size ≤ 64) (Nat.zero_le _) (pC h i))
theorem pj (d : Dk) : Fw 0 d (dT d).1 := by
  unfold dT
  refine ai (p := fun (x : Dk × Int) => Fw 0 d x.1) (Fw.refl _ _) (ai (p := fun (x : Dk × Int) => Fw 0 d x.1) (sa d) ?_)
  refine ⟨fun N h => ⟨?_, fun s hs => ?_, fun w hw => by cases hw⟩, Nat.zero_le _⟩
  · show (ju (aT d)).length = N
    rw [← h.1]
    simp [ju, aT]
  · have hs' : s ∈ ju (aT d) := hs
    simp only [ju, List.mem_map] at hs'
    obtain ⟨i, _, rfl⟩ := hs'
    exact pC ((sa d).1 N h) _
theorem jV (d : Dk) (keeps : List Bool) : Fw 0 d (bU d keeps) := by
  refine ⟨fun N h => ?_, Nat.zero_le _⟩
  have key : ∀ (l : List (Wr × Bool)) (s : List ByteArray), (∀ x ∈ l, x.1.data.size ≤ 64) → (s.length = N ∧ ∀ y ∈ s, y.size ≤ 64) → (l.foldl (fun s x => bif x.2 then s.set x.1.sec.toNat x.1.data else s) s).length = N ∧ ∀ y ∈ l.foldl (fun s x => bif x.2 then s.set x.1.sec.toNat x.1.data else s) s, y.size ≤ 64 := by
    intro l
    induction l with
    | nil => intro s _ hs; exact hs
    | cons x l ih =>
      intro s hl hs
      rw [List.foldl_cons]
      refine ih _ (fun w hw => hl w (List.mem_cons_of_mem _ hw)) ?_
      cases x.2 with
      | false => exact hs
      | true =>
        refine ⟨by rw [cond_true, List.length_set]; exact hs.1, fun y hy => ?_⟩
        rw [cond_true] at hy
        rcases List.mem_or_eq_of_mem_set hy with hy | rfl
        · exact hs.2 y hy
        · exact hl x (List.mem_cons_self ..)
  obtain ⟨k1, k2⟩ := key (d.cache.zip keeps) d.sure (fun x hx => (h.2.2 x.1 (List.of_mem_zip hx).1).2.2) ⟨h.1, h.2.1⟩
  exact ⟨k1, k2, fun w hw => by cases hw⟩
theorem oc (d : Dk) (s : Su) : Fw 1 d (cb d s).1 := by
  unfold cb
  exact ai (p := fun (x : Dk × Int) => Fw 1 d x.1) (Fw.refl _ d) (ai (p := fun (x : Dk × Int) => Fw 1 d x.1) (ip _ _ _) ((ip _ _ _).trans (pj _)))
theorem pg (d : Dk) (m : BitVec 32) : Fw 1 d (d8 d m).1 := by
  unfold d8
  exact ai (p := fun (x : Dk × Int) => Fw 1 d x.1) (Fw.refl _ d) (ip _ _ _)
theorem tI (d : Dk) (m : BitVec 32) : Fw 1 d (g8 d m).1 := by
  unfold g8
  exact ai (p := fun (x : Dk × Int) => Fw 1 d x.1) (pg _ _) ((pg _ _).trans (pj _))
theorem By (d : Dk) (i : Int) (x : ByteArray) : Fw 1 d (iN d i x).1 := by
  unfold iN
  exact ai (p := fun (x : Dk × Int) => Fw 1 d x.1) (Fw.refl _ d) (ai (p := fun (x : Dk × Int) => Fw 1 d x.1) (Fw.refl _ d) (ai (p := fun (x : Dk × Int) => Fw 1 d x.1) (ip _ _ _) ((ip _ _ _).trans (pj _))))
theorem uG (s : So) (b : Su) : Fw 1 s.disk (bO s b).1.disk := by
  unfold bO
  exact ai (p := fun (x : So × Int) => Fw 1 s.disk x.1.disk) (Fw.refl _ _) (ai (p := fun (x : So × Int) => Fw 1 s.disk x.1.disk) (oc _ _) (oc _ _))
theorem tw (s : So) (m : BitVec 32) : Fw 1 s.disk (kB s m).1.disk := by
  unfold kB
  exact ai (p := fun (x : So × Int) => Fw 1 s.disk x.1.disk) (Fw.refl _ _) (ai (p := fun (x : So × Int) => Fw 1 s.disk x.1.disk) (tI _ _) (tI _ _))
theorem yO (s : So) (i : Int) : Fw 1 s.disk (fI s i).1.disk := by
  unfold fI
  exact ai (p := fun (x : So × Int) => Fw 1 s.disk x.1.disk) (Fw.refl _ _) (tw _ _)
theorem zx (s : So) (i : Int) : Fw 1 s.disk (dG s i).1.disk := by
  unfold dG
  exact ai (p := fun (x : So × Int) => Fw 1 s.disk x.1.disk) (Fw.refl _ _) (ai (p := fun (x : So × Int) => Fw 1 s.disk x.1.disk) (Fw.refl _ _) (ai (p := fun (x : So × Int) => Fw 1 s.disk x.1.disk) (pg _ _) (pg _ _)))
def Nw (a : Nat) (n m : Nd) : Prop := Fw a n.store.disk m.store.disk ∧ m.draws.length + m.mints.length ≤ n.draws.length + n.mints.length ∧ m.id = n.id
theorem Nw.refl (a : Nat) (n : Nd) : Nw a n n := ⟨Fw.refl _ _, Nat.le_refl _, rfl⟩
theorem Nw.trans {a b : Nat} {n m o : Nd} (h : Nw a n m) (k : Nw b m o) : Nw (a + b) n o := ⟨h.1.trans k.1, Nat.le_trans k.2.1 h.2.1, k.2.2.trans h.2.2⟩
theorem Nw.le {a b : Nat} {n m : Nd} (h : Nw a n m) (hab : a ≤ b) : Nw b n m := ⟨h.1.le hab, h.2⟩
theorem Nw.same {a : Nat} {n m : Nd} (h1 : m.store.disk = n.store.disk) (h2 : m.draws = n.draws) (h3 : m.mints = n.mints) (h4 : m.id = n.id) : Nw a n m := ⟨by rw [h1]; exact Fw.refl _ _, by rw [h2, h3]; exact Nat.le_refl _, h4⟩
theorem Nw.down {a : Nat} {n m : Nd} (h : Nw a n m) : Nw a n (ch m) := ⟨h.1.trans (za _), h.2⟩
theorem jH {a : Nat} (n : Nd) (s : So) (e : Int) (h : Fw a n.store.disk s.disk) : Nw a n (d7 n s e).1 := by
  unfold d7
  have h1 : Nw a n { n with store := s } := ⟨h, Nat.le_refl _, rfl⟩
  exact ai (p := fun (x : Nd × Bool) => Nw a n x.1) h1.down h1
theorem cU (n : Nd) (b : Su) : Nw 1 n (ac n b).1 := by
  unfold ac
  have h1 : Nw 1 n { n with store := (bO n.store b).1 } := ⟨uG _ _, Nat.le_refl _, rfl⟩
  exact ai (p := fun (x : Nd × Bool) => Nw 1 n x.1) h1.down h1
theorem sG (n : Nd) : Nw 1 n (aH n).1 := by
  unfold aH
  cases hd : n.draws with
  | nil => exact Nw.refl _ _
  | cons g r =>
    show Nw 1 n (fL n g r).1
    unfold fL
    refine ai (p := fun (x : Nd × Int) => Nw 1 n x.1) ⟨Fw.refl _ _, ?_, rfl⟩ ?_
    · show r.length + n.mints.length ≤ _
      rw [hd, List.length_cons]; omega
    · have h1 : Nw 0 n (i6 n g r) := ⟨Fw.refl _ _, by show r.length + (n.mints ++ [_]).length ≤ _; rw [hd, List.length_append, List.length_cons, List.length_cons, List.length_nil]; omega, rfl⟩
      have h2 : Nw 1 n (ac (i6 n g r) (kj n g)).1 := (h1.trans (cU _ _)).le (by omega)
      exact ai (p := fun (x : Nd × Int) => Nw 1 n x.1) h2 h2
theorem tV (n : Nd) (i : Int) : Nw 1 n (dZ n i).1 := jH _ _ _ (yO _ _)
theorem sV (s : So) (i : Int) (x : ByteArray) : Fw 1 s.disk (d9 s i x).1.disk := By _ _ _
theorem xQ (n : Nd) (i : Int) (x : ByteArray) : Nw 2 n (fE n i x).1 := by
  unfold fE
  exact ai (p := fun (x : Nd × Bool) => Nw 2 n x.1) ((tV n i).le (by omega)) ((tV n i).trans (jH _ _ _ (sV _ _ _)))
theorem j2 (n : Nd) (i : Int) : Nw 1 n (aK n i).1 := jH _ _ _ (zx _ _)
def aS (k : Nat) (l : List Ou) : Prop := l.length ≤ k ∧ ∀ o ∈ l, o.data.size ≤ 64
theorem aS.nil (k : Nat) : aS k [] := ⟨Nat.zero_le _, by simp⟩
theorem aS.one {k : Nat} {o : Ou} (h : o.data.size ≤ 64) : aS (k + 1) [o] := ⟨by simp, by simpa using h⟩
theorem aS.two {k : Nat} {o p : Ou} (h : o.data.size ≤ 64) (h2 : p.data.size ≤ 64) : aS (k + 2) [o, p] := ⟨by simp, by simpa using ⟨h, h2⟩⟩
theorem aS.append {j k : Nat} {l m : List Ou} (h : aS j l) (h2 : aS k m) : aS (j + k) (l ++ m) := ⟨by rw [List.length_append]; have := h.1; have := h2.1; omega, fun o ho => (List.mem_append.1 ho).elim (h.2 o) (h2.2 o)⟩
theorem aS.le {j k : Nat} {l : List Ou} (h : aS j l) (hjk : j ≤ k) : aS k l := ⟨Nat.le_trans h.1 hjk, h.2⟩
theorem uk (p : Pk) : (dF p).1.size ≤ 64 := by
  unfold dF
  cases hr : bA p with
  | false => exact Nat.zero_le _
  | true =>
    show (bK (cd p)).size ≤ 64
    rw [ar]
    unfold cd
    rw [ByteArray.size_append]
    have hd : p.data.size ≤ 8 := by
      unfold bA at hr
      cases hh : fH p.kind with
      | true => simp [hh] at hr; omega
      | false => simp [hh] at hr; rw [hr.2.2.2]; decide
    have hh : (iR p).size ≤ 48 := by
      unfold iR
      have := kL p.hello
      cases bJ p.kind <;> cases p.kind == 1 <;> simp only [cond_true, cond_false, ByteArray.size_append, aq, ap, List.length_cons, List.length_nil] <;> omega
    omega
theorem dz (n : Nd) (p : Pk) : (aR n p).data.size ≤ 64 := uk _
theorem bZ (n : Nd) (id e : Int) : (af n id e ⟨#[]⟩).data.size ≤ 64 := Nat.zero_le _
def Ro (a : Nat) (n : Nd) (x : Nd × List Ou) : Prop := Nw a n x.1 ∧ aS 3 x.2
end Go.Dm
namespace Go.Dm
open Go
theorem jg (n : Nd) (id : Int) : Ro 3 n (bT n id) := by
  have hc := (cU n { n.store.super with pri := true }).le (show 1 ≤ 3 by omega)
  unfold bT
  repeat' (first | exact ⟨Nw.refl _ _, aS.one (bZ _ _ _)⟩ | with_reducible apply ai (p := Ro 3 n))
  · exact ⟨Nw.same rfl rfl rfl rfl, aS.one (dz _ _)⟩
  · exact ⟨hc, aS.nil _⟩
  · exact ⟨hc, aS.one (bZ _ _ _)⟩
theorem kO (n : Nd) (id : Int) : Ro 3 n (cT n id) := by
  have hc := (cU n { n.store.super with pri := false }).le (show 1 ≤ 3 by omega)
  unfold cT
  repeat' (first | exact ⟨Nw.refl _ _, aS.one (bZ _ _ _)⟩ | with_reducible apply ai (p := Ro 3 n))
  · exact ⟨hc, aS.nil _⟩
  · exact ⟨hc, aS.two (dz _ _) (bZ _ _ _)⟩
  · exact ⟨hc, aS.one (bZ _ _ _)⟩
theorem i8 (n : Nd) (id : Int) : Ro 3 n (cG n id) := by
  have hc := (cU n { n.store.super with dis := true }).le (show 1 ≤ 3 by omega)
  unfold cG
  repeat' (first | exact ⟨Nw.refl _ _, aS.one (bZ _ _ _)⟩ | with_reducible apply ai (p := Ro 3 n))
  · exact ⟨hc, aS.nil _⟩
  · exact ⟨hc, aS.one (bZ _ _ _)⟩
theorem mF (n : Nd) (id block : Int) : Ro 3 n (fA n id block) := by
  unfold fA
  repeat' (first | exact ⟨Nw.refl _ _, aS.one (bZ _ _ _)⟩ | with_reducible apply ai (p := Ro 3 n))
  exact ⟨Nw.refl _ _, aS.one (Nat.le_trans (nI _ _) (by decide))⟩
theorem qW (n : Nd) (id block : Int) (x : ByteArray) : Ro 2 n (cf n id block x) := by
  have hl := xQ n block x
  unfold cf
  repeat' (with_reducible apply ai (p := Ro 2 n))
  · exact ⟨hl, aS.nil _⟩
  · exact ⟨hl, aS.one (bZ _ _ _)⟩
  · exact ⟨hl, aS.one (dz _ _)⟩
theorem mP (n : Nd) (id block : Int) (x : ByteArray) : Ro 3 n (bR n id block x) := by
  have hm := sG n
  have h2 := qW (aH n).1 id block x
  have h3 := qW n id block x
  unfold bR
  repeat' (first | exact ⟨Nw.refl _ _, aS.one (bZ _ _ _)⟩ | with_reducible apply ai (p := Ro 3 n))
  · exact ⟨hm.le (by omega), aS.nil _⟩
  · exact ⟨hm.le (by omega), aS.one (bZ _ _ _)⟩
  · exact ⟨(hm.trans h2.1).le (by omega), h2.2⟩
  · exact ⟨h3.1.le (by omega), h3.2⟩
theorem kN (n : Nd) : aS 1 (eV n) := by
  unfold eV
  exact ai (p := aS 1) (aS.one (bZ _ _ _)) (aS.nil _)
theorem tP (a : Nat) (n : Nd) : Nw a n (fD n) := Nw.same rfl rfl rfl rfl
theorem zt (n : Nd) : Ro 1 n (an n) := by
  have hm := ((tP 0 n).trans (sG (fD n))).le (show 0 + 1 ≤ 1 by omega)
  unfold an
  repeat' (with_reducible apply ai (p := Ro 1 n))
  · exact ⟨Nw.refl _ _, aS.nil _⟩
  · exact ⟨tP _ _, (kN n).le (by omega)⟩
  · exact ⟨hm, (kN n).le (by omega)⟩
  · exact ⟨hm, ((kN n).append (aS.one (k := 0) (bZ _ _ _))).le (by omega)⟩
theorem th (n : Nd) : Nw 1 n (cQ n).1 ∧ aS 1 (cQ n).2 := by
  have hc := cU n (gi n)
  unfold cQ
  repeat' (with_reducible apply ai (p := fun (x : Nd × List Ou) => Nw 1 n x.1 ∧ aS 1 x.2))
  · exact ⟨Nw.refl _ _, aS.nil _⟩
  · exact ⟨Nw.same rfl rfl rfl rfl, aS.one (dz _ _)⟩
  · exact ⟨hc, aS.nil _⟩
  · exact ⟨hc, aS.one (dz _ _)⟩
theorem vE (n : Nd) (b : Int) : Ro 3 n (e9 n b) := by
  have h0 : Nw 0 n { n with req := rq0 } := Nw.same rfl rfl rfl rfl
  have hc := (h0.trans (j2 { n with req := rq0 } b)).le (show 0 + 1 ≤ 3 by omega)
  unfold e9
  repeat' (with_reducible apply ai (p := Ro 3 n))
  · exact ⟨Nw.refl _ _, aS.nil _⟩
  · exact ⟨hc, aS.one (bZ _ _ _)⟩
  · exact ⟨hc, aS.two (bZ _ _ _) (dz _ _)⟩
theorem xC (n : Nd) (b : Int) (x : ByteArray) : Ro 3 n (fN n b x) := by
  have hl := (xQ n b x).le (show 2 ≤ 3 by omega)
  unfold fN
  exact ai (p := Ro 3 n) ⟨hl, aS.nil _⟩ ⟨hl, aS.one (dz _ _)⟩
theorem vn (n : Nd) (b : Int) : Nw 3 n (eO n b) := by
  unfold eO
  exact ai (p := Nw 3 n) (Nw.refl _ _) ((j2 n b).le (by omega))
theorem B9 (n : Nd) (b : Int) (x : ByteArray) : Ro 3 n (py n b x) := by
  have h1 : Nw 1 n (dm n b x).1 := jH _ _ _ (sV _ _ _)
  have h2 := h1.trans (j2 (dm n b x).1 b)
  have h3 : Nw 2 n (iO n b x) := h2.trans (b := 0) (Nw.same rfl rfl rfl rfl)
  have h4 := th (iO n b x)
  unfold py
  repeat' (with_reducible apply ai (p := Ro 3 n))
  · exact ⟨Nw.refl _ _, aS.nil _⟩
  · exact ⟨h1.le (by omega), aS.nil _⟩
  · exact ⟨h2.le (by omega), aS.nil _⟩
  · exact ⟨(h3.trans h4.1).le (by omega), ((aS.one (k := 0) (dz _ _)).append h4.2).le (by omega)⟩
theorem v9 (n : Nd) : Ro 3 n (fQ n) := by
  have hc := (cU n (ck n)).le (show 1 ≤ 3 by omega)
  unfold fQ
  exact ai (p := Ro 3 n) ⟨hc, aS.nil _⟩ ⟨hc, aS.one (dz _ _)⟩
theorem wg (n : Nd) (kind : Int) : Ro 3 n (dX n kind) := by
  have hc := (cU n (fM n)).le (show 1 ≤ 3 by omega)
  unfold dX
  repeat' (with_reducible apply ai (p := Ro 3 n))
  · exact ⟨Nw.refl _ _, aS.one (dz _ _)⟩
  · exact ⟨Nw.same rfl rfl rfl rfl, aS.one (dz _ _)⟩
  · exact ⟨Nw.same rfl rfl rfl rfl, aS.one (bZ _ _ _)⟩
  · exact ⟨Nw.same rfl rfl rfl rfl, aS.nil _⟩
  · exact ⟨hc, aS.nil _⟩
  · exact ⟨hc, aS.one (bZ _ _ _)⟩
theorem BW (n : Nd) (h : He) : Ro 3 n (yz n h) := by
  have hj : Nw 1 n (eQ n (aN n h).2).1 := jH _ _ _ (tw _ _)
  have hc := (cU n (ck n)).le (show 1 ≤ 3 by omega)
  have hc2 := hj.trans (cU (eQ n (aN n h).2).1 (jr n h))
  have hs : Nw 2 n (lU (ac (eQ n (aN n h).2).1 (jr n h)).1 h 4) := hc2.trans (b := 0) (Nw.same rfl rfl rfl rfl)
  have h4 := th (lU (ac (eQ n (aN n h).2).1 (jr n h)).1 h 4)
  unfold yz ka
  repeat' (with_reducible apply ai (p := Ro 3 n))
  · exact ⟨Nw.refl _ _, aS.one (Nat.zero_le _)⟩
  · exact ⟨hc, aS.nil _⟩
  · exact ⟨hc, aS.nil _⟩
  · exact ⟨hj.le (by omega), aS.nil _⟩
  · exact ⟨hj.le (by omega), aS.nil _⟩
  · exact ⟨hc2.le (by omega), aS.nil _⟩
  · exact ⟨(hs.trans h4.1).le (by omega), h4.2.le (by omega)⟩
theorem zw (n : Nd) (p : Pk) : Ro 3 n (eC n p) := by
  unfold eC
  repeat' (with_reducible apply ai (p := Ro 3 n))
  · exact BW _ _
  · exact xC _ _ _
  · exact vE _ _
  · exact ⟨(j2 _ _).le (by omega), aS.nil _⟩
  · exact ⟨Nw.refl _ _, aS.one (dz _ _)⟩
  · exact B9 _ _ _
  · exact ⟨vn _ _, aS.nil _⟩
  · exact v9 _
  · exact ⟨Nw.same rfl rfl rfl rfl, aS.nil _⟩
  · exact wg _ _
theorem em (n : Nd) (b : ByteArray) : Ro 3 n (aw n b) := by
  unfold aw
  repeat' (with_reducible apply ai (p := Ro 3 n))
  · exact ⟨Nw.refl _ _, aS.nil _⟩
  · exact ⟨Nw.refl _ _, aS.nil _⟩
  · exact ⟨Nw.refl _ _, aS.one (Nat.zero_le _)⟩
  · exact zw _ _
theorem fy (n : Nd) (s : Int) : Ro 0 n (cv n s) := ⟨Nw.same rfl rfl rfl rfl, aS.one (dz _ _)⟩
theorem u3 (d : Dk) (h : (bq d).2 = 0) : (bq d).1.disk = d := by
  unfold bq at h ⊢
  cases h1 : (gd d).2 == 0 with
  | false => rw [h1] at h; simp only [Bool.not_false, cond_true] at h; simp [h] at h1
  | true =>
    cases h2 : (fj d).2 == 0 with
    | false => rw [h1, h2] at h; simp only [Bool.not_false, Bool.not_true, cond_true, cond_false] at h; simp [h] at h2
    | true =>
      cases h3 : (tA d).2 == 0 with
      | false => rw [h1, h2, h3] at h; simp only [Bool.not_false, Bool.not_true, cond_true, cond_false] at h; simp [h] at h3
      | true => rfl
theorem jo (n : Nd) (ks : List Bool) : Nw 0 n (bt n ks).1 := by
  unfold bt
  have hr : Nw 0 n { n with store := { n.store with disk := bU n.store.disk ks } } := ⟨jV _ _, Nat.le_refl _, rfl⟩
  refine ai (p := fun (x : Nd × Int) => Nw 0 n x.1) (Nw.refl _ _) ?_
  cases h : ((bq (bU n.store.disk ks)).2 == 0) with
  | false => exact hr
  | true =>
    have := u3 _ (eq_of_beq h)
    refine ⟨?_, Nat.le_refl _, rfl⟩
    show Fw 0 n.store.disk (bq (bU n.store.disk ks)).1.disk
    rw [this]
    exact jV _ _
end Go.Dm
namespace Go.Dm
open Go
def NdB (N a m : Nat) (n : Nd) : Prop := Ak N n.store.disk ∧ n.store.disk.cache.length ≤ a ∧ n.draws.length + n.mints.length ≤ m
theorem NdB.nw {N a b m : Nat} {n n' : Nd} (h : NdB N a m n) (k : Nw b n n') : NdB N (a + b) m n' := ⟨k.1.1 N h.1, by have := k.1.2; have := h.2.1; omega, Nat.le_trans k.2.1 h.2.2⟩
theorem NdB.le {N a a' m m' : Nat} {n : Nd} (h : NdB N a m n) (ha : a ≤ a') (hm : m ≤ m') : NdB N a' m' n := ⟨h.1, Nat.le_trans h.2.1 ha, Nat.le_trans h.2.2 hm⟩
def LkB (s : Nat) (l : Lk) : Prop := l.to0.length ≤ s ∧ l.to1.length ≤ s ∧ (∀ x ∈ l.to0, x.size ≤ 64) ∧ ∀ x ∈ l.to1, x.size ≤ 64
theorem LkB.le {s t : Nat} {l : Lk} (h : LkB s l) (hst : s ≤ t) : LkB t l := ⟨Nat.le_trans h.1 hst, Nat.le_trans h.2.1 hst, h.2.2⟩
theorem LkB.none (s : Nat) (up : Bool) (ses : Int) : LkB s ⟨up, ses, [], []⟩ := ⟨Nat.zero_le _, Nat.zero_le _, by simp, by simp⟩
theorem Cn {s : Nat} {l : Lk} (h : LkB s l) (to : Int) {x : ByteArray} (hx : x.size ≤ 64) : LkB (s + 1) (cp l to [x]).1 := by
  have h0 : LkB (s + 1) l := h.le (by omega)
  have app : ∀ {y : List ByteArray}, (∀ z ∈ y, z.size ≤ 64) → ∀ z ∈ y ++ [x], z.size ≤ 64 := fun hy z hz => by
    rcases List.mem_append.1 hz with hz | hz
    · exact hy z hz
    · simp only [List.mem_singleton] at hz; rw [hz]; exact hx
  unfold cp
  refine ai (p := fun (x : Lk × Int) => LkB (s + 1) x.1) h0 (ai (p := fun (x : Lk × Int) => LkB (s + 1) x.1) h0 (ai (p := fun (x : Lk × Int) => LkB (s + 1) x.1) ?_ ?_))
  · exact ⟨by simp only [List.length_append, List.length_cons, List.length_nil]; have := h.1; omega, h0.2.1, app h.2.2.1, h.2.2.2⟩
  · exact ⟨h0.1, by simp only [List.length_append, List.length_cons, List.length_nil]; have := h.2.1; omega, h.2.2.1, app h.2.2.2⟩
theorem rm (i : Int) : ∀ (l : List Ou) {s : Nat} {k : Lk}, LkB s k → (∀ o ∈ l, o.data.size ≤ 64) → LkB (s + l.length) (a9 i k l)
  | [], s, k, h, _ => h
  | o :: l, s, k, h, ho => by
    have h1 : LkB (s + 1) (bif o.kind == 1 && k.up then (cp k (IntKind.wrap .i64 (1 - i)) [o.data]).1 else k) := by
      cases o.kind == 1 && k.up with
      | true => exact Cn h _ (ho o (List.mem_cons_self ..))
      | false => exact h.le (by omega)
    have := rm i l h1 (fun o ho' => ho o (List.mem_cons_of_mem _ ho'))
    rw [List.length_cons, show s + (l.length + 1) = s + 1 + l.length by omega]
    exact this
structure ClB (N a m s : Nat) (c : Cl) : Prop where
  n0 : NdB N a m c.n0
  n1 : NdB N a m c.n1
  link : LkB s c.link
theorem ClB.le {N a a' m m' s s' : Nat} {c : Cl} (h : ClB N a m s c) (ha : a ≤ a') (hm : m ≤ m') (hs : s ≤ s') : ClB N a' m' s' c := ⟨h.n0.le ha hm, h.n1.le ha hm, h.link.le hs⟩
theorem wG {N a m : Nat} {n : Nd} (w : Bool) (h : NdB N a m n) : NdB N (a + 1) m (dD n w).1.1 ∧ aS 3 (dD n w).2 := by
  have hr := zt n
  unfold dD
  refine ai (p := fun (x : (Nd × Bool) × List Ou) => NdB N (a + 1) m x.1.1 ∧ aS 3 x.2) ⟨h.le (by omega) (Nat.le_refl _), aS.nil _⟩ (ai (p := fun (x : (Nd × Bool) × List Ou) => NdB N (a + 1) m x.1.1 ∧ aS 3 x.2) ?_ ?_)
  · exact ⟨h.nw hr.1, hr.2⟩
  · exact ⟨h.nw hr.1, hr.2⟩
theorem wN {N a m s : Nat} {c : Cl} (h : ClB N a m s c) : ClB N (a + 1) m 0 (fo c).1 ∧ aS 6 (fo c).2 := by
  have h0 := wG c.w0 h.n0
  have h1 := wG c.w1 h.n1
  exact ⟨⟨h0.1, h1.1, LkB.none _ _ _⟩, h0.2.append h1.2⟩
theorem m4 {N a m s : Nat} {c : Cl} (h : ClB N a m s c) (i : Int) {n : Nd} (hn : NdB N a m n) : ClB N a m s (aZ c i n) := by
  unfold aZ
  exact ai (p := ClB N a m s) ⟨hn, h.n1, h.link⟩ ⟨h.n0, hn, h.link⟩
theorem gy {N a m s : Nat} {c : Cl} (h : ClB N a m s c) (i : Int) (w : Bool) : ClB N a m s (ax c i w) := by
  unfold ax
  exact ai (p := ClB N a m s) ⟨h.n0, h.n1, h.link⟩ ⟨h.n0, h.n1, h.link⟩
theorem tZ {N a m s : Nat} {c : Cl} (h : ClB N a m s c) (i : Int) : NdB N a m (ij c i) := by
  unfold ij
  exact ai (p := NdB N a m) h.n0 h.n1
theorem zk {k : Nat} {l : List Ou} (h : aS k l) : aS k (cR l) := ⟨Nat.le_trans (oT l) h.1, fun o ho => h.2 o (List.mem_filter.1 ho).1⟩
theorem pm {N a m s : Nat} {c : Cl} (h : ClB N a m s c) (i : Int) {n : Nd} (hn : NdB N a m n) {l : List Ou} (hl : aS 3 l) : ClB N (a + 1) m (s + 3) (bC c i n l).1 ∧ aS 9 (bC c i n l).2 := by
  have hp := m4 h i hn
  have hk : ClB N a m (s + 3) { aZ c i n with link := a9 i c.link l } := ⟨hp.n0, hp.n1, (rm i l h.link hl.2).le (by have := hl.1; omega)⟩
  have h1 : ClB N a m (s + 3) (cK c i n l) := by
    unfold cK
    exact ai (p := ClB N a m (s + 3)) (gy hk i false) hk
  have h2 : ClB N a m (s + 3) { cK c i n l with w0 := false, w1 := false } := ⟨h1.n0, h1.n1, h1.link⟩
  have e1 := wN h1
  have e2 := wN h2
  have hK := zk hl
  unfold bC
  refine ai (p := fun (x : Cl × List Ou) => ClB N (a + 1) m (s + 3) x.1 ∧ aS 9 x.2) ⟨h1.le (by omega) (Nat.le_refl _) (Nat.le_refl _), hK.le (by omega)⟩ (ai (p := fun (x : Cl × List Ou) => ClB N (a + 1) m (s + 3) x.1 ∧ aS 9 x.2) ⟨e2.1.le (Nat.le_refl _) (Nat.le_refl _) (by omega), hK.append e2.2⟩ ⟨e1.1.le (Nat.le_refl _) (Nat.le_refl _) (by omega), hK.append e1.2⟩)
theorem ge {N a m : Nat} {n : Nd} (h : NdB N a m n) (s : Int) : NdB N a m (cv n s).1 := h.nw (b := 0) (fy n s).1
theorem oY {N a m s : Nat} {c : Cl} (h : ClB N a m s c) : ClB N (a + 1) m (s + 3) (dU c).1 ∧ aS 9 (dU c).2 := pm h 0 (ge h.n0 _) (fy _ _).2
theorem pt {N a m s : Nat} {c : Cl} (h : ClB N a m s c) : ClB N (a + 1) m (s + 3) (fP c).1 ∧ aS 9 (fP c).2 := pm h 1 (ge h.n1 _) (fy _ _).2
theorem rV {N a m s : Nat} {c : Cl} (h : ClB N a m s c) (i : Int) : ClB N a m 0 { ax c i true with link := cL c.link } := by
  have hw := gy h i true
  exact ⟨hw.n0, hw.n1, LkB.none _ _ _⟩
theorem um {N a m s : Nat} {c : Cl} (h : ClB N a m s c) (i : Int) : ClB N (a + 2) m (s + 6) (ey c i).1 ∧ aS 18 (ey c i).2 := by
  have hw := gy h i true
  have ho := rV h i
  have b0 := oY ho
  have b1 := pt b0.1
  unfold ey
  refine ai (p := fun (x : Cl × List Ou) => ClB N (a + 2) m (s + 6) x.1 ∧ aS 18 x.2) ⟨h.le (by omega) (Nat.le_refl _) (by omega), aS.nil _⟩ (ai (p := fun (x : Cl × List Ou) => ClB N (a + 2) m (s + 6) x.1 ∧ aS 18 x.2) ⟨hw.le (by omega) (Nat.le_refl _) (by omega), aS.nil _⟩ ?_)
  exact ⟨b1.1.le (Nat.le_refl _) (Nat.le_refl _) (by omega), b0.2.append b1.2⟩
theorem rF {s : Nat} {l : Lk} (h : LkB s l) (i : Int) : LkB s (dk l i).2.1 ∧ (dk l i).1.size ≤ 64 := by
  unfold dk
  refine ai (p := fun (x : ByteArray × Lk × Bool) => LkB s x.2.1 ∧ x.1.size ≤ 64) ?_ (ai (p := fun (x : ByteArray × Lk × Bool) => LkB s x.2.1 ∧ x.1.size ≤ 64) ?_ ⟨h, Nat.zero_le _⟩)
  · cases ht : l.to0 with
    | nil => exact ⟨h, Nat.zero_le _⟩
    | cons x r =>
      have h1 := h.1
      have h2 := h.2.2.1
      rw [ht] at h1 h2
      exact ⟨⟨by simp at h1; show r.length ≤ s; omega, h.2.1, fun y hy => h2 y (List.mem_cons_of_mem _ hy), h.2.2.2⟩, h2 x (List.mem_cons_self ..)⟩
  · cases ht : l.to1 with
    | nil => exact ⟨h, Nat.zero_le _⟩
    | cons x r =>
      have h1 := h.2.1
      have h2 := h.2.2.2
      rw [ht] at h1 h2
      exact ⟨⟨h.1, by simp at h1; show r.length ≤ s; omega, h.2.2.1, fun y hy => h2 y (List.mem_cons_of_mem _ hy)⟩, h2 x (List.mem_cons_self ..)⟩
def Ev1 (N a m s : Nat) (x : Cl × List Ou) : Prop := ClB N (a + 4) (m + 1) (s + 6) x.1 ∧ aS 18 x.2
theorem iL {N a m s : Nat} {c : Cl} (h : ClB N a m s c) : Ev1 N a m s (c, []) := ⟨h.le (by omega) (by omega) (by omega), aS.nil _⟩
theorem l6 {N a m s : Nat} {c : Cl} (h : ClB N a m s c) (i : Int) {n : Nd} {l : List Ou} (hn : NdB N (a + 3) m n) (hl : aS 3 l) : Ev1 N a m s (bC c i n l) := by
  have := pm (h.le (show a ≤ a + 3 by omega) (Nat.le_refl _) (Nat.le_refl _)) i hn hl
  exact ⟨this.1.le (by omega) (by omega) (by omega), this.2.le (by omega)⟩
theorem mZ {N a m s : Nat} {c : Cl} (h : ClB N a m s c) (i : Int) {n : Nd} {x : Nd × List Ou} (hn : NdB N a m n) (hr : Ro 3 n x) : Ev1 N a m s (bC c i x.1 x.2) := l6 h i (hn.nw hr.1) hr.2
theorem A2 {N a m s : Nat} {c : Cl} (h : ClB N a m s c) : Ev1 N a m s (At c) := by
  unfold At
  have := wN h
  exact ai (p := Ev1 N a m s) (iL h) ⟨this.1.le (by omega) (by omega) (by omega), this.2.le (by omega)⟩
theorem DF {N a m s : Nat} {c : Cl} (h : ClB N a m s c) (e : Evt) (i : Int) {n : Nd} (hn : NdB N a m n) : Ev1 N a m s (oh c e i n) := by
  unfold oh
  repeat' (with_reducible apply ai (p := Ev1 N a m s))
  · exact mZ h i hn (jg _ _)
  · exact mZ h i hn (kO _ _)
  · exact mZ h i hn (i8 _ _)
  · exact mZ h i hn (mF _ _ _)
  · exact mZ h i hn (mP _ _ _ _)
  · have := um h i
    exact ⟨this.1.le (by omega) (by omega) (by omega), this.2⟩
  · exact A2 (gy h i false)
  · exact A2 h
  · unfold n4
    have ht := rF h.link i
    refine ai (p := Ev1 N a m s) (iL h) ?_
    exact mZ (c := { c with link := (dk c.link i).2.1 }) ⟨h.n0, h.n1, ht.1⟩ i (tZ h i) (em _ _)
  · exact iL h
  · exact l6 h i (hn.nw (Nw.down (a := 3) (Nw.refl _ _))) (aS.nil _)
  · have := hn.nw (jo n e.keeps)
    have hp := m4 h i this
    exact ⟨hp.le (by omega) (by omega) (by omega), aS.one (bZ _ _ _)⟩
  · refine l6 h i ?_ (aS.nil _)
    unfold du
    refine ai (p := NdB N (a + 3) m) ?_ (hn.le (by omega) (Nat.le_refl _))
    exact hn.nw (b := 3) ⟨(wu _ _).le (by omega), Nat.le_refl _, rfl⟩
  · have hd : NdB N a (m + 1) (cI n e.n) := by
      unfold cI
      refine ai (p := NdB N a (m + 1)) ⟨hn.1, hn.2.1, ?_⟩ (hn.le (Nat.le_refl _) (by omega))
      simp only [List.length_append, List.length_cons, List.length_nil]
      have := hn.2.2
      omega
    have hp := m4 (h.le (Nat.le_refl _) (show m ≤ m + 1 by omega) (Nat.le_refl _)) i hd
    exact ⟨hp.le (by omega) (by omega) (by omega), aS.nil _⟩
  · exact iL h
  · exact mZ h i hn (em _ _)
  · exact iL h
theorem yE {N a m s : Nat} {c : Cl} (h : ClB N a m s c) (e : Evt) : Ev1 N a m s (doM c e) := by
  unfold doM
  exact ai (p := Ev1 N a m s) (iL h) (DF h e _ (tZ h _))
theorem w6 {N : Nat} : ∀ (l : List Evt) {a m s : Nat} {c : Cl}, ClB N a m s c → ClB N (a + 4 * l.length) (m + l.length) (s + 6 * l.length) (ja c l).1
  | l, a, m, s, c, h => by
    have key : ∀ (l : List Evt) {a m s : Nat} (x : Cl × List Ou), ClB N a m s x.1 → ClB N (a + 4 * l.length) (m + l.length) (s + 6 * l.length) (l.foldl (fun x e => ((doM x.1 e).1, x.2 ++ (doM x.1 e).2)) x).1 := by
      intro l
      induction l with
      | nil => intro a m s x h; exact h
      | cons e l ih =>
        intro a m s x h
        rw [List.foldl_cons]
        have := ih ((doM x.1 e).1, x.2 ++ (doM x.1 e).2) (yE h e).1
        rw [List.length_cons]
        exact this.le (by omega) (by omega) (by omega)
    exact key l (c, []) h
end Go.Dm
namespace Go.Dm
open Go
abbrev mints (l : List Mi) : List (List C) := l.map Mi.cs
def Ac : List C → Option Mi
  | [.raw (.int .u64 g), .raw (.int .u64 p), .raw (.int .i64 n)] => some ⟨g, p, n⟩
  | _ => none
def upd (g p : Int) : List (Int × Int) → List (Int × Int)
  | [] => [(g, p)]
  | (a, b) :: r => if g == a then (a, p) :: r else (a, b) :: upd g p r
def par (l : List Mi) : List (Int × Int) := l.foldr (fun x m => upd x.g x.p m) []
abbrev rB (m : List (Int × Int)) : List (Value × Value) := m.map fun x => (.int .u64 x.1, .int .u64 x.2)
def uf (xs : List A) (ims : List (List C)) : Option (List Res × List (List C)) :=
  match xs, ims with
  | [.c (.slice sz es)], [] => if (sz = 3 ∨ es = []) ∧ es.length ≤ 1000000 then (es.mapM Ac).map fun l => ([.c (.map (rB (par l)))], []) else none
  | _, _ => none
def pb (sz : Nat) (xs : List A) (ims : List (List C)) : Option (List Res × List (List C)) :=
  match xs, ims with
  | [.nil, .c (.raw (.int .i64 n))], [] => if 0 ≤ n ∧ n ≤ 1000000 then some ([.top sz []], []) else none
  | _, _ => none
end Go.Dm
namespace Go.Dm
open Go
def luk : List (Int × Int) → Int → Int × Bool
  | [], _ => (0, false)
  | (a, b) :: r, g => if g == a then (b, true) else luk r g
theorem ya (m : List (Int × Int)) (g : Int) : oz .u64 g .u64 (rB m) = some (luk m g) := by
  induction m with
  | nil => rfl
  | cons x m ih =>
    obtain ⟨a, b⟩ := x
    simp only [rB, List.map_cons, oz, luk, and_self, if_true]
    cases g == a with
    | true => rfl
    | false => simpa [rB] using ih
theorem wA (m : List (Int × Int)) (g : Int) : oz .u64 g .u64 (rB m) = some ((luk m g).1, (luk m g).2) := ya m g
theorem u7 (l : List Mi) : (mints l).mapM Ac = some l := by
  induction l with
  | nil => rfl
  | cons x l ih =>
    simp only [mints, List.map_cons, List.mapM_cons]
    have : Ac x.cs = some x := rfl
    rw [this]
    simp only [mints] at ih
    rw [ih]
    rfl
def kQ (l : List Mi) (g : Int) : Int := match l.find? (·.g == g) with | some x => x.p | none => 0
def gI (f : Int → Int) (g : Int) : Nat → Int
  | 0 => g
  | i + 1 => f (gI f g i)
def acc (f : Int → Int) (g : Int) (i : Nat) : List Int := (List.range i).map (gI f g)
def dW (f : Int → Int) (g : Int) (i : Nat) : Bool := gI f g i == 0 || (acc f g i).contains (gI f g i)
def Aq (f : Int → Int) (g : Int) (B : Nat) : Nat := (List.range (B + 1)).findIdx (dW f g)
def DV (f : Int → Int) (g : Int) (B : Nat) : List Int := acc f g (Aq f g B)
theorem sF (f : Int → Int) (g : Int) (i : Nat) : acc f g (i + 1) = acc f g i ++ [gI f g i] := by
  unfold acc; rw [List.range_succ]; simp
theorem mO (f : Int → Int) (g : Int) (i : Nat) : (acc f g i).length = i := by unfold acc; simp
theorem vP {l1 : List Int} : ∀ {l2 : List Int}, l1.Nodup → (∀ x ∈ l1, x ∈ l2) → l1.length ≤ l2.length := by
  induction l1 with
  | nil => intro l2 _ _; simp
  | cons a l1 ih =>
    intro l2 hn hs
    have ha := hs a (by simp)
    have hn' := List.nodup_cons.1 hn
    have := ih (l2 := l2.erase a) hn'.2 (fun x hx => by
      have hx2 := hs x (by simp [hx])
      have hne : x ≠ a := fun h => hn'.1 (h ▸ hx)
      exact (List.mem_erase_of_ne hne).2 hx2)
    rw [List.length_erase_of_mem ha] at this
    have : 0 < l2.length := List.length_pos_of_mem ha
    simp only [List.length_cons]
    omega
theorem qc {f : Int → Int} {g : Int} : ∀ {i : Nat}, (∀ j, j < i → dW f g j = false) → (acc f g i).Nodup
  | 0, _ => by simp [acc]
  | i + 1, h => by
    rw [sF, List.nodup_append]
    have hs := h i (by omega)
    unfold dW at hs
    simp only [Bool.or_eq_false_iff] at hs
    refine ⟨qc (fun j hj => h j (by omega)), by simp, fun a ha b hb => ?_⟩
    simp at hb
    subst hb
    intro he
    subst he
    have : (acc f g i).contains (gI f g i) = true := by simpa using ha
    rw [this] at hs
    exact absurd hs.2 (by simp)
theorem wT {f : Int → Int} {K : List Int} (hK : ∀ x, f x ≠ 0 → x ∈ K) {B : Nat} (hB : K.length + 1 ≤ B) (g : Int) : (List.range (B + 1)).any (dW f g) = true := by
  cases hb : (List.range (B + 1)).any (dW f g) with
  | true => rfl
  | false =>
    have hall : ∀ j, j ≤ B → dW f g j = false := fun j hj => by
      have := List.all_eq_true.1 (gg hb) j (by simp; omega)
      simpa using this
    have hn := qc (f := f) (g := g) (i := B) (fun j hj => hall j (by omega))
    have hs : ∀ x ∈ acc f g B, x ∈ K := fun x hx => by
      unfold acc at hx
      simp at hx
      obtain ⟨j, hj, rfl⟩ := hx
      apply hK
      intro h0
      have := hall (j + 1) (by omega)
      unfold dW at this
      simp only [Bool.or_eq_false_iff] at this
      have h1 : gI f g (j + 1) = 0 := h0
      rw [h1] at this
      exact absurd this.1 (by simp)
    have := vP hn hs
    rw [mO] at this
    omega
theorem wC {f : Int → Int} {g : Int} {B : Nat} (h : (List.range (B + 1)).any (dW f g) = true) : Aq f g B ≤ B ∧ dW f g (Aq f g B) = true ∧ ∀ j, j < Aq f g B → dW f g j = false := by
  have hl := ce h
  have h1 : Aq f g B < B + 1 := by simpa [Aq] using hl
  refine ⟨by omega, ?_, fun j hj => ?_⟩
  · have := List.findIdx_getElem (w := hl)
    simpa [Aq] using this
  · have := List.not_of_lt_findIdx (xs := List.range (B + 1)) (p := dW f g) (i := j) hj
    simpa using this
theorem vW (a b : Int) : ∀ (m : List (Int × Int)) (g : Int), luk (upd a b m) g = if g == a then (b, true) else luk m g
  | [], g => rfl
  | (c, d) :: r, g => by
    unfold upd
    cases hac : a == c with
    | true =>
      obtain rfl := eq_of_beq hac
      simp only [if_true, luk]
      cases g == a <;> rfl
    | false =>
      simp only [Bool.false_eq_true, if_false, luk]
      cases hgc : g == c with
      | true =>
        obtain rfl := eq_of_beq hgc
        have : (g == a) = false := by rw [Bool.beq_comm]; exact hac
        rw [this]; rfl
      | false => simpa using vW a b r g
theorem wo : ∀ (l : List Mi) (g : Int), luk (par l) g = (kQ l g, l.any (·.g == g))
  | [], g => rfl
  | x :: l, g => by
    have ih := wo l g
    show luk (upd x.g x.p (par l)) g = _
    rw [vW, ih]
    unfold kQ
    rw [List.find?_cons, List.any_cons, Bool.beq_comm (a := g)]
    cases x.g == g <;> rfl
theorem Ht (l : List Mi) (g : Int) : (luk (par l) g).1 = kQ l g := by rw [wo]
theorem zT (l : List Mi) (x : Int) (h : kQ l x ≠ 0) : x ∈ l.map (·.g) := by
  unfold kQ at h
  cases hf : l.find? (·.g == x) with
  | none => rw [hf] at h; exact absurd rfl h
  | some y =>
    have h1 := List.mem_of_find?_eq_some hf
    have h2 := List.find?_some hf
    rw [List.mem_map]
    exact ⟨y, h1, by simpa using h2⟩
abbrev AS (l : List Mi) : Nat := l.length + 1
abbrev vK (l : List Mi) (g : Int) : Nat := Aq (kQ l) g (AS l)
def gk (l : List Mi) (g : Int) : List Int := DV (kQ l) g (AS l)
abbrev vb (l : List Mi) (g : Int) : Int := gI (kQ l) g (vK l g)
theorem iE (l : List Mi) (g : Int) : vK l g ≤ l.length + 1 ∧ dW (kQ l) g (vK l g) = true ∧ ∀ j, j < vK l g → dW (kQ l) g j = false :=
  wC (wT (K := l.map (·.g)) (zT l) (by simp) g)
theorem xk (l : List Mi) (g : Int) : (gk l g).length ≤ l.length + 1 := by
  unfold gk DV
  rw [mO]
  exact (iE l g).1
theorem oN {l : List Mi} (hl : l.length ≤ 100000) (g : Int) : (gk l g).length ≤ 1000000 := by have := xk l g; omega
theorem qU (l : List Int) (g : Int) : l.any (g == ·) = l.contains g := by
  rw [List.contains_eq_any_beq]
def v8 (l : List Int) (g : Int) : Int := bif l.any (g == ·) then (l.findIdx (g == ·) : Int) else -1
theorem Bx {α : Type} {l : List α} {p : α → Bool} {i : Nat} {x : α} (hx : l[i]? = some x) (hp : p x = true) (hb : ∀ j y, j < i → l[j]? = some y → p y = false) : l.findIdx p = i := by
  obtain ⟨hi, rfl⟩ := List.getElem?_eq_some_iff.1 hx
  rw [List.findIdx_eq hi]
  refine ⟨hp, fun j hj => ?_⟩
  have hj2 : j < l.length := by omega
  have := hb j l[j] hj (List.getElem?_eq_getElem hj2)
  simpa using this
def bL (c : Cl) : List Mi := c.n0.mints ++ c.n1.mints
def mN (c : Cl) (i : Int) : Int := bif i == 0 then c.n0.store.super.v.cur else c.n1.store.super.v.cur
def inL (l : List Mi) (old g : Int) : Bool := (gk l g).contains old
def l5 (c : Cl) : Int :=
  bif !c.n0.up || !c.n1.up then -1 else bif mN c 0 == mN c 1 then 0 else
  bif inL (bL c) (mN c 1) (mN c 0) then 1 else bif inL (bL c) (mN c 0) (mN c 1) then 2 else 3
def hJ (c : Cl) (old g : Int) : Int := v8 (gk (bL c) g) old
def eZ (c d : Cl) : Int := bif d.n0.state == 4 && !(c.n0.state == 4) then 0 else bif d.n1.state == 4 && !(c.n1.state == 4) then 1 else -1
def vZ (c : Cl) (i : Int) : Su := bif i == 0 then c.n0.store.super else c.n1.store.super
def Cd (c d : Cl) : Bool :=
  bif decide (eZ c d < 0) then true else
  (c.n0.up && c.n1.up) && ((vZ c (eZ c d)).inc || (vZ c (eZ c d)).dis || inL (bL c) (mN c (eZ c d)) (mN c (1 - eZ c d)))
theorem Cb (l : List Int) (g : Int) : decide (v8 l g ≥ 0) = l.contains g := by
  unfold v8
  rw [← qU]
  cases l.any (g == ·) with
  | true => simp
  | false => simp
end Go.Dm
namespace Go.Dm
open Go
def gU (x y : Evt) : Bool := y.kind == 13 && y.n == x.n
def CA (l : List Evt) (i : Nat) (x : Evt) : Bool := x.kind == 13 && (x.n == 0 || (x.n == 7 || (l.take i).any (gU x)))
def kK (l : List Evt) (i : Nat) : Bool := match l[i]? with | some x => CA l i x | none => false
def cP (l : List Evt) : Bool := !(List.range l.length).any (kK l)
end Go.Dm
namespace Go.Dm
open Go
def R64 (n : Int) : Prop := 0 ≤ n ∧ n < 18446744073709551616
theorem ue {n : Int} (h : R64 n) : IntKind.wrap .u64 n = n := by
  unfold R64 at h
  unfold IntKind.wrap
  simp [IntKind.signed, IntKind.bits]
  omega
theorem sY (n : Int) : R64 (IntKind.wrap .u64 n) := by
  unfold R64 IntKind.wrap
  simp [IntKind.signed, IntKind.bits]
  omega
theorem jM {n : Int} (h : 0 ≤ n ∧ n < 256) : IntKind.wrap .u8 n = n := by
  unfold IntKind.wrap
  simp [IntKind.signed, IntKind.bits]
  omega
theorem cg {a b c d : ByteArray} (h : a ++ b = c ++ d) (hs : a.size = c.size) : a = c ∧ b = d := by
  have h2 : a.data.toList ++ b.data.toList = c.data.toList ++ d.data.toList := by
    have := congrArg (fun x : ByteArray => x.data.toList) h
    simpa using this
  have h3 := List.append_inj h2 (by simpa using hs)
  exact ⟨ByteArray.ext (Array.toList_inj.1 h3.1), ByteArray.ext (Array.toList_inj.1 h3.2)⟩
theorem bu {a b c d : ByteArray} (h : a ++ b = c ++ d) (hs : b.size = d.size) : a = c ∧ b = d := by
  refine cg h ?_
  have := congrArg ByteArray.size h
  simp only [ByteArray.size_append] at this
  omega
theorem fc {a b : Int} (ha : 0 ≤ a ∧ a < 256) (hb : 0 ≤ b ∧ b < 256) (h : cw [a] = cw [b]) : a = b := by
  have h2 : UInt8.ofNat a.toNat = UInt8.ofNat b.toNat := by
    have := congrArg (fun x : ByteArray => x.data.toList) h
    simpa [cw] using this
  have h3 := congrArg UInt8.toNat h2
  simp at h3
  omega
theorem tm (a b : Int) : cw [a, b] = cw [a] ++ cw [b] := by
  apply ByteArray.ext
  simp [cw]
theorem oA : ∀ (k : Nat) {n m : Int} {s t : ByteArray}, R64 n → R64 m → n < 256 ^ k → m < 256 ^ k → s.size = t.size → vy k n s = vy k m t → n = m ∧ s = t
  | 0, n, m, s, t, hn, hm, h1, h2, _, h => by
    unfold R64 at hn hm
    simp at h1 h2
    exact ⟨by omega, h⟩
  | k + 1, n, m, s, t, hn, hm, h1, h2, hs, h => by
    unfold R64 at hn hm
    rw [vy, vy] at h
    rw [Int.tdiv_eq_ediv_of_nonneg hn.1, Int.tdiv_eq_ediv_of_nonneg hm.1, Int.tmod_eq_emod_of_nonneg hn.1, Int.tmod_eq_emod_of_nonneg hm.1, ue (n := n / 256) (by unfold R64; omega), ue (n := m / 256) (by unfold R64; omega), jM (n := n % 256) (by omega), jM (n := m % 256) (by omega)] at h
    rw [Int.pow_succ] at h1 h2
    have ih := oA k (n := n / 256) (m := m / 256) (by unfold R64; omega) (by unfold R64; omega) (by omega) (by omega) (by simp only [ByteArray.size_append, aq, List.length_cons, List.length_nil]; omega) h
    have h3 := bu ih.2 hs
    have h4 := fc (by omega) (by omega) h3.1
    exact ⟨by omega, h3.2⟩
theorem fd {n m : Int} (hn : R64 n) (hm : R64 m) (h : ea n = ea m) : n = m :=
  (oA 8 hn hm (by have := hn.2; omega) (by have := hm.2; omega) rfl h).1
theorem yJ {n m : Int} (hn : 0 ≤ n ∧ n < 4294967296) (hm : 0 ≤ m ∧ m < 4294967296) (h : dH n = dH m) : n = m := by
  unfold dH at h
  rw [ue (by unfold R64; omega), ue (by unfold R64; omega)] at h
  exact (oA 4 (by unfold R64; omega) (by unfold R64; omega) (by omega) (by omega) rfl h).1
theorem lN {s t : ByteArray} (h : bK s = bK t) : s = t :=
  (cg h (by have := congrArg ByteArray.size h; rw [ar, ar] at this; omega)).1
theorem p9 {b : ByteArray} (h : (aa b).2 = 0) : b = bK (aa b).1 := by
  unfold aa at h ⊢
  cases h1 : decide ((b.size : Int) < 4) with
  | true => rw [h1] at h; simp at h
  | false =>
    rw [h1] at h
    cases h2 : bK (b.extract 0 (b.size - 4)) == b with
    | false => rw [h2] at h; simp at h
    | true => exact (eq_of_beq h2).symm
def VeR (v : Ve) : Prop := R64 v.cur ∧ R64 v.bit ∧ R64 v.o0 ∧ R64 v.o1
theorem sT (l : List UInt8) : R64 (eX l) := by
  unfold eX
  have key : ∀ (l : List UInt8) (n : Int), R64 n → R64 (l.foldl (fun n b => IntKind.wrap .u64 (IntKind.wrap .u64 (n * 256) + IntKind.wrap .u64 (b.toNat : Int))) n) := by
    intro l
    induction l with
    | nil => intro n h; exact h
    | cons x l ih => intro n _; rw [List.foldl_cons]; exact ih _ (sY _)
  exact key l 0 ⟨by omega, by omega⟩
theorem hZ (t : ByteArray) (i : Nat) : R64 (bN t i) := sT _
theorem fl3 {a b c d e f : Bool} (h : fl a 1 + fl b 2 + fl c 4 = fl d 1 + fl e 2 + fl f 4) : a = d ∧ b = e ∧ c = f := by
  revert a b c d e f; decide
theorem Eg (a b c : Bool) : 0 ≤ fl a 1 + fl b 2 + fl c 4 ∧ fl a 1 + fl b 2 + fl c 4 < 256 := by
  revert a b c; decide
theorem fl4 {a b c d e f g i : Bool} (h : fl a 1 + fl b 2 + fl c 4 + fl g 8 = fl d 1 + fl e 2 + fl f 4 + fl i 8) : a = d ∧ b = e ∧ c = f ∧ g = i := by
  revert a b c d e f g i; decide
theorem Eo (a b c d : Bool) : 0 ≤ fl a 1 + fl b 2 + fl c 4 + fl d 8 ∧ fl a 1 + fl b 2 + fl c 4 + fl d 8 < 256 := by
  revert a b c d; decide
theorem pE {s : Su} (h : cH s = true) : 1 ≤ s.blocks ∧ s.blocks ≤ 32 ∧ s.v.cur ≠ 0 := by
  unfold cH at h
  simpa [and_assoc] using h
theorem sn {s t : Su} (hs : cH s = true) (ht : cH t = true) (vs : VeR s.v) (vt : VeR t.v) (h : dE s = dE t) : s = t := by
  obtain ⟨sb, ⟨s1, s2, s3, s4⟩, s5, s6, s7⟩ := s
  obtain ⟨tb, ⟨t1, t2, t3, t4⟩, t5, t6, t7⟩ := t
  have hs := pE hs
  have ht := pE ht
  simp only at hs ht
  unfold dE at h
  have p4 := bu h (by rw [ap, ap])
  have p3 := bu p4.1 (by rw [ap, ap])
  have p2 := bu p3.1 (by rw [ap, ap])
  have p1 := bu p2.1 (by rw [ap, ap])
  have p0 := (bu p1.1 (by rw [aq, aq]; rfl)).2
  rw [tm, tm] at p0
  have q := bu p0 (by rw [aq, aq]; rfl)
  rw [jM (n := sb) (by omega), jM (n := tb) (by omega)] at q
  have qb := fc (by omega) (by omega) q.1
  have qf := fl3 (fc (Eg _ _ _) (Eg _ _ _) q.2)
  have e1 := fd vs.1 vt.1 p1.2
  have e2 := fd vs.2.1 vt.2.1 p2.2
  have e3 := fd vs.2.2.1 vt.2.2.1 p3.2
  have e4 := fd vs.2.2.2 vt.2.2.2 p4.2
  simp only at e1 e2 e3 e4
  obtain ⟨rfl, rfl, rfl⟩ := qf
  subst qb e1 e2 e3 e4
  rfl
theorem nk {b : ByteArray} (h : (cu b).2 = 0) : cH (cu b).1 = true ∧ VeR (cu b).1.v ∧ b = bK (dE (cu b).1) := by
  unfold cu at h ⊢
  cases h1 : !((aa b).2 == 0) with
  | true =>
    rw [h1] at h
    exfalso
    have : (aa b).2 = 0 := h
    rw [this] at h1
    exact absurd h1 (by decide)
  | false =>
    rw [h1] at h
    have h0 : (aa b).2 = 0 := by simpa using h1
    cases h2 : (!(((aa b).1.size : Int) == 37) || decide (((ae (aa b).1 4).toNat : Int) > 7)) with
    | true => rw [h2] at h; simp at h
    | false =>
      rw [h2] at h
      cases h3 : (!cH (Ay (aa b).1) || !(dE (Ay (aa b).1) == (aa b).1)) with
      | true => rw [h3] at h; simp at h
      | false =>
        simp only [Bool.or_eq_false_iff, Bool.not_eq_false'] at h3
        simp only [cond_false]
        exact ⟨h3.1, ⟨hZ _ _, hZ _ _, hZ _ _, hZ _ _⟩, by rw [eq_of_beq h3.2]; exact p9 h0⟩
theorem xG {s : Su} (hs : cH s = true) (vs : VeR s.v) (h : (cu (bn s).1).2 = 0) : (cu (bn s).1).1 = s := by
  have h1 := nk h
  have h2 : (bn s).1 = bK (dE s) := by unfold bn; rw [hs]; rfl
  have h3 := h1.2.2
  rw [h2] at h3
  have h4 := lN h3
  rw [← h2] at h4
  exact (sn hs h1.1 vs h1.2.1 h4).symm
theorem qp {s : He} (h : cA s = true) : 1 ≤ s.blocks ∧ s.blocks ≤ 32 ∧ s.v.cur ≠ 0 := by
  unfold cA at h
  simp [and_assoc] at h
  exact ⟨h.1, h.2.1, h.2.2.1⟩
theorem r4 {s t : He} (hs : cA s = true) (ht : cA t = true) (vs : VeR s.v) (vt : VeR t.v) (h : f9 s = f9 t) : s = t := by
  obtain ⟨sb, ⟨s1, s2, s3, s4⟩, s5, s6, s7, s8, s9⟩ := s
  obtain ⟨tb, ⟨t1, t2, t3, t4⟩, t5, t6, t7, t8, t9⟩ := t
  have hs := qp hs
  have ht := qp ht
  simp only at hs ht
  unfold f9 at h
  have p5 := bu h (by rw [az, az])
  have p4 := bu p5.1 (by rw [ap, ap])
  have p3 := bu p4.1 (by rw [ap, ap])
  have p2 := bu p3.1 (by rw [ap, ap])
  have p1 := bu p2.1 (by rw [ap, ap])
  have p0 := p1.1
  rw [tm, tm] at p0
  have q := bu p0 (by rw [aq, aq]; rfl)
  rw [jM (n := sb) (by omega), jM (n := tb) (by omega)] at q
  have qb := fc (by omega) (by omega) q.1
  have qf := fl4 (fc (Eo _ _ _ _) (Eo _ _ _ _) q.2)
  have e1 := fd vs.1 vt.1 p1.2
  have e2 := fd vs.2.1 vt.2.1 p2.2
  have e3 := fd vs.2.2.1 vt.2.2.1 p3.2
  have e4 := fd vs.2.2.2 vt.2.2.2 p4.2
  have e5 := DO (yJ (jZ _) (jZ _) p5.2)
  simp only at e1 e2 e3 e4 e5
  obtain ⟨rfl, rfl, rfl, rfl⟩ := qf
  subst qb e1 e2 e3 e4 e5
  rfl
theorem Cs (b : ByteArray) : VeR (eR b).1.v := by
  unfold eR
  have z : VeR he0.v := by unfold VeR R64 he0; simp
  cases (!((b.size : Int) == 38) || decide (((ae b 1).toNat : Int) > 15)) with
  | true => exact z
  | false =>
    cases !cA (DR b) with
    | true => exact z
    | false => exact ⟨hZ _ _, hZ _ _, hZ _ _, hZ _ _⟩
theorem n7 {α : Type} {p : α → Prop} (b : Bool) {x y : α} (hx : p x) (hy : p y) : p (bif b then x else y) := by
  cases b
  · exact hy
  · exact hx
theorem n3 {k : Int} (h : bJ k = true) : (k == 1) = false := by
  unfold bJ at h
  simp at h
  simp
  omega
def x8 (p : Pk) : ByteArray := bif bJ p.kind then cw [IntKind.wrap .u8 p.block] ++ p.data else bif p.kind == 1 then (gH p.hello).1 ++ p.data else p.data
theorem dw (p : Pk) : cd p = (cw [IntKind.wrap .u8 p.kind] ++ ea p.ses) ++ x8 p := by
  unfold cd iR x8
  cases h : bJ p.kind with
  | true => rw [n3 h]; simp only [cond_true, cond_false]; rw [ByteArray.append_assoc]
  | false =>
    cases h1 : p.kind == 1 with
    | true => simp only [cond_true, cond_false]; rw [ByteArray.append_assoc]
    | false => rfl
structure PkR (p : Pk) : Prop where
  kind : 1 ≤ p.kind ∧ p.kind ≤ 13
  hello : p.kind = 1 → cA p.hello = true
  none : p.kind ≠ 1 → p.hello = he0
  block : 0 ≤ p.block ∧ p.block ≤ 31
  zero : bJ p.kind = false → p.block = 0
  data : fH p.kind = true → p.data.size = 8
  void : fH p.kind = false → p.data = ⟨#[]⟩
theorem gq {p : Pk} (h : bA p = true) : PkR p := by
  unfold bA at h
  cases h1 : (decide (p.kind < 1) || decide (p.kind > 13)) with
  | true => rw [h1] at h; simp at h
  | false =>
    rw [h1] at h
    cases h2 : (p.kind == 1 && !cA p.hello || !(p.kind == 1) && !dC p.hello) with
    | true => rw [h2] at h; simp at h
    | false =>
      rw [h2] at h
      cases h3 : (decide (p.block < 0) || decide (p.block > 31) || !bJ p.kind && !(p.block == 0)) with
      | true => rw [h3] at h; simp at h
      | false =>
        rw [h3] at h
        simp only [cond_false] at h
        simp at h1 h2 h3
        refine ⟨by omega, h2.1, fun hk => (vl _).1 (h2.2 hk), by omega, h3.2, fun hd => ?_, fun hd => ?_⟩
        · rw [hd] at h; simp at h; omega
        · rw [hd] at h; simpa using h
theorem rY {p q : Pk} (hp : PkR p) (hq : PkR q) (sp : R64 p.ses) (sq : R64 q.ses) (vp : VeR p.hello.v) (vq : VeR q.hello.v) (h : cd p = cd q) : p = q := by
  rw [dw, dw] at h
  have h1 := cg h (by simp only [ByteArray.size_append, aq, ap]; rfl)
  have h2 := cg h1.1 (by simp only [aq]; rfl)
  have b1 := hp.kind
  have b2 := hq.kind
  rw [jM (by omega), jM (by omega)] at h2
  have hk := fc (by omega) (by omega) h2.1
  have hs := fd sp sq h2.2
  have ht := h1.2
  unfold x8 at ht
  rw [← hk] at ht
  have fin : p.hello = q.hello → p.block = q.block → p.data = q.data → p = q := by
    obtain ⟨a, b, c, d, e⟩ := p
    obtain ⟨a', b', c', d', e'⟩ := q
    simp only at hk hs
    intro x y z
    simp only at x y z
    subst hk hs x y z
    rfl
  cases hb : bJ p.kind with
  | true =>
    rw [hb] at ht
    simp only [cond_true] at ht
    have hne : p.kind ≠ 1 := by have := n3 hb; simpa using this
    have h3 := cg ht (by simp only [aq]; rfl)
    have c1 := hp.block
    have c2 := hq.block
    rw [jM (by omega), jM (by omega)] at h3
    exact fin (by rw [hp.none hne, hq.none (hk ▸ hne)]) (fc (by omega) (by omega) h3.1) h3.2
  | false =>
    rw [hb] at ht
    simp only [cond_false] at ht
    have z1 := hp.zero hb
    have z2 := hq.zero (hk ▸ hb)
    by_cases h4 : p.kind = 1
    · have h5 : (p.kind == 1) = true := by simpa using h4
      rw [h5] at ht
      simp only [cond_true] at ht
      have d1 := hp.void (by rw [h4]; rfl)
      have d2 := hq.void (by rw [← hk, h4]; rfl)
      have r1 := hp.hello h4
      have r2 := hq.hello (hk ▸ h4)
      have e1 : (gH p.hello).1 = f9 p.hello := by unfold gH; rw [r1]; rfl
      have e2 : (gH q.hello).1 = f9 q.hello := by unfold gH; rw [r2]; rfl
      rw [e1, e2] at ht
      have h6 := cg ht (by rw [ak, ak])
      exact fin (r4 r1 r2 vp vq h6.1) (by rw [z1, z2]) (by rw [d1, d2])
    · have h5 : (p.kind == 1) = false := by simpa using h4
      rw [h5] at ht
      exact fin (by rw [hp.none h4, hq.none (hk ▸ h4)]) (by rw [z1, z2]) ht
theorem AR (t : ByteArray) : R64 (ng t).ses ∧ VeR (ng t).hello.v := by
  have z : VeR he0.v := by unfold VeR R64 he0; simp
  unfold ng
  refine n7 (p := fun (x : Pk) => R64 x.ses ∧ VeR x.hello.v) (jS t == 1) ?_ (n7 (p := fun (x : Pk) => R64 x.ses ∧ VeR x.hello.v) (bJ (jS t) && o6 t) ?_ ?_)
  · exact ⟨sT _, Cs _⟩
  · exact ⟨sT _, z⟩
  · exact ⟨sT _, z⟩
theorem kP {b : ByteArray} (h : (bc b).2 = 0) : bA (bc b).1 = true ∧ R64 (bc b).1.ses ∧ VeR (bc b).1.hello.v ∧ b = bK (cd (bc b).1) := by
  unfold bc at h ⊢
  cases h1 : !((aa b).2 == 0) with
  | true =>
    rw [h1] at h
    exfalso
    have : (aa b).2 = 0 := h
    rw [this] at h1
    simp at h1
  | false =>
    rw [h1] at h
    have h0 : (aa b).2 = 0 := by simpa using h1
    simp only [cond_false] at h ⊢
    unfold e7 at h ⊢
    cases h2 : decide (((aa b).1.size : Int) < 9) with
    | true => rw [h2] at h; simp at h
    | false =>
      rw [h2] at h
      cases h3 : (jS (aa b).1 == 1 && !((eR (kZ (aa b).1)).2 == 0)) with
      | true => rw [h3] at h; simp at h
      | false =>
        rw [h3] at h
        cases h4 : (!bA (ng (aa b).1) || !(cd (ng (aa b).1) == (aa b).1)) with
        | true => rw [h4] at h; simp at h
        | false =>
          simp only [Bool.or_eq_false_iff, Bool.not_eq_false'] at h4
          simp only [cond_false]
          exact ⟨h4.1, (AR _).1, (AR _).2, by rw [eq_of_beq h4.2]; exact p9 h0⟩
theorem wE {p : Pk} (sp : R64 p.ses) (vp : VeR p.hello.v) (h : (bc (dF p).1).2 = 0) : (bc (dF p).1).1 = p := by
  have h1 := kP h
  cases hr : bA p with
  | false =>
    exfalso
    have h2 : (dF p).1 = ⟨#[]⟩ := by unfold dF; rw [hr]; rfl
    have h3 := congrArg ByteArray.size h1.2.2.2
    rw [h2, ar, aJ] at h3
    omega
  | true =>
    have h2 : (dF p).1 = bK (cd p) := by unfold dF; rw [hr]; rfl
    have h3 := h1.2.2.2
    rw [h2] at h3
    have h4 := lN h3
    rw [← h2] at h4
    exact (rY (gq hr) (gq h1.1) sp h1.2.1 vp h1.2.2.1 h4).symm
end Go.Dm
namespace Go.Dm
open Go
abbrev Tre := List (Int × Int)
def oq (T : Tre) : List Int := T.map (·.1)
def Kn (T : Tre) (x : Int) : Prop := x = 7 ∨ x ∈ oq T
def b9 : Tre → Prop
  | [] => True
  | (a, p) :: T => a ≠ 0 ∧ a ≠ 7 ∧ a ∉ oq T ∧ Kn T p ∧ b9 T
def di : Tre → Int → Int
  | [], _ => 0
  | (a, p) :: T, x => if x = a then p else di T x
def bB : Tre → Int → List Int
  | [], x => [x]
  | (a, p) :: T, x => if x = a then a :: bB T p else bB T x
def Bz (f : Int → Int) : List Int → Prop
  | [] => False
  | [a] => f a = 0
  | a :: b :: r => f a = b ∧ Bz f (b :: r)
theorem Kn.more {T : Tre} {x : Int} (h : Kn T x) (e : Int × Int) : Kn (e :: T) x := by
  rcases h with h | h
  · exact Or.inl h
  · exact Or.inr (List.mem_cons_of_mem _ h)
theorem Kn.nz {T : Tre} (ht : b9 T) {x : Int} (h : Kn T x) : x ≠ 0 := by
  induction T with
  | nil => rcases h with h | h
           · omega
           · simp [oq] at h
  | cons e T ih =>
    obtain ⟨a, p⟩ := e
    rcases h with h | h
    · omega
    · simp only [oq, List.map_cons, List.mem_cons] at h
      rcases h with h | h
      · rw [h]; exact ht.1
      · exact ih ht.2.2.2.2 (Or.inr h)
theorem ez {a p : Int} {T : Tre} (ht : b9 ((a, p) :: T)) {x : Int} (h : Kn T x) : x ≠ a := by
  rintro rfl
  rcases h with h | h
  · exact ht.2.1 h
  · exact ht.2.2.1 h
theorem jx {T : Tre} (ht : b9 T) : ∀ {x : Int}, Kn T x → ∀ g ∈ bB T x, Kn T g := by
  induction T with
  | nil => intro x h g hg; simp [bB] at hg; rw [hg]; exact h
  | cons e T ih =>
    obtain ⟨a, p⟩ := e
    intro x h g hg
    unfold bB at hg
    by_cases hx : x = a
    · rw [if_pos hx] at hg
      rcases List.mem_cons.1 hg with rfl | hg
      · exact Or.inr (by simp [oq])
      · exact (ih ht.2.2.2.2 ht.2.2.2.1 g hg).more _
    · rw [if_neg hx] at hg
      have hk : Kn T x := by
        rcases h with h | h
        · exact Or.inl h
        · simp only [oq, List.map_cons, List.mem_cons] at h
          rcases h with h | h
          · exact absurd h hx
          · exact Or.inr h
      exact (ih ht.2.2.2.2 hk g hg).more _
theorem ny {a p : Int} {T : Tre} (ht : b9 ((a, p) :: T)) {x : Int} (h : Kn T x) : bB ((a, p) :: T) x = bB T x := by
  rw [bB, if_neg (ez ht h)]
theorem qP (a p : Int) (T : Tre) : bB ((a, p) :: T) a = a :: bB T p := by
  rw [bB, if_pos rfl]
theorem iG (T : Tre) (x : Int) : ∃ r, bB T x = x :: r := by
  induction T generalizing x with
  | nil => exact ⟨[], rfl⟩
  | cons e T ih =>
    obtain ⟨a, p⟩ := e
    unfold bB
    by_cases hx : x = a
    · rw [if_pos hx, hx]; exact ⟨_, rfl⟩
    · rw [if_neg hx]; exact ih x
theorem vg (T : Tre) (x : Int) : x ∈ bB T x := by
  obtain ⟨r, h⟩ := iG T x
  rw [h]; simp
theorem kh {f g : Int → Int} : ∀ {l : List Int}, (∀ x ∈ l, f x = g x) → Bz f l → Bz g l
  | [], _, h => h
  | [a], he, h => by have := he a (by simp); unfold Bz at h ⊢; omega
  | a :: b :: r, he, h => ⟨by have := he a (by simp); have := h.1; omega, kh (fun x hx => he x (List.mem_cons_of_mem _ hx)) h.2⟩
theorem sK {T : Tre} (ht : b9 T) : ∀ {x : Int}, Kn T x → Bz (di T) (bB T x) ∧ (bB T x).Nodup ∧ 7 ∈ bB T x := by
  induction T with
  | nil =>
    intro x h
    rcases h with h | h
    · subst h; exact ⟨rfl, by simp [bB], by simp [bB]⟩
    · simp [oq] at h
  | cons e T ih =>
    obtain ⟨a, p⟩ := e
    intro x h
    by_cases hx : x = a
    · subst hx
      rw [qP]
      obtain ⟨h1, h2, h3⟩ := ih ht.2.2.2.2 ht.2.2.2.1
      have hk := jx ht.2.2.2.2 ht.2.2.2.1
      refine ⟨?_, ?_, List.mem_cons_of_mem _ h3⟩
      · have h4 : Bz (di ((x, p) :: T)) (bB T p) := kh (fun y hy => by unfold di; rw [if_neg (ez ht (hk y hy))]; cases T <;> rfl) h1
        obtain ⟨r, hr⟩ := iG T p
        rw [hr] at h4 ⊢
        exact ⟨by unfold di; rw [if_pos rfl], h4⟩
      · rw [List.nodup_cons]
        exact ⟨fun hm => ez ht (hk x hm) rfl, h2⟩
    · have hk : Kn T x := by
        rcases h with h | h
        · exact Or.inl h
        · simp only [oq, List.map_cons, List.mem_cons] at h
          rcases h with h | h
          · exact absurd h hx
          · exact Or.inr h
      rw [ny ht hk]
      obtain ⟨h1, h2, h3⟩ := ih ht.2.2.2.2 hk
      exact ⟨kh (fun y hy => by unfold di; rw [if_neg (ez ht (jx ht.2.2.2.2 hk y hy))]; cases T <;> rfl) h1, h2, h3⟩
theorem r8 (f : Int → Int) (g : Int) : ∀ i, gI f g (i + 1) = gI f (f g) i
  | 0 => rfl
  | i + 1 => by rw [gI, r8 f g i]; rfl
theorem og {f : Int → Int} : ∀ {l : List Int} {x : Int}, Bz f l → l.head? = some x → (∀ i (h : i < l.length), gI f x i = l[i]) ∧ gI f x l.length = 0
  | [], _, h, _ => h.elim
  | [a], x, h, hx => by
    simp at hx
    subst hx
    refine ⟨fun i hi => ?_, h⟩
    simp at hi
    subst hi
    rfl
  | a :: b :: r, x, h, hx => by
    simp at hx
    subst hx
    have ih := og (x := b) h.2 rfl
    have e := h.1
    refine ⟨fun i hi => ?_, ?_⟩
    · cases i with
      | zero => rfl
      | succ i => rw [r8, e]; exact ih.1 i (by simpa using hi)
    · show gI f a ((b :: r).length + 1) = 0
      rw [r8, e]
      exact ih.2
theorem rQ {T : Tre} (ht : b9 T) {l : List Mi} (hp : ∀ x, kQ l x = di T x) {x : Int} (hx : Kn T x) : gk l x = bB T x := by
  obtain ⟨h1, h2, _⟩ := sK ht hx
  obtain ⟨r, hr⟩ := iG T x
  have hf : kQ l = di T := funext hp
  have hz := jx ht hx
  obtain ⟨g1, g2⟩ := og (x := x) h1 (by rw [hr]; rfl)
  obtain ⟨_, s2, s3⟩ := iE l x
  rw [hf] at s2 s3
  have hacc : ∀ i, i ≤ (bB T x).length → acc (di T) x i = (bB T x).take i := by
    intro i hi
    apply List.ext_getElem
    · rw [mO]; simp; omega
    · intro j hj hj2
      rw [mO] at hj
      have := g1 j (by omega)
      simpa [acc] using this
  have hns : ∀ i, i < (bB T x).length → dW (di T) x i = false := by
    intro i hi
    unfold dW
    rw [g1 i hi, hacc i (by omega), Bool.or_eq_false_iff]
    refine ⟨?_, ?_⟩
    · have := Kn.nz ht (hz _ (List.getElem_mem hi))
      simpa using this
    · have hn : (bB T x)[i] ∉ (bB T x).take i := by
        intro hm
        rw [List.mem_take_iff_getElem] at hm
        obtain ⟨j, hj, he⟩ := hm
        exact List.pairwise_iff_getElem.1 h2 j i (by omega) hi (by omega) he
      simpa using hn
  have hstop : dW (di T) x (bB T x).length = true := by
    unfold dW
    rw [g2]
    rfl
  have hlen : vK l x = (bB T x).length := by
    rcases Nat.lt_trichotomy (vK l x) (bB T x).length with h | h | h
    · rw [hns _ h] at s2; exact absurd s2 (by simp)
    · exact h
    · rw [s3 _ h] at hstop; exact absurd hstop (by simp)
  show acc (kQ l) x (vK l x) = _
  rw [hlen, hf, hacc _ (Nat.le_refl _), List.take_length]
structure Mts (l : List Mi) (T : Tre) : Prop where
  to : ∀ x ∈ l, (x.g, x.p) ∈ T
  of : ∀ y ∈ T, ∃ x ∈ l, (x.g, x.p) = y
theorem yH {T : Tre} (ht : b9 T) : ∀ {x p : Int}, (x, p) ∈ T → di T x = p := by
  induction T with
  | nil => intro x p h; simp at h
  | cons e T ih =>
    obtain ⟨a, q⟩ := e
    intro x p h
    rcases List.mem_cons.1 h with h | h
    · simp at h; unfold di; rw [if_pos h.1, h.2]
    · have hx : x ≠ a := ez ht (Or.inr (List.mem_map.2 ⟨_, h, rfl⟩))
      unfold di
      rw [if_neg hx]
      exact ih ht.2.2.2.2 h
theorem yk {T : Tre} : ∀ {x : Int}, x ∉ oq T → di T x = 0 := by
  induction T with
  | nil => intro x _; rfl
  | cons e T ih =>
    obtain ⟨a, q⟩ := e
    intro x h
    simp only [oq, List.map_cons, List.mem_cons, not_or] at h
    unfold di
    rw [if_neg h.1]
    exact ih h.2
theorem Mts.par {l : List Mi} {T : Tre} (h : Mts l T) (ht : b9 T) (x : Int) : kQ l x = di T x := by
  unfold kQ
  cases hf : l.find? (·.g == x) with
  | none =>
    rw [List.find?_eq_none] at hf
    refine (yk fun hm => ?_).symm
    obtain ⟨y, hy, he⟩ := List.mem_map.1 hm
    obtain ⟨z, hz, hzy⟩ := h.of y hy
    apply hf z hz
    rw [← he, ← hzy]
    simp
  | some y =>
    have h1 := List.mem_of_find?_eq_some hf
    have h2 := List.find?_some hf
    have h3 : y.g = x := by simpa using h2
    have h4 := h.to y h1
    rw [h3] at h4
    exact (yH ht h4).symm
theorem Mts.line {l : List Mi} {T : Tre} (h : Mts l T) (ht : b9 T) {x : Int} (hx : Kn T x) : gk l x = bB T x := rQ ht (h.par ht) hx
theorem BK {T : Tre} (ht : b9 T) {x : Int} (h : di T x ≠ 0) : Kn T (di T x) := by
  induction T with
  | nil => exact absurd rfl h
  | cons e T ih =>
    obtain ⟨a, p⟩ := e
    unfold di at h ⊢
    by_cases hx : x = a
    · rw [if_pos hx]; exact ht.2.2.2.1.more _
    · rw [if_neg hx] at h ⊢; exact (ih ht.2.2.2.2 h).more _
theorem fC {a p : Int} {T : Tre} (ht : b9 ((a, p) :: T)) {x : Int} (h : Kn T x ∨ x = 0) : di ((a, p) :: T) x = di T x := by
  have hx : x ≠ a := by
    rcases h with h | h
    · exact ez ht h
    · rw [h]; exact fun h0 => ht.1 h0.symm
  rw [di, if_neg hx]
theorem y9 (a p : Int) (T : Tre) : di ((a, p) :: T) a = p := by rw [di, if_pos rfl]
theorem pW {T : Tre} (ht : b9 T) (x : Int) : Kn T (di T x) ∨ di T x = 0 := by
  by_cases h : di T x = 0
  · exact Or.inr h
  · exact Or.inl (BK ht h)
def I12 (T : Tre) (v : Ve) : Prop :=
  (v.bit ≠ 0 → (di T v.cur = 0 ∨ di T v.cur = v.bit ∨ di T v.cur = v.o0) ∧ (di T (di T v.cur) = 0 ∨ di T (di T v.cur) = v.bit ∨ di T (di T v.cur) = v.o0 ∨ di T (di T v.cur) = v.o1)) ∧
  (v.bit = 0 → di T v.cur = 0 ∨ di T v.cur = v.o0 ∨ di T v.cur = v.o1)
theorem I12.more {T : Tre} {a p : Int} (ht : b9 ((a, p) :: T)) {v : Ve} (hk : Kn T v.cur) (h : I12 T v) : I12 ((a, p) :: T) v := by
  unfold I12
  rw [fC ht (Or.inl hk), fC ht (pW ht.2.2.2.2 _)]
  exact h
theorem I12.ret {T : Tre} {v : Ve} (h : I12 T v) : I12 T (bF v) := by
  unfold bF
  cases hb : v.bit == 0 with
  | true => exact h
  | false =>
    have hb : v.bit ≠ 0 := by simpa using hb
    exact ⟨fun h0 => absurd rfl h0, fun _ => (h.1 hb).1⟩
theorem I12.mint {T : Tre} {v : Ve} {g : Int} (h : I12 T v) (hk : Kn T v.cur) (ht : b9 ((g, v.cur) :: T)) : I12 ((g, v.cur) :: T) (dB v g) := by
  have e1 : di ((g, v.cur) :: T) g = v.cur := y9 _ _ _
  have e2 : di ((g, v.cur) :: T) v.cur = di T v.cur := fC ht (Or.inl hk)
  have hz := Kn.nz ht.2.2.2.2 hk
  unfold dB
  cases hb : v.bit == 0 with
  | true =>
    have hb : v.bit = 0 := eq_of_beq hb
    refine ⟨fun _ => ?_, fun h0 => absurd h0 hz⟩
    show (di _ g = 0 ∨ di _ g = v.cur ∨ di _ g = v.o0) ∧ (di _ (di _ g) = 0 ∨ di _ (di _ g) = v.cur ∨ di _ (di _ g) = v.o0 ∨ di _ (di _ g) = v.o1)
    rw [e1, e2]
    have := h.2 hb
    refine ⟨Or.inr (Or.inl rfl), ?_⟩
    rcases this with h5 | h5 | h5
    · exact Or.inl h5
    · exact Or.inr (Or.inr (Or.inl h5))
    · exact Or.inr (Or.inr (Or.inr h5))
  | false =>
    have hb : v.bit ≠ 0 := by simpa using hb
    refine ⟨fun _ => ?_, fun h0 => absurd h0 hb⟩
    show (di _ g = 0 ∨ di _ g = v.bit ∨ di _ g = v.cur) ∧ (di _ (di _ g) = 0 ∨ di _ (di _ g) = v.bit ∨ di _ (di _ g) = v.cur ∨ di _ (di _ g) = v.o0)
    rw [e1, e2]
    have := (h.1 hb).1
    refine ⟨Or.inr (Or.inr rfl), ?_⟩
    rcases this with h5 | h5 | h5
    · exact Or.inl h5
    · exact Or.inr (Or.inl h5)
    · exact Or.inr (Or.inr (Or.inr h5))
def Gp (T : Tre) (v w : Ve) : Prop := w.cur ≠ v.cur → (w.cur = di T v.cur ∨ w.cur = di T (di T v.cur)) → w.cur = v.bit ∨ w.cur = v.o0 ∨ w.cur = v.o1
theorem Gp.eq {T : Tre} {v w : Ve} (h : w.cur = v.cur) : Gp T v w := fun hn => absurd h hn
theorem Gp.two {T : Tre} {v w : Ve} (hw : w.cur ≠ 0) (hv : I12 T v) (hb : v.bit ≠ 0) : Gp T v w := fun _ hp => by
  obtain ⟨h1, h2⟩ := hv.1 hb
  rcases hp with hp | hp
  · rw [← hp] at h1
    rcases h1 with h1 | h1 | h1
    · exact absurd h1 hw
    · exact Or.inl h1
    · exact Or.inr (Or.inl h1)
  · rw [← hp] at h2
    rcases h2 with h2 | h2 | h2 | h2
    · exact absurd h2 hw
    · exact Or.inl h2
    · exact Or.inr (Or.inl h2)
    · exact Or.inr (Or.inr h2)
theorem Gp.more {T : Tre} {a p : Int} (ht : b9 ((a, p) :: T)) {v w : Ve} (hv : Kn T v.cur) (h : Gp T v w) : Gp ((a, p) :: T) v w := by
  unfold Gp
  rw [fC ht (Or.inl hv), fC ht (pW ht.2.2.2.2 _)]
  exact h
theorem Gp.fresh {T : Tre} {a p : Int} (ht : b9 ((a, p) :: T)) {v w : Ve} (hv : Kn T v.cur) (hw : w.cur = a) : Gp ((a, p) :: T) v w := fun _ hp => by
  exfalso
  rw [fC ht (Or.inl hv), fC ht (pW ht.2.2.2.2 _), hw] at hp
  rcases hp with hp | hp
  · rcases pW ht.2.2.2.2 v.cur with h5 | h5
    · exact ez ht h5 hp.symm
    · exact ht.1 (hp.trans h5)
  · rcases pW ht.2.2.2.2 (di T v.cur) with h5 | h5
    · exact ez ht h5 hp.symm
    · exact ht.1 (hp.trans h5)
def PV (T : Tre) (inc : Bool) (v : Ve) : Prop := VeR v ∧ Kn T v.cur ∧ (inc = false → (∀ g, (g = v.bit ∨ g = v.o0 ∨ g = v.o1) → g = 0 ∨ g ∈ bB T v.cur) ∧ I12 T v)
theorem PV.more {T : Tre} {a p : Int} (ht : b9 ((a, p) :: T)) {i : Bool} {v : Ve} (h : PV T i v) : PV ((a, p) :: T) i v := by
  refine ⟨h.1, h.2.1.more _, fun hi => ⟨fun g hg => ?_, (h.2.2 hi).2.more ht h.2.1⟩⟩
  rw [ny ht h.2.1]
  exact (h.2.2 hi).1 g hg
theorem PV.ret {T : Tre} {i : Bool} {v : Ve} (h : PV T i v) : PV T i (bF v) := by
  have hI : i = false → I12 T (bF v) := fun hi => (h.2.2 hi).2.ret
  have hp := h.2.2
  unfold bF at hI ⊢
  cases hb : v.bit == 0 with
  | true => exact h
  | false =>
    rw [hb] at hI
    refine ⟨⟨h.1.1, by unfold R64; simp, h.1.2.1, h.1.2.2.1⟩, h.2.1, fun hi => ⟨fun g hg => ?_, hI hi⟩⟩
    rcases hg with hg | hg | hg
    · exact Or.inl hg
    · exact (h.2.2 hi).1 g (Or.inl hg)
    · exact (h.2.2 hi).1 g (Or.inr (Or.inl hg))
theorem PV.frm {T : Tre} {i : Bool} {v : Ve} (h : PV T i v) {g : Int} (hg : R64 g) : PV T true (qD v g) :=
  ⟨⟨h.1.1, hg, h.1.2.2.1, h.1.2.2.2⟩, h.2.1, fun hi => absurd hi (by simp)⟩
theorem PV.mint {T : Tre} {i : Bool} {v : Ve} (h : PV T i v) {g : Int} (hg : R64 g) (ht : b9 ((g, v.cur) :: T)) : PV ((g, v.cur) :: T) i (dB v g) := by
  have hI : i = false → I12 ((g, v.cur) :: T) (dB v g) := fun hi => (h.2.2 hi).2.mint h.2.1 ht
  have hz : ∀ x, (x = v.cur ∨ x = v.bit ∨ x = v.o0 ∨ x = v.o1) → i = false → x = 0 ∨ x ∈ bB ((g, v.cur) :: T) g := by
    intro x hx hi
    rw [qP]
    rcases hx with hx | hx
    · right; rw [hx]; exact List.mem_cons_of_mem _ (vg _ _)
    · rcases (h.2.2 hi).1 x hx with h5 | h5
      · exact Or.inl h5
      · exact Or.inr (List.mem_cons_of_mem _ h5)
  have hk : Kn ((g, v.cur) :: T) g := Or.inr (by simp [oq])
  unfold dB at hI ⊢
  cases hb : v.bit == 0 with
  | true =>
    rw [hb] at hI
    refine ⟨⟨hg, h.1.1, h.1.2.2.1, h.1.2.2.2⟩, hk, fun hi => ⟨fun x hx => ?_, hI hi⟩⟩
    rcases hx with hx | hx | hx
    · exact hz x (Or.inl hx) hi
    · exact hz x (Or.inr (Or.inr (Or.inl hx))) hi
    · exact hz x (Or.inr (Or.inr (Or.inr hx))) hi
  | false =>
    rw [hb] at hI
    refine ⟨⟨hg, h.1.2.1, h.1.1, h.1.2.2.1⟩, hk, fun hi => ⟨fun x hx => ?_, hI hi⟩⟩
    rcases hx with hx | hx | hx
    · exact hz x (Or.inr (Or.inl hx)) hi
    · exact hz x (Or.inl hx) hi
    · exact hz x (Or.inr (Or.inr (Or.inl hx))) hi
end Go.Dm
namespace Go.Dm
open Go
structure Cp (V : Bool → Ve → Prop) : Prop where
  ve : ∀ i v, V i v → VeR v
  ret : ∀ i v, V i v → V i (bF v)
  frm : ∀ i v g, V i v → R64 g → V true (qD v g)
abbrev SV (V : Bool → Ve → Prop) : Su → Prop := fun s => V s.inc s.v
def OkB (P : Su → Prop) (b : ByteArray) : Prop := (cu b).2 = 0 → P (cu b).1
def OkD (P : Su → Prop) (d : Dk) : Prop := OkB P (d.sure.getD 0 ⟨#[]⟩) ∧ ∀ w ∈ d.cache, w.sec.toNat = 0 → OkB P w.data
section
variable {V : Bool → Ve → Prop} {P : Su → Prop}
theorem lT : OkB P ⟨#[]⟩ := fun h => by
  have h1 := (nk h).2.2
  have h2 := congrArg ByteArray.size h1
  rw [ar, aJ] at h2
  omega
theorem rP {s : Su} (hv : VeR s.v) (h : P s) : OkB P (bn s).1 := by
  cases hr : cH s with
  | true =>
    intro hd
    rw [xG hr hv hd]
    exact h
  | false =>
    have : (bn s).1 = ⟨#[]⟩ := by unfold bn; rw [hr]; rfl
    rw [this]
    exact lT
theorem OkB.more {W : Su → Prop} (hw : ∀ s, P s → W s) {b : ByteArray} (h : OkB P b) : OkB W b := fun hd => hw _ (h hd)
theorem OkD.more {W : Su → Prop} (hw : ∀ s, P s → W s) {d : Dk} (h : OkD P d) : OkD W d := ⟨h.1.more hw, fun w hm h0 => (h.2 w hm h0).more hw⟩
theorem OkD.same {d e : Dk} (h : OkD P d) (h1 : e.sure = d.sure) (h2 : e.cache = d.cache) : OkD P e := by unfold OkD at h ⊢; rw [h1, h2]; exact h
theorem rU {d : Dk} (h : OkD P d) : OkD P (aT d) := h.same rfl rfl
theorem mX {d : Dk} (h : OkD P d) {i : Int} {x : ByteArray} (hx : i = 0 → OkB P x) : OkD P (bm d i x).1 := by
  unfold bm
  refine ai (p := fun (x : Dk × Int) => OkD P x.1) h ?_
  cases hi : (decide (i < 0) || decide (i ≥ (d.sure.length : Int))) with
  | true => exact h
  | false =>
    simp at hi
    refine ai (p := fun (x : Dk × Int) => OkD P x.1) h (ai (p := fun (x : Dk × Int) => OkD P x.1) h (ai (p := fun (x : Dk × Int) => OkD P x.1) (rU h) ?_))
    refine ⟨h.1, fun w hm h0 => ?_⟩
    rcases List.mem_append.1 hm with hm | hm
    · exact h.2 w hm h0
    · simp at hm
      subst hm
      exact hx (by simp only at h0; omega)
theorem tQ {d : Dk} (h : OkD P d) : OkB P (dj d 0) := by
  unfold dj
  have key : ∀ (l : List Wr) (s : ByteArray), OkB P s → (∀ w ∈ l, w.sec.toNat = 0 → OkB P w.data) → OkB P (l.foldl (fun s w => bif w.sec == 0 then w.data else s) s) := by
    intro l
    induction l with
    | nil => intro s hs _; exact hs
    | cons w l ih =>
      intro s hs hl
      rw [List.foldl_cons]
      refine ih _ ?_ (fun w hm => hl w (List.mem_cons_of_mem _ hm))
      cases hw : w.sec == 0 with
      | true => exact hl w (by simp) (by have := eq_of_beq hw; rw [this]; rfl)
      | false => exact hs
  exact key _ _ h.1 h.2
theorem oM {d : Dk} (h : OkD P d) : OkD P (dT d).1 := by
  unfold dT
  refine ai (p := fun (x : Dk × Int) => OkD P x.1) h (ai (p := fun (x : Dk × Int) => OkD P x.1) (rU h) ?_)
  refine ⟨?_, by simp⟩
  have hb := tQ (rU h)
  show OkB P ((ju (aT d)).getD 0 ⟨#[]⟩)
  unfold ju
  cases hl : (aT d).sure.length with
  | zero => exact lT
  | succ k => rw [List.range_succ_eq_map]; exact hb
theorem tj {d : Dk} (h : OkD P d) : OkD P (pO d) := h.same rfl rfl
theorem qT {d : Dk} (h : OkD P d) (ks : List Bool) : OkD P (bU d ks) := by
  refine ⟨?_, by simp [bU]⟩
  unfold bU
  have key : ∀ (l : List (Wr × Bool)) (s : List ByteArray), OkB P (s.getD 0 ⟨#[]⟩) → (∀ w ∈ l, w.1.sec.toNat = 0 → OkB P w.1.data) → OkB P ((l.foldl (fun s x => bif x.2 then s.set x.1.sec.toNat x.1.data else s) s).getD 0 ⟨#[]⟩) := by
    intro l
    induction l with
    | nil => intro s hs _; exact hs
    | cons w l ih =>
      intro s hs hl
      rw [List.foldl_cons]
      refine ih _ ?_ (fun w hm => hl w (List.mem_cons_of_mem _ hm))
      cases hw : w.2 with
      | false => exact hs
      | true =>
        cases s with
        | nil => exact hs
        | cons a s =>
          cases hk : w.1.sec.toNat with
          | zero => exact hl w (by simp) hk
          | succ k => exact hs
  exact key _ _ h.1 (fun w hm h0 => h.2 w.1 ((List.of_mem_zip (show (w.1, w.2) ∈ _ from hm)).1) h0)
theorem nD {d : Dk} (h : OkD P d) {s : Su} (hv : VeR s.v) (hs : P s) : OkD P (cb d s).1 := by
  unfold cb
  have hw := mX h (i := 0) (fun _ => rP hv hs)
  exact ai (p := fun (x : Dk × Int) => OkD P x.1) h (ai (p := fun (x : Dk × Int) => OkD P x.1) hw (oM hw))
theorem oR {d : Dk} (h : OkD P d) (m : BitVec 32) : OkD P (d8 d m).1 := by
  unfold d8
  exact ai (p := fun (x : Dk × Int) => OkD P x.1) h (mX h (fun h1 => absurd h1 (by decide)))
theorem tN {d : Dk} (h : OkD P d) (m : BitVec 32) : OkD P (g8 d m).1 := by
  unfold g8
  exact ai (p := fun (x : Dk × Int) => OkD P x.1) (oR h m) (oM (oR h m))
theorem yK {i L : Int} (h1 : 0 ≤ i) (h2 : i < IntKind.wrap .i64 L) : IntKind.wrap .i64 (i + 2) ≠ 0 := by
  unfold IntKind.wrap at h2 ⊢
  simp [IntKind.signed, IntKind.bits] at h2 ⊢
  split at h2 <;> split <;> omega
theorem Cj {d : Dk} (h : OkD P d) (i : Int) (x : ByteArray) : OkD P (iN d i x).1 := by
  unfold iN
  cases ht : j4 d i with
  | false => exact h
  | true =>
    unfold j4 at ht
    simp at ht
    have hw : OkD P (bm d (IntKind.wrap .i64 (i + 2)) x).1 := mX h (fun h0 => absurd h0 (yK ht.1 ht.2))
    exact ai (p := fun (x : Dk × Int) => OkD P x.1) h (ai (p := fun (x : Dk × Int) => OkD P x.1) h (ai (p := fun (x : Dk × Int) => OkD P x.1) hw (oM hw)))
theorem lZ {d : Dk} (h : OkD P d) (h0 : (bq d).2 = 0) : (bq d).1.disk = d ∧ P (bq d).1.super := by
  unfold bq at h0 ⊢
  cases h1 : !((gd d).2 == 0) with
  | true =>
    rw [h1] at h0
    exfalso
    have : (gd d).2 = 0 := h0
    rw [this] at h1
    simp at h1
  | false =>
    rw [h1] at h0
    cases h2 : !((fj d).2 == 0) with
    | true =>
      rw [h2] at h0
      exfalso
      have : (fj d).2 = 0 := h0
      rw [this] at h2
      simp at h2
    | false =>
      rw [h2] at h0
      cases h3 : !((tA d).2 == 0) with
      | true =>
        rw [h3] at h0
        exfalso
        have : (tA d).2 = 0 := h0
        rw [this] at h3
        simp at h3
      | false =>
        refine ⟨rfl, ?_⟩
        show P (gd d).1
        have hs : (gd d).2 = 0 := by simpa using h1
        unfold gd at hs ⊢
        cases h4 : !((bd d 0).2 == 0) with
        | true =>
          rw [h4] at hs
          exfalso
          have : (bd d 0).2 = 0 := hs
          rw [this] at h4
          simp at h4
        | false =>
          rw [h4] at hs
          cases h5 : !((cu (bd d 0).1).2 == 0) with
          | true =>
            rw [h5] at hs
            exfalso
            have : (cu (bd d 0).1).2 = 0 := hs
            rw [this] at h5
            simp at h5
          | false =>
            rw [h5] at hs
            cases h6 : !mV d (cu (bd d 0).1).1 with
            | true => rw [h6] at hs; simp at hs
            | false =>
              show P (cu (bd d 0).1).1
              have h7 : OkB P (bd d 0).1 := by
                unfold bd
                exact ai (p := fun (x : ByteArray × Int) => OkB P x.1) lT (ai (p := fun (x : ByteArray × Int) => OkB P x.1) lT (tQ h))
              exact h7 (by simpa using h5)
def Sk (P : Su → Prop) (s t : So) : Prop := OkD P t.disk ∧ t.super = s.super
theorem oD {s : So} (h : OkD P s.disk) (m : BitVec 32) : Sk P s (kB s m).1 := by
  unfold kB
  exact ai (p := fun (x : So × Int) => Sk P s x.1) ⟨h, rfl⟩ (ai (p := fun (x : So × Int) => Sk P s x.1) ⟨tN h m, rfl⟩ ⟨tN h m, rfl⟩)
theorem lQ {s : So} (h : OkD P s.disk) (i : Int) : Sk P s (fI s i).1 := by
  unfold fI
  exact ai (p := fun (x : So × Int) => Sk P s x.1) ⟨h, rfl⟩ (oD h _)
theorem iK {s : So} (h : OkD P s.disk) (i : Int) : Sk P s (dG s i).1 := by
  unfold dG
  exact ai (p := fun (x : So × Int) => Sk P s x.1) ⟨h, rfl⟩ (ai (p := fun (x : So × Int) => Sk P s x.1) ⟨h, rfl⟩ (ai (p := fun (x : So × Int) => Sk P s x.1) ⟨oR h _, rfl⟩ ⟨oR h _, rfl⟩))
theorem iA {s : So} (h : OkD P s.disk) (i : Int) (x : ByteArray) : Sk P s (d9 s i x).1 := ⟨Cj h _ _, rfl⟩
theorem kS {s : So} (h : OkD P s.disk) {b : Su} (hv : VeR b.v) (hb : P b) : OkD P (bO s b).1.disk ∧ ((bO s b).2 = 0 → (bO s b).1.super = b) ∧ (bO s b).1.mask = s.mask := by
  unfold bO
  cases he : AT b s.super with
  | true => exact ⟨h, fun _ => ((tM _ _).1 he).symm, rfl⟩
  | false =>
    cases h1 : (cb s.disk b).2 == 0 with
    | true => exact ⟨nD h hv hb, fun _ => rfl, rfl⟩
    | false =>
      refine ⟨nD h hv hb, fun h2 => ?_, rfl⟩
      have h3 : (cb s.disk b).2 = 0 := h2
      rw [h3] at h1
      simp at h1
structure NI (V : Bool → Ve → Prop) (n : Nd) : Prop where
  d : OkD (SV V) n.store.disk
  s : n.up = true → SV V n.store.super
  p : n.state = 4 → V false n.peer.v
  z : n.up = false → n.state = 0
theorem NI.more {W : Bool → Ve → Prop} (hw : ∀ i v, V i v → W i v) {n : Nd} (h : NI V n) : NI W n := ⟨h.d.more (fun _ k => hw _ _ k), fun hu => hw _ _ (h.s hu), fun h4 => hw _ _ (h.p h4), h.z⟩
abbrev eN (n : Nd) : Int := n.store.super.v.cur
structure Bec (V : Bool → Ve → Prop) (n m : Nd) : Prop where
  ok : NI V m
  id : m.id = n.id
  dr : m.draws = n.draws
  mi : m.mints = n.mints
  up : m.up = true → n.up = true ∧ m.ses = n.ses
  st : m.up = true → m.state = n.state ∨ (n.state = 1 ∧ (m.state = 2 ∨ m.state = 3 ∨ m.state = 4)) ∨ ((n.state = 3 ∨ n.state = 4) ∧ m.state = 2)
  own : m.up = true → n.state = 1 → m.state = 1 → cy m = cy n
  cur : m.up = true → m.state ≠ 4 → n.state ≠ 4 → eN m = eN n
theorem Bec.flat {n m : Nd} (hn : NI V n) (hd : OkD (SV V) m.store.disk) (hs : m.up = true → SV V m.store.super) (id : m.id = n.id) (hu : m.up = n.up) (ht : m.state = n.state) (hk : m.ses = n.ses) (dr : m.draws = n.draws) (mi : m.mints = n.mints) (hp : m.peer = n.peer) (ho : n.state = 1 → cy m = cy n) (hc : eN m = eN n) : Bec V n m :=
  ⟨⟨hd, hs, by rw [ht, hp]; exact hn.p, by rw [hu, ht]; exact hn.z⟩, id, dr, mi, fun h => ⟨by rw [← hu]; exact h, hk⟩, fun _ => Or.inl ht, fun _ h1 _ => ho h1, fun _ _ _ => hc⟩
theorem Bec.refl {n : Nd} (hn : NI V n) : Bec V n n := Bec.flat hn hn.d hn.s rfl rfl rfl rfl rfl rfl rfl (fun _ => rfl) rfl
theorem Bec.down {n m : Nd} (hd : OkD (SV V) m.store.disk) (id : m.id = n.id) (dr : m.draws = n.draws) (mi : m.mints = n.mints) : Bec V n (ch m) :=
  ⟨⟨tj hd, fun h => absurd h (by simp [ch]), fun h => absurd h (by simp [ch]), fun _ => rfl⟩, id, dr, mi, fun h => absurd h (by simp [ch]), fun h => absurd h (by simp [ch]), fun h => absurd h (by simp [ch]), fun h => absurd h (by simp [ch])⟩
def BO (b : ByteArray) : Prop := (bc b).2 = 0 → (bc b).1.kind ≠ 1
theorem zI {p : Pk} (hk : p.kind ≠ 1) : BO (dF p).1 := by
  intro h
  have h1 := kP h
  cases hr : bA p with
  | false =>
    exfalso
    have h2 : (dF p).1 = ⟨#[]⟩ := by unfold dF; rw [hr]; rfl
    have h3 := congrArg ByteArray.size h1.2.2.2
    rw [h2, ar, aJ] at h3
    omega
  | true =>
    have h2 : (dF p).1 = bK (cd p) := by unfold dF; rw [hr]; rfl
    have h3 := h1.2.2.2
    rw [h2] at h3
    have h4 := lN h3
    rw [← h2, dw, dw] at h4
    have h5 := cg h4 (by simp only [ByteArray.size_append, aq, ap]; rfl)
    have h6 := cg h5.1 (by simp only [aq]; rfl)
    have b1 := (gq hr).kind
    have b2 := (gq h1.1).kind
    rw [jM (by omega), jM (by omega)] at h6
    have h7 := fc (by omega) (by omega) h6.1
    rw [← h7]
    exact hk
def dg (l : List Ou) : Prop := ∀ o ∈ l, o.kind = 1 → BO o.data
theorem dg.nil : dg [] := by intro o h; simp at h
theorem dg.cons {o : Ou} {l : List Ou} (h : o.kind = 1 → BO o.data) (hl : dg l) : dg (o :: l) := by
  intro p hp
  rcases List.mem_cons.1 hp with rfl | hp
  · exact h
  · exact hl p hp
theorem dg.app {l m : List Ou} (h : dg l) (hl : dg m) : dg (l ++ m) := by
  intro p hp
  rcases List.mem_append.1 hp with hp | hp
  · exact h p hp
  · exact hl p hp
theorem nu (n : Nd) (id e : Int) (x : ByteArray) : (af n id e x).kind = 1 → BO (af n id e x).data := fun h => absurd h (by simp [af])
theorem nC (n : Nd) : (cz n).kind = 1 → BO (cz n).data := fun h => absurd h (by simp [cz])
theorem qV (n : Nd) {p : Pk} (h : p.kind ≠ 1) : (aR n p).kind = 1 → BO (aR n p).data := fun _ => zI h
theorem dg.re (n : Nd) (id e : Int) (x : ByteArray) : dg [af n id e x] := .cons (nu _ _ _ _) .nil
theorem dg.se (n : Nd) {p : Pk} (h : p.kind ≠ 1) : dg [aR n p] := .cons (qV _ h) .nil
def Rs (V : Bool → Ve → Prop) (n : Nd) (x : Nd × List Ou) : Prop := Bec V n x.1 ∧ dg x.2
theorem zO {n : Nd} (hn : NI V n) {s : So} (hs : Sk (SV V) n.store s) (hm : n.state = 1 → s.mask = n.store.mask) (e : Int) : Bec V n (d7 n s e).1 := by
  unfold d7
  refine ai (p := fun (x : Nd × Bool) => Bec V n x.1) (Bec.down hs.1 rfl rfl rfl) ?_
  refine Bec.flat hn hs.1 (fun h => ?_) rfl rfl rfl rfl rfl rfl rfl (fun h1 => ?_) ?_
  · show SV V s.super
    rw [hs.2]; exact hn.s h
  · show Et s.super n.primary s.mask = _
    rw [hs.2, hm h1]; rfl
  · show s.super.v.cur = _
    rw [hs.2]
theorem d4 {n : Nd} {s : So} {e : Int} (h : (d7 n s e).2 = true) : (d7 n s e).1 = { n with store := s } := by
  unfold d7 at h ⊢
  cases h1 : !(e == 0) with
  | true => rw [h1] at h; simp at h
  | false => rfl
theorem dN {n : Nd} {s : So} {e : Int} (h : (d7 n s e).2 = false) : (d7 n s e).1 = ch { n with store := s } := by
  unfold d7 at h ⊢
  cases h1 : !(e == 0) with
  | false => rw [h1] at h; simp at h
  | true => rfl
theorem dA (hc : Cp V) {n : Nd} (hn : OkD (SV V) n.store.disk) {b : Su} (hb : SV V b) (h : (ac n b).2 = true) : ∃ d, OkD (SV V) d ∧ (ac n b).1 = { n with store := ⟨d, b, n.store.mask⟩ } := by
  have k := kS hn (hc.ve _ _ hb) hb
  unfold ac at h ⊢
  generalize bO n.store b = x at h k ⊢
  obtain ⟨⟨d, s, m⟩, e⟩ := x
  obtain ⟨k1, k2, k3⟩ := k
  simp only at h k1 k2 k3 ⊢
  cases h1 : !(e == 0) with
  | true => rw [h1] at h; simp at h
  | false =>
    have h2 := k2 (by simpa using h1)
    subst h2 k3
    exact ⟨d, k1, rfl⟩
theorem fm (hc : Cp V) {n : Nd} (hn : OkD (SV V) n.store.disk) {b : Su} (hb : SV V b) (h : (ac n b).2 = false) : ∃ m, OkD (SV V) m.store.disk ∧ m.id = n.id ∧ m.draws = n.draws ∧ m.mints = n.mints ∧ (ac n b).1 = ch m := by
  have k := kS hn (hc.ve _ _ hb) hb
  unfold ac at h ⊢
  generalize bO n.store b = x at h k ⊢
  obtain ⟨s, e⟩ := x
  simp only at h k ⊢
  cases h1 : !(e == 0) with
  | false => rw [h1] at h; simp at h
  | true => exact ⟨{ n with store := s }, k.1, rfl, rfl, rfl, rfl⟩
theorem dy (hc : Cp V) {n : Nd} (hn : NI V n) {b : Su} (hb : SV V b) (h : (ac n b).2 = false) : Bec V n (ac n b).1 := by
  obtain ⟨m, h1, h2, h3, h4, h5⟩ := fm hc hn.d hb h
  rw [h5]
  exact Bec.down h1 h2 h3 h4
end
end Go.Dm
namespace Go.Dm
open Go
section
variable {V : Bool → Ve → Prop}
theorem lP {n : Nd} {b : Bool} {x y : Nd × List Ou} (hx : Rs V n x) (hy : Rs V n y) : Rs V n (bif b then x else y) := by
  cases b
  · exact hy
  · exact hx
theorem ky {n : Nd} {b : Bool} {x y : Nd × List Ou} (hx : b = true → Rs V n x) (hy : b = false → Rs V n y) : Rs V n (bif b then x else y) := by
  cases b
  · exact hy rfl
  · exact hx rfl
theorem nbt {b : Bool} (h : (!b) = true) : b = false := by simpa using h
theorem nbf {b : Bool} (h : (!b) = false) : b = true := by simpa using h
theorem fF {n : Nd} (hn : NI V n) (id e : Int) (x : ByteArray) : Rs V n (n, [af n id e x]) := ⟨Bec.refl hn, dg.re _ _ _ _⟩
theorem df (v : Ve) : (bF v).cur = v.cur := by
  unfold bF
  cases v.bit == 0 <;> rfl
theorem Bec.com {n m : Nd} (hn : NI V n) (hu : n.up = true) (h1 : n.state ≠ 1) {d : Dk} {b : Su} (hd : OkD (SV V) d) (hb : SV V b) (hcur : b.v.cur = eN n) (id : m.id = n.id) (hs : m.store.disk = d ∧ m.store.super = b) (up : m.up = n.up) (st : m.state = n.state ∨ ((n.state = 3 ∨ n.state = 4) ∧ m.state = 2)) (hk : m.ses = n.ses) (dr : m.draws = n.draws) (mi : m.mints = n.mints) (hp : m.peer = n.peer) : Bec V n m := by
  refine ⟨⟨by rw [hs.1]; exact hd, fun _ => by rw [hs.2]; exact hb, fun h4 => ?_, fun h0 => by rw [up, hu] at h0; exact absurd h0 (by simp)⟩, id, dr, mi, fun _ => ⟨hu, hk⟩, fun _ => ?_, fun _ h _ => absurd h h1, fun _ _ _ => by unfold eN; rw [hs.2]; exact hcur⟩
  · rw [hp]
    rcases st with st | st
    · exact hn.p (by rw [← st]; exact h4)
    · rw [st.2] at h4; exact absurd h4 (by decide)
  · rcases st with st | st
    · exact Or.inl st
    · exact Or.inr (Or.inr st)
theorem mB (hc : Cp V) {n : Nd} (hn : NI V n) (id : Int) : Rs V n (bT n id) := by
  unfold bT
  refine ky (fun _ => fF hn _ _ _) (fun hu => ?_)
  have hu := nbf hu
  refine lP (fF hn _ _ _) (lP (fF hn _ _ _) (lP (fF hn _ _ _) (ky (fun _ => fF hn _ _ _) (fun hs => ?_))))
  simp at hs
  refine lP (fF hn _ _ _) (lP ⟨Bec.flat hn hn.d hn.s rfl rfl rfl rfl rfl rfl rfl (fun _ => rfl) rfl, dg.se _ (by decide)⟩ ?_)
  have hb : SV V { n.store.super with pri := true } := hn.s hu
  refine ky (fun h => ⟨dy hc hn hb (nbt h), dg.nil⟩) (fun h => ?_)
  obtain ⟨d, hd, he⟩ := dA hc hn.d hb (nbf h)
  rw [he]
  exact ⟨Bec.com hn hu hs.1.1 hd hb rfl rfl ⟨rfl, rfl⟩ rfl (Or.inl rfl) rfl rfl rfl rfl, dg.re _ _ _ _⟩
theorem nG (hc : Cp V) {n : Nd} (hn : NI V n) (id : Int) : Rs V n (cT n id) := by
  unfold cT
  refine ky (fun _ => fF hn _ _ _) (fun hu => ?_)
  have hu := nbf hu
  refine lP (fF hn _ _ _) (ky (fun _ => fF hn _ _ _) (fun hs => ?_))
  simp at hs
  have hb : SV V { n.store.super with pri := false } := hn.s hu
  refine ky (fun h => ⟨dy hc hn hb (nbt h), dg.nil⟩) (fun h => ?_)
  obtain ⟨d, hd, he⟩ := dA hc hn.d hb (nbf h)
  rw [he]
  have hm : Bec V n { ({ n with store := ⟨d, { n.store.super with pri := false }, n.store.mask⟩ } : Nd) with primary := false } := Bec.com hn hu hs.2 hd hb rfl rfl ⟨rfl, rfl⟩ rfl (Or.inl rfl) rfl rfl rfl rfl
  exact lP ⟨hm, .cons (qV _ (by decide)) (dg.re _ _ _ _)⟩ ⟨hm, dg.re _ _ _ _⟩
theorem mv (hc : Cp V) {n : Nd} (hn : NI V n) (id : Int) : Rs V n (cG n id) := by
  unfold cG
  refine ky (fun _ => fF hn _ _ _) (fun hu => ?_)
  have hu := nbf hu
  refine lP (fF hn _ _ _) (ky (fun _ => fF hn _ _ _) (fun hs => ?_))
  simp at hs
  have hb : SV V { n.store.super with dis := true } := hn.s hu
  refine ky (fun h => ⟨dy hc hn hb (nbt h), dg.nil⟩) (fun h => ?_)
  obtain ⟨d, hd, he⟩ := dA hc hn.d hb (nbf h)
  rw [he]
  exact ⟨Bec.com hn hu (by omega) hd hb rfl rfl ⟨rfl, rfl⟩ rfl (Or.inl rfl) rfl rfl rfl rfl, dg.re _ _ _ _⟩
theorem qI {n : Nd} (hn : NI V n) (id block : Int) : Rs V n (fA n id block) := by
  unfold fA
  exact lP (fF hn _ _ _) (lP (fF hn _ _ _) (fF hn _ _ _))
theorem Bec.sto {n m : Nd} (hn : NI V n) (h1 : n.state ≠ 1) (hs : Sk (SV V) n.store m.store) (id : m.id = n.id) (up : m.up = n.up) (st : m.state = n.state) (hk : m.ses = n.ses) (dr : m.draws = n.draws) (mi : m.mints = n.mints) (hp : m.peer = n.peer) : Bec V n m :=
  Bec.flat hn hs.1 (fun h => by rw [hs.2]; exact hn.s (by rw [← up]; exact h)) id up st hk dr mi hp (fun h => absurd h h1) (by unfold eN; rw [hs.2])
theorem Sk.trans {s t w : So} (h : Sk (SV V) s t) (k : Sk (SV V) t w) : Sk (SV V) s w := ⟨k.1, k.2.trans h.2⟩
theorem AE {n : Nd} (hn : OkD (SV V) n.store.disk) {b : Int} {x : ByteArray} (h : (fE n b x).2 = true) : ∃ s, Sk (SV V) n.store s ∧ (fE n b x).1 = { n with store := s } := by
  unfold fE at h ⊢
  cases h1 : (dZ n b).2 with
  | false => rw [h1] at h; simp at h
  | true =>
    rw [h1] at h
    have h2 : (dZ n b).1 = { n with store := (fI n.store b).1 } := d4 h1
    have h3 := lQ hn b
    simp only [Bool.not_true, cond_false] at h ⊢
    rw [d4 h, h2]
    exact ⟨_, h3.trans (iA h3.1 b x), rfl⟩
theorem Ar {n : Nd} (hn : OkD (SV V) n.store.disk) {b : Int} {x : ByteArray} (h : (fE n b x).2 = false) : Bec V n (fE n b x).1 := by
  unfold fE at h ⊢
  have h3 := lQ hn b
  cases h1 : (dZ n b).2 with
  | false =>
    have h2 : (dZ n b).1 = ch { n with store := (fI n.store b).1 } := dN h1
    rw [h2]
    exact Bec.down h3.1 rfl rfl rfl
  | true =>
    rw [h1] at h
    have h2 : (dZ n b).1 = { n with store := (fI n.store b).1 } := d4 h1
    simp only [Bool.not_true, cond_false] at h ⊢
    rw [dN h, h2]
    exact Bec.down (h3.trans (iA h3.1 b x)).1 rfl rfl rfl
theorem jR {n : Nd} (hn : NI V n) (h1 : n.state ≠ 1) (id block : Int) (x : ByteArray) : Rs V n (cf n id block x) := by
  unfold cf
  refine ky (fun h => ⟨Ar hn.d (nbt h), dg.nil⟩) (fun h => ?_)
  obtain ⟨s, hs, he⟩ := AE hn.d (nbf h)
  rw [he]
  exact lP ⟨Bec.sto hn h1 hs rfl rfl rfl rfl rfl rfl rfl, dg.re _ _ _ _⟩ ⟨Bec.sto hn h1 hs rfl rfl rfl rfl rfl rfl rfl, dg.se _ (p := pkd 2 _ _) (by show (2 : Int) ≠ 1; decide)⟩
theorem xA {n : Nd} (hn : NI V n) (h1 : n.state ≠ 1) (block : Int) (x : ByteArray) : Rs V n (fN n block x) := by
  unfold fN
  refine ky (fun h => ⟨Ar hn.d (nbt h), dg.nil⟩) (fun h => ?_)
  obtain ⟨s, hs, he⟩ := AE hn.d (nbf h)
  rw [he]
  exact ⟨Bec.sto hn h1 hs rfl rfl rfl rfl rfl rfl rfl, dg.se _ (p := pkb 3 _) (by show (3 : Int) ≠ 1; decide)⟩
theorem pF {n : Nd} (hn : NI V n) (h1 : n.state ≠ 1) (block : Int) : Bec V n (aK n block).1 := zO hn (iK hn.d block) (fun h => absurd h h1) _
theorem uQ {n : Nd} (hn : NI V n) (h1 : n.state ≠ 1) (block : Int) : Bec V n (eO n block) := by
  unfold eO
  exact ai (p := fun x => Bec V n x) (Bec.refl hn) (pF hn h1 block)
theorem xP {n : Nd} (hn : NI V n) (h1 : n.state ≠ 1) (block : Int) : Rs V n (e9 n block) := by
  unfold e9
  refine lP ⟨Bec.refl hn, dg.nil⟩ ?_
  have hw : Sk (SV V) n.store (dG n.store block).1 := iK hn.d block
  refine ky (fun h => ?_) (fun h => ?_)
  · have he : (aK { n with req := rq0 } block).1 = ch { ({ n with req := rq0 } : Nd) with store := (dG n.store block).1 } := dN (nbt h)
    rw [he]
    exact ⟨Bec.down hw.1 rfl rfl rfl, dg.re _ _ _ _⟩
  · have he : (aK { n with req := rq0 } block).1 = { ({ n with req := rq0 } : Nd) with store := (dG n.store block).1 } := d4 (nbf h)
    rw [he]
    exact ⟨Bec.sto hn h1 hw rfl rfl rfl rfl rfl rfl rfl, .cons (nu _ _ _ _) (dg.se _ (p := pkb 4 _) (by show (4 : Int) ≠ 1; decide))⟩
theorem Bec.tgt {n m : Nd} (hn : NI V n) (hu : n.up = true) (h4 : n.state = 4) (hd : OkD (SV V) m.store.disk) (hs : SV V m.store.super) (id : m.id = n.id) (up : m.up = n.up) (st : m.state = n.state) (hk : m.ses = n.ses) (dr : m.draws = n.draws) (mi : m.mints = n.mints) (hp : m.peer = n.peer) : Bec V n m :=
  ⟨⟨hd, fun _ => hs, fun _ => by rw [hp]; exact hn.p h4, fun h0 => by rw [up, hu] at h0; exact absurd h0 (by simp)⟩, id, dr, mi, fun _ => ⟨hu, hk⟩, fun _ => Or.inl st, fun _ h _ => by omega, fun _ _ h => absurd h4 h⟩
theorem my (hc : Cp V) {n : Nd} (hn : NI V n) (hu : n.up = true) (h4 : n.state = 4) : dg (cQ n).2 ∧ ((∃ w s, OkD (SV V) s.disk ∧ SV V s.super ∧ (cQ n).1 = { n with wanted := w, store := s }) ∨ ∃ m, OkD (SV V) m.store.disk ∧ m.id = n.id ∧ m.draws = n.draws ∧ m.mints = n.mints ∧ (cQ n).1 = ch m) := by
  unfold cQ
  cases h1 : (!n.store.super.inc || !(n.wanted == 0)) with
  | true => exact ⟨dg.nil, Or.inl ⟨n.wanted, n.store, hn.d, hn.s hu, rfl⟩⟩
  | false =>
    cases h2 : (jG n.store.mask 0).isSome with
    | true => exact ⟨dg.se _ (p := pkb 5 _) (by show (5 : Int) ≠ 1; decide), Or.inl ⟨_, n.store, hn.d, hn.s hu, rfl⟩⟩
    | false =>
      have hb : SV V (gi n) := hc.ret _ _ (hn.p h4)
      cases h : (ac n (gi n)).2 with
      | false =>
        obtain ⟨m, k1, k2, k3, k4, k5⟩ := fm hc hn.d hb h
        exact ⟨dg.nil, Or.inr ⟨m, k1, k2, k3, k4, k5⟩⟩
      | true =>
        obtain ⟨d, hd, he⟩ := dA hc hn.d hb h
        simp only [Bool.not_true, cond_false, Bool.false_eq_true]
        exact ⟨dg.se _ (p := pkk 8) (by decide), Or.inl ⟨n.wanted, ⟨d, gi n, n.store.mask⟩, hd, hb, he⟩⟩
theorem Ck (hc : Cp V) {n : Nd} (hn : NI V n) (hu : n.up = true) (h4 : n.state = 4) (block : Int) (x : ByteArray) : Rs V n (py n block x) := by
  have h1 : n.state ≠ 1 := by omega
  unfold py
  refine lP ⟨Bec.refl hn, dg.nil⟩ ?_
  have hp : Sk (SV V) n.store (d9 n.store block x).1 := iA hn.d block x
  refine ky (fun h => ?_) (fun h => ?_)
  · have he : (dm n block x).1 = ch { n with store := (d9 n.store block x).1 } := dN (nbt h)
    rw [he]
    exact ⟨Bec.down hp.1 rfl rfl rfl, dg.nil⟩
  · have he : (dm n block x).1 = { n with store := (d9 n.store block x).1 } := d4 (nbf h)
    have hw : Sk (SV V) n.store (dG (d9 n.store block x).1 block).1 := hp.trans (iK hp.1 block)
    refine ky (fun h2 => ?_) (fun h2 => ?_)
    · have he3 : (aK (dm n block x).1 block).1 = ch { (dm n block x).1 with store := (dG (dm n block x).1.store block).1 } := dN (nbt h2)
      rw [he3, he]
      exact ⟨Bec.down hw.1 rfl rfl rfl, dg.nil⟩
    · have he3 : (aK (dm n block x).1 block).1 = { (dm n block x).1 with store := (dG (dm n block x).1.store block).1 } := d4 (nbf h2)
      have he4 : iO n block x = { n with store := (dG (d9 n.store block x).1 block).1, wanted := 0 } := by
        unfold iO
        rw [he3, he]
      have hni : NI V (iO n block x) := by
        rw [he4]
        exact ⟨hw.1, fun h => by show SV V (dG (d9 n.store block x).1 block).1.super; rw [hw.2]; exact hn.s h, hn.p, hn.z⟩
      have hq := my hc hni (by rw [he4]; exact hu) (by rw [he4]; exact h4)
      refine ⟨?_, .app (dg.se _ (p := pkb 7 _) (by show (7 : Int) ≠ 1; decide)) hq.1⟩
      rcases hq.2 with ⟨w, s, k1, k2, k3⟩ | ⟨m, k1, k2, k3, k4, k5⟩
      · show Bec V n (cQ (iO n block x)).1
        rw [k3, he4]
        exact Bec.tgt hn hu h4 k1 k2 rfl rfl rfl rfl rfl rfl rfl
      · show Bec V n (cQ (iO n block x)).1
        rw [k5]
        rw [he4] at k2 k3 k4
        exact Bec.down k1 k2 k3 k4
theorem xK (hc : Cp V) {n : Nd} (hn : NI V n) (hu : n.up = true) (h3 : n.state = 3) : Rs V n (fQ n) := by
  unfold fQ
  have hb : SV V (ck n) := hc.ret _ _ (hn.s hu)
  refine ky (fun h => ⟨dy hc hn hb (nbt h), dg.nil⟩) (fun h => ?_)
  obtain ⟨d, hd, he⟩ := dA hc hn.d hb (nbf h)
  rw [he]
  exact ⟨Bec.com hn hu (by omega) hd hb (df _) rfl ⟨rfl, rfl⟩ rfl (Or.inr ⟨Or.inl h3, rfl⟩) rfl rfl rfl rfl, dg.se _ (by decide)⟩
theorem vD (hc : Cp V) {n : Nd} (hn : NI V n) (hu : n.up = true) (h1 : n.state ≠ 1) (k : Int) : Rs V n (dX n k) := by
  unfold dX
  refine lP (lP ⟨Bec.refl hn, dg.se _ (by decide)⟩ ⟨Bec.flat hn hn.d hn.s rfl rfl rfl rfl rfl rfl rfl (fun h => absurd h h1) rfl, dg.se _ (by decide)⟩) ?_
  refine lP ⟨Bec.flat hn hn.d hn.s rfl rfl rfl rfl rfl rfl rfl (fun h => absurd h h1) rfl, dg.re _ _ _ _⟩ ?_
  refine lP ⟨Bec.flat hn hn.d hn.s rfl rfl rfl rfl rfl rfl rfl (fun h => absurd h h1) rfl, dg.nil⟩ ?_
  have hb : SV V (fM n) := hn.s hu
  refine ky (fun h => ⟨dy hc hn hb (nbt h), dg.nil⟩) (fun h => ?_)
  obtain ⟨d, hd, he⟩ := dA hc hn.d hb (nbf h)
  rw [he]
  exact ⟨Bec.com hn hu h1 hd hb rfl rfl ⟨rfl, rfl⟩ rfl (Or.inl rfl) rfl rfl rfl rfl, dg.re _ _ _ _⟩
theorem tG {k s : Int} {t : He} (h : (aO k s t).kind ≠ 4) : aO k s t = ⟨k, s⟩ ∧ t.pri = false := by
  unfold aO at h ⊢
  cases hb : (t.pri || k == 4) with
  | true => rw [hb] at h; exact absurd rfl h
  | false => simp at hb; exact ⟨rfl, hb.1⟩
structure Dec (x y : He) : Prop where
  src : (ag x y).src = 0 ∨ (ag x y).src = 1
  s0 : (ag x y).src = 0 → x.inc = false ∧ y.pri = false ∧ (y.inc = true ∨ y.dis = true ∨ y.v.cur = x.v.cur ∨ aL x.v y.v.cur > 0)
  s1 : (ag x y).src = 1 → y.inc = false ∧ x.pri = false ∧ (x.inc = true ∨ x.dis = true ∨ x.v.cur = y.v.cur ∨ aL y.v x.v.cur > 0)
theorem dO {x y : He} (h4 : (ag x y).kind ≠ 4) (h1 : (ag x y).kind ≠ 1) : Dec x y := by
  have key0 : ∀ k, (ag x y) = aO k 0 y → x.inc = false → (y.inc = true ∨ y.dis = true ∨ y.v.cur = x.v.cur ∨ aL x.v y.v.cur > 0) → Dec x y := by
    intro k he hi hz
    have h := tG (k := k) (s := 0) (t := y) (by rw [← he]; exact h4)
    have hs : (ag x y).src = 0 := by rw [he, h.1]
    exact ⟨Or.inl hs, fun _ => ⟨hi, h.2, hz⟩, fun h5 => by omega⟩
  have key1 : ∀ k, (ag x y) = aO k 1 x → y.inc = false → (x.inc = true ∨ x.dis = true ∨ x.v.cur = y.v.cur ∨ aL y.v x.v.cur > 0) → Dec x y := by
    intro k he hi hz
    have h := tG (k := k) (s := 1) (t := x) (by rw [← he]; exact h4)
    have hs : (ag x y).src = 1 := by rw [he, h.1]
    exact ⟨Or.inr hs, fun h5 => by omega, fun _ => ⟨hi, h.2, hz⟩⟩
  generalize hr : ag x y = r at key0 key1
  unfold ag at hr
  cases c1 : (!(x.blocks == y.blocks) || x.pri && y.pri || x.inc && y.inc || x.dis && y.dis) with
  | true =>
    exfalso
    rw [c1] at hr
    apply h4
    unfold ag
    rw [c1]
    rfl
  | false =>
    rw [c1] at hr
    cases c2 : x.inc with
    | true =>
      rw [c2] at hr
      refine key1 _ hr.symm ?_ (Or.inl c2)
      simp [c2] at c1
      exact c1.1.2
    | false =>
      rw [c2] at hr
      cases c3 : y.inc with
      | true => rw [c3] at hr; exact key0 _ hr.symm c2 (Or.inl c3)
      | false =>
        rw [c3] at hr
        cases c4 : x.dis with
        | true => rw [c4] at hr; exact key1 _ hr.symm c3 (Or.inr (Or.inl c4))
        | false =>
          rw [c4] at hr
          cases c5 : y.dis with
          | true => rw [c5] at hr; exact key0 _ hr.symm c2 (Or.inr (Or.inl c5))
          | false =>
            rw [c5] at hr
            cases c6 : x.v.cur == y.v.cur with
            | true =>
              rw [c6] at hr
              have e6 := eq_of_beq c6
              cases c7 : (mi x.mask == 0 && mi y.mask == 0) with
              | true =>
                exfalso
                apply h1
                unfold ag
                rw [c1, c2, c3, c4, c5, c6, c7]
                rfl
              | false =>
                rw [c7] at hr
                cases c8 : (y.pri || !x.pri && y.was && !x.was) with
                | true => rw [c8] at hr; exact key1 _ hr.symm c3 (Or.inr (Or.inr (Or.inl e6)))
                | false => rw [c8] at hr; exact key0 _ hr.symm c2 (Or.inr (Or.inr (Or.inl e6.symm)))
            | false =>
              rw [c6] at hr
              cases c9 : (decide (aL x.v y.v.cur > 0) && decide (aL y.v x.v.cur < 0)) with
              | true => rw [c9] at hr; simp at c9; exact key0 _ hr.symm c2 (Or.inr (Or.inr (Or.inr c9.1)))
              | false =>
                rw [c9] at hr
                cases c10 : (decide (aL y.v x.v.cur > 0) && decide (aL x.v y.v.cur < 0)) with
                | true => rw [c10] at hr; simp at c10; exact key1 _ hr.symm c3 (Or.inr (Or.inr (Or.inr c10.1)))
                | false =>
                  exfalso
                  apply h4
                  unfold ag
                  rw [c1, c2, c3, c4, c5, c6, c9, c10]
                  rfl
end
end Go.Dm
namespace Go.Dm
open Go
section
variable {V : Bool → Ve → Prop}
theorem BX (hc : Cp V) {n : Nd} (hn : NI V n) (hu : n.up = true) (h1 : n.state = 1) {h : He} (hh : V h.inc h.v) {v : Vd} (m : BitVec 32) (hv : v.kind ≠ 4 → v.kind ≠ 1 → v.src ≠ n.id → h.inc = false) : Rs V n (ka n h v m) := by
  unfold ka
  refine ky (fun _ => ⟨Bec.refl hn, .cons (nC _) .nil⟩) (fun k4 => ky (fun _ => ?_) (fun k1 => ?_))
  · have hb : SV V (ck n) := hc.ret _ _ (hn.s hu)
    refine ky (fun hk => ?_) (fun hk => ⟨dy hc hn hb hk, dg.nil⟩)
    obtain ⟨d, hd, he⟩ := dA hc hn.d hb hk
    rw [he]
    exact ⟨⟨⟨hd, fun _ => hb, fun h4 => absurd h4 (by simp [lU]), fun h0 => absurd (hu.symm.trans h0) (by simp)⟩, rfl, rfl, rfl, fun _ => ⟨hu, rfl⟩, fun _ => Or.inr (Or.inl ⟨h1, Or.inl rfl⟩), fun _ _ h5 => absurd h5 (by simp [lU]), fun _ _ _ => df _⟩, dg.nil⟩
  · simp at k4 k1
    have hj : Sk (SV V) n.store (dK n.store m).1 := oD hn.d _
    refine ky (fun hk => ?_) (fun hk => ?_)
    · have he : (eQ n m).1 = ch { n with store := (dK n.store m).1 } := dN (nbt hk)
      rw [he]
      exact ⟨Bec.down hj.1 rfl rfl rfl, dg.nil⟩
    · have he : (eQ n m).1 = { n with store := (dK n.store m).1 } := d4 (nbf hk)
      refine ky (fun _ => ?_) (fun hsrc => ?_)
      · rw [he]
        exact ⟨⟨⟨hj.1, fun hu => by show SV V (dK n.store m).1.super; rw [hj.2]; exact hn.s hu, fun h4 => absurd h4 (by simp [lU]), fun h0 => absurd (hu.symm.trans h0) (by simp)⟩, rfl, rfl, rfl, fun _ => ⟨hu, rfl⟩, fun _ => Or.inr (Or.inl ⟨h1, Or.inr (Or.inl rfl)⟩), fun _ _ h5 => absurd h5 (by simp [lU]), fun _ _ _ => by show (dK n.store m).1.super.v.cur = _; rw [hj.2]⟩, dg.nil⟩
      · have hi : h.inc = false := hv k4 k1 (by simpa using hsrc)
        have hs : (dK n.store m).1.super = n.store.super := hj.2
        have hb : SV V (jr (eQ n m).1 h) := by
          rw [he]
          show V true (qD (dK n.store m).1.super.v h.v.cur)
          rw [hs]
          exact hc.frm _ _ _ (hn.s hu) (hc.ve _ _ hh).1
        have hb2 : SV V (jr n h) := by
          show V true (qD n.store.super.v h.v.cur)
          exact hc.frm _ _ _ (hn.s hu) (hc.ve _ _ hh).1
        have hni : NI V (eQ n m).1 := by
          rw [he]
          exact ⟨hj.1, fun hu => by show SV V (dK n.store m).1.super; rw [hs]; exact hn.s hu, hn.p, hn.z⟩
        refine ky (fun hk2 => ?_) (fun hk2 => ?_)
        · obtain ⟨x, x1, x2, x3, x4, x5⟩ := fm hc hni.d hb2 (nbt hk2)
          rw [x5]
          rw [he] at x2 x3 x4
          exact ⟨Bec.down x1 x2 x3 x4, dg.nil⟩
        · obtain ⟨d, hd, he2⟩ := dA hc hni.d hb2 (nbf hk2)
          have he3 : lU (ac (eQ n m).1 (jr n h)).1 h 4 = { n with store := ⟨d, jr n h, (dK n.store m).1.mask⟩, state := 4, peerPri := h.pri, peer := h } := by
            rw [he2, he]
            rfl
          have hni2 : NI V (lU (ac (eQ n m).1 (jr n h)).1 h 4) := by
            rw [he3]
            exact ⟨hd, fun _ => hb2, fun _ => by show V false h.v; rw [← hi]; exact hh, fun h0 => absurd (hu.symm.trans h0) (by simp)⟩
          have hq := my hc hni2 (by rw [he3]; exact hu) (by rw [he3])
          refine ⟨?_, hq.1⟩
          rcases hq.2 with ⟨w, s, q1, q2, q3⟩ | ⟨x, q1, q2, q3, q4, q5⟩
          · rw [q3, he3]
            exact ⟨⟨q1, fun _ => q2, fun _ => by show V false h.v; rw [← hi]; exact hh, fun h0 => absurd (hu.symm.trans h0) (by simp)⟩, rfl, rfl, rfl, fun _ => ⟨hu, rfl⟩, fun _ => Or.inr (Or.inl ⟨h1, Or.inr (Or.inr rfl)⟩), fun _ _ h5 => absurd h5 (show (4 : Int) ≠ 1 by decide), fun _ h5 _ => absurd rfl h5⟩
          · rw [q5]
            rw [he3] at q2 q3 q4
            exact Bec.down q1 q2 q3 q4
theorem ku (hc : Cp V) {n : Nd} (hn : NI V n) (hu : n.up = true) (h1 : n.state = 1) {h : He} {v : Vd} (m : BitVec 32) (h4 : (ka n h v m).1.state = 4) : v.kind ≠ 4 ∧ v.kind ≠ 1 ∧ v.src ≠ n.id := by
  unfold ka at h4
  cases k4 : v.kind == 4 with
  | true => rw [k4] at h4; simp at h4; omega
  | false =>
    rw [k4] at h4
    cases k1 : v.kind == 1 with
    | true =>
      exfalso
      rw [k1] at h4
      have hb : SV V (ck n) := hc.ret _ _ (hn.s hu)
      cases hk : (ac n (ck n)).2 with
      | true => rw [hk] at h4; simp [lU] at h4
      | false =>
        obtain ⟨x, _, _, _, _, x5⟩ := fm hc hn.d hb hk
        rw [hk, x5] at h4
        simp [ch] at h4
    | false =>
      rw [k1] at h4
      refine ⟨by simpa using k4, by simpa using k1, fun hsrc => ?_⟩
      cases hk : (eQ n m).2 with
      | false =>
        have he : (eQ n m).1 = ch { n with store := (dK n.store m).1 } := dN hk
        rw [hk, he] at h4
        simp [ch] at h4
      | true =>
        rw [hk, hsrc] at h4
        simp [lU] at h4
theorem zy {n : Nd} {h : He} (hid : n.id = 0 ∨ n.id = 1) (k4 : (aN n h).1.kind ≠ 4) (k1 : (aN n h).1.kind ≠ 1) (hs : (aN n h).1.src ≠ n.id) : h.inc = false ∧ (n.store.super.inc = true ∨ n.store.super.dis = true ∨ eN n = h.v.cur ∨ aL h.v (eN n) > 0) := by
  unfold aN at k4 k1 hs
  rcases hid with h0 | h0
  · have hb : (n.id == 1) = false := by rw [h0]; rfl
    rw [hb] at k4 k1 hs
    have hd := dO k4 k1
    have hs1 : (ag (cy n) h).src = 1 := by
      rcases hd.src with h5 | h5
      · exact absurd h5 (by rw [h0] at hs; exact hs)
      · exact h5
    have := hd.s1 hs1
    exact ⟨this.1, this.2.2⟩
  · have hb : (n.id == 1) = true := by rw [h0]; rfl
    rw [hb] at k4 k1 hs
    have hd := dO k4 k1
    have hs1 : (ag h (cy n)).src = 0 := by
      rcases hd.src with h5 | h5
      · exact h5
      · exact absurd h5 (by rw [h0] at hs; exact hs)
    have := hd.s0 hs1
    exact ⟨this.1, this.2.2⟩
def HeB (V : Bool → Ve → Prop) (b : ByteArray) : Prop := (bc b).2 = 0 → (bc b).1.kind = 1 → V (bc b).1.hello.inc (bc b).1.hello.v
theorem jt {b : ByteArray} {s : Int} (h : (aA b s).2 = 0) : (bc b).2 = 0 ∧ (bc b).1.ses = s ∧ (aA b s).1 = (bc b).1 := by
  unfold aA at h ⊢
  cases h1 : !((bc b).2 == 0) with
  | true =>
    rw [h1] at h
    exfalso
    have : (bc b).2 = 0 := h
    rw [this] at h1
    simp at h1
  | false =>
    rw [h1] at h
    cases h2 : !((bc b).1.ses == s) with
    | true => rw [h2] at h; simp at h
    | false => exact ⟨by simpa using h1, by simpa using h2, rfl⟩
theorem zB {b c : Bool} (h : (bif b then false else c) = true) : b = false ∧ c = true := by
  cases b
  · exact ⟨rfl, h⟩
  · exact absurd h (by simp)
theorem iy {n : Nd} {p : Pk} (h : bw n p = true) : n.up = true ∧ ((p.kind = 1 ∧ n.state = 1) ∨ (p.kind ≠ 1 ∧ (n.state = 2 ∨ n.state = 3 ∨ n.state = 4) ∧ (p.kind = 6 → n.state = 4) ∧ (p.kind = 8 → n.state = 3) ∧ (p.kind = 9 → n.state = 4))) := by
  unfold bw at h
  have h0 := zB h
  simp only [Bool.or_eq_false_iff, Bool.not_eq_false'] at h0
  refine ⟨h0.1.1, ?_⟩
  have h := h0.2
  cases c1 : p.kind == 1 with
  | true => rw [c1] at h; exact Or.inl ⟨eq_of_beq c1, by simpa using h⟩
  | false =>
    rw [c1] at h
    have n1 : p.kind ≠ 1 := by simpa using c1
    refine Or.inr ⟨n1, ?_⟩
    cases c2 : p.kind == 2 with
    | true => rw [c2] at h; simp at h; have := eq_of_beq c2; omega
    | false =>
      rw [c2] at h
      cases c3 : p.kind == 3 with
      | true => rw [c3] at h; simp at h; have := eq_of_beq c3; omega
      | false =>
        rw [c3] at h
        cases c4 : p.kind == 4 with
        | true => rw [c4] at h; simp at h; have := eq_of_beq c4; omega
        | false =>
          rw [c4] at h
          cases c5 : (p.kind == 5 || p.kind == 7 || p.kind == 8) with
          | true => rw [c5] at h; simp at h c5; omega
          | false =>
            rw [c5] at h
            cases c6 : p.kind == 6 with
            | true => rw [c6] at h; simp at h; have := eq_of_beq c6; omega
            | false =>
              rw [c6] at h
              cases c7 : p.kind == 9 with
              | true => rw [c7] at h; simp at h; have := eq_of_beq c7; omega
              | false =>
                rw [c7] at h
                simp at c5 c6 c7
                cases c8 : (p.kind == 10 || p.kind == 13) with
                | true => rw [c8] at h; simp at h; omega
                | false =>
                  rw [c8] at h
                  cases c9 : (p.kind == 11 || p.kind == 12) with
                  | true => rw [c9] at h; simp at h; omega
                  | false => rw [c9] at h; simp at h
theorem Ag (hc : Cp V) {n : Nd} (hn : NI V n) (hid : n.id = 0 ∨ n.id = 1) {p : Pk} (hf : bw n p = true) (hh : p.kind = 1 → V p.hello.inc p.hello.v) : Rs V n (eC n p) := by
  obtain ⟨hu, hk⟩ := iy hf
  unfold eC
  rcases hk with ⟨k1, s1⟩ | ⟨k1, s1, k6, k8, k9⟩
  · have : (p.kind == 1) = true := by rw [k1]; rfl
    rw [this]
    exact BX hc hn hu s1 (hh k1) _ (fun a b c => (zy hid a b c).1)
  · have n1 : n.state ≠ 1 := by omega
    refine ky (fun h => absurd (eq_of_beq h) k1) (fun _ => ?_)
    refine lP (xA hn n1 _ _) (lP (xP hn n1 _) (lP ⟨pF hn n1 _, dg.nil⟩ (lP ⟨Bec.refl hn, dg.se _ (p := pkd 6 _ _) (by show (6 : Int) ≠ 1; decide)⟩ ?_)))
    refine ky (fun h => Ck hc hn hu (k6 (eq_of_beq h)) _ _) (fun _ => ?_)
    refine lP ⟨uQ hn n1 _, dg.nil⟩ ?_
    refine ky (fun h => xK hc hn hu (k8 (eq_of_beq h))) (fun _ => ?_)
    refine ky (fun h => ⟨Bec.com (d := n.store.disk) (b := n.store.super) hn hu n1 hn.d (hn.s hu) rfl rfl ⟨rfl, rfl⟩ rfl (Or.inr ⟨Or.inr (k9 (eq_of_beq h)), rfl⟩) rfl rfl rfl rfl, dg.nil⟩) (fun _ => vD hc hn hu n1 _)
theorem jh (hc : Cp V) {n : Nd} (hn : NI V n) (hid : n.id = 0 ∨ n.id = 1) {b : ByteArray} (hb : (aA b n.ses).2 = 0 → HeB V b) : Rs V n (aw n b) := by
  unfold aw
  refine lP ⟨Bec.refl hn, dg.nil⟩ (lP ⟨Bec.refl hn, dg.nil⟩ (ky (fun _ => ⟨Bec.refl hn, .cons (nC _) .nil⟩) (fun h => ?_)))
  simp only [Bool.or_eq_false_iff, Bool.not_eq_false'] at h
  have h0 : (aA b n.ses).2 = 0 := eq_of_beq h.1
  have h1 := jt h0
  refine Ag hc hn hid h.2 (fun hk => ?_)
  rw [h1.2.2] at hk ⊢
  exact hb h0 h1.1 hk
theorem iY (hc : Cp V) {n : Nd} (hn : NI V n) (hid : n.id = 0 ∨ n.id = 1) {b : ByteArray} (hb : (aA b n.ses).2 = 0 → HeB V b) (h4 : (aw n b).1.state = 4) (hs : n.state ≠ 4) :
    n.up = true ∧ n.state = 1 ∧ (aA b n.ses).2 = 0 ∧ (bc b).2 = 0 ∧ (bc b).1.kind = 1 ∧ (aN n (bc b).1.hello).1.kind ≠ 4 ∧ (aN n (bc b).1.hello).1.kind ≠ 1 ∧ (aN n (bc b).1.hello).1.src ≠ n.id := by
  have hr := (jh hc hn hid hb).1
  have hup : (aw n b).1.up = true := by
    cases hu : (aw n b).1.up with
    | true => rfl
    | false => have := hr.ok.z hu; omega
  have hst := hr.st hup
  have s1 : n.state = 1 := by omega
  have hu := (hr.up hup).1
  unfold aw at h4
  cases c1 : (!n.up || n.state == 0) with
  | true => rw [c1] at h4; simp at h4; omega
  | false =>
    rw [c1] at h4
    cases c2 : (aA b n.ses).2 == 16 with
    | true => rw [c2] at h4; simp at h4; omega
    | false =>
      rw [c2] at h4
      cases c3 : (!((aA b n.ses).2 == 0) || !bw n (aA b n.ses).1) with
      | true => rw [c3] at h4; simp at h4; omega
      | false =>
        rw [c3] at h4
        simp only [Bool.or_eq_false_iff, Bool.not_eq_false'] at c3
        have h0 : (aA b n.ses).2 = 0 := eq_of_beq c3.1
        have h1 := jt h0
        have hf := (iy c3.2).2
        rw [h1.2.2] at hf h4
        have hk : (bc b).1.kind = 1 := by omega
        have hk2 : ((bc b).1.kind == 1) = true := by rw [hk]; rfl
        have h5 : (yz n (bc b).1.hello).1.state = 4 := by
          have h6 : (eC n (bc b).1).1.state = 4 := h4
          unfold eC at h6
          rw [hk2] at h6
          exact h6
        obtain ⟨v1, v2, v3⟩ := ku hc hn hu s1 _ h5
        exact ⟨hu, s1, h0, h1.1, hk, v1, v2, v3⟩
end
end Go.Dm
namespace Go.Dm
open Go
theorem jW (T : Tre) : Cp (PV T) := ⟨fun _ _ h => h.1, fun _ _ h => h.ret, fun _ _ _ h hg => h.frm hg⟩
theorem NI.grow {T : Tre} {a p : Int} (ht : b9 ((a, p) :: T)) {n : Nd} (h : NI (PV T) n) : NI (PV ((a, p) :: T)) n := h.more fun _ _ k => k.more ht
def Fr (T : Tre) (n : Nd) : Prop := ∀ g ∈ n.draws, g ≠ 0 ∧ g ≠ 7 ∧ g ∉ oq T ∧ R64 g
structure Sx (T T' : Tre) (n m : Nd) : Prop where
  ok : NI (PV T') m
  tr : b9 T'
  id : m.id = n.id
  hi : (T' = T ∧ m.draws = n.draws ∧ m.mints = n.mints) ∨ (∃ g, T' = (g, eN n) :: T ∧ n.draws = g :: m.draws ∧ m.mints = n.mints ++ [⟨g, eN n, n.id⟩])
theorem Sx.bec {T : Tre} (ht : b9 T) {n m : Nd} (h : Bec (PV T) n m) : Sx T T n m := ⟨h.ok, ht, h.id, Or.inl ⟨rfl, h.dr, h.mi⟩⟩
theorem Sx.flat {T : Tre} (ht : b9 T) {n m : Nd} (h : NI (PV T) m) (id : m.id = n.id) (dr : m.draws = n.draws) (mi : m.mints = n.mints) : Sx T T n m := ⟨h, ht, id, Or.inl ⟨rfl, dr, mi⟩⟩
structure Mnt (T : Tre) (g : Int) (n m : Nd) : Prop where
  ok : NI (PV ((g, eN n) :: T)) m
  tr : b9 ((g, eN n) :: T)
  id : m.id = n.id
  dr : n.draws = g :: m.draws
  mi : m.mints = n.mints ++ [⟨g, eN n, n.id⟩]
  st : m.state = 0
theorem Mnt.sx {T : Tre} {g : Int} {n m : Nd} (h : Mnt T g n m) : Sx T ((g, eN n) :: T) n m := ⟨h.ok, h.tr, h.id, Or.inr ⟨g, rfl, h.dr, h.mi⟩⟩
theorem gM {T : Tre} (ht : b9 T) {n : Nd} (hn : NI (PV T) n) (hu : n.up = true) (h0 : n.state = 0) (hf : Fr T n) :
    aH n = (n, 14) ∨ ∃ g, Mnt T g n (aH n).1 ∧ (((aH n).2 = 6 ∧ (aH n).1.up = false) ∨ ((aH n).2 = 0 ∧ (aH n).1.up = true)) := by
  unfold aH
  cases hd : n.draws with
  | nil => exact Or.inl rfl
  | cons g r =>
    right
    refine ⟨g, ?_⟩
    obtain ⟨f1, f2, f3, f4⟩ := hf g (by rw [hd]; simp)
    have hk : Kn T (eN n) := (hn.s hu).2.1
    have ht' : b9 ((g, eN n) :: T) := ⟨f1, f2, f3, hk, ht⟩
    have hg := hn.grow ht'
    have hb : SV (PV ((g, eN n) :: T)) (kj n g) := (hn.s hu).mint f4 ht'
    have hv : OkD (SV (PV ((g, eN n) :: T))) (i6 n g r).store.disk := hg.d
    show Mnt T g n (fL n g r).1 ∧ (((fL n g r).2 = 6 ∧ (fL n g r).1.up = false) ∨ ((fL n g r).2 = 0 ∧ (fL n g r).1.up = true))
    unfold fL
    have z : (g == 0) = false := by simpa using f1
    rw [z]
    simp only [cond_false]
    cases hk2 : (ac (i6 n g r) (kj n g)).2 with
    | false =>
      obtain ⟨x, x1, x2, x3, x4, x5⟩ := fm (jW _) hv hb hk2
      simp only [Bool.not_false, cond_true]
      rw [x5]
      refine ⟨⟨⟨tj x1, fun h => absurd h (by simp [ch]), fun h => absurd h (by simp [ch]), fun _ => rfl⟩, ht', x2, ?_, x4, rfl⟩, Or.inl ⟨by trivial, by trivial⟩⟩
      show n.draws = g :: x.draws
      rw [x3, hd]; rfl
    | true =>
      obtain ⟨d, hdd, he⟩ := dA (jW _) hv hb hk2
      simp only [Bool.not_true, cond_false]
      rw [he]
      refine ⟨⟨⟨hdd, fun _ => hb, fun h4 => ?_, fun h => absurd (hu.symm.trans h) (by simp)⟩, ht', rfl, hd, rfl, h0⟩, Or.inr ⟨by trivial, hu⟩⟩
      have : n.state = 4 := h4
      omega
theorem yG {T : Tre} (ht : b9 T) {n : Nd} (hn : NI (PV T) n) (hf : Fr T n) (w : Bool) : (∃ T', Sx T T' n (dD n w).1.1) ∧ (dD n w).1.1.state = 0 := by
  unfold dD
  cases hu : n.up with
  | false => exact ⟨⟨T, Sx.flat ht hn rfl rfl rfl⟩, hn.z hu⟩
  | true =>
    simp only [Bool.not_true, cond_false]
    have key : (∃ T', Sx T T' n (an n).1) ∧ (an n).1.state = 0 := by
      have hl : NI (PV T) (fD n) := ⟨hn.d, hn.s, fun h4 => absurd h4 (by simp [fD]), fun _ => rfl⟩
      unfold an
      cases hs : n.state == 0 with
      | true => exact ⟨⟨T, Sx.flat ht hn rfl rfl rfl⟩, eq_of_beq hs⟩
      | false =>
        simp only [cond_false]
        cases hr : n.req.on with
        | false => exact ⟨⟨T, Sx.flat ht hl rfl rfl rfl⟩, rfl⟩
        | true =>
          simp only [Bool.not_true, cond_false]
          have hm : (∃ T', Sx T T' n (aH (fD n)).1) ∧ (aH (fD n)).1.state = 0 := by
            rcases gM ht hl hu rfl hf with h | ⟨g, h, _⟩
            · rw [h]; exact ⟨⟨T, Sx.flat ht hl rfl rfl rfl⟩, rfl⟩
            · exact ⟨⟨_, h.ok, h.tr, h.id, Or.inr ⟨g, rfl, h.dr, h.mi⟩⟩, h.st⟩
          exact ai (p := fun (x : Nd × List Ou) => (∃ T', Sx T T' n x.1) ∧ x.1.state = 0) hm hm
    exact ai (p := fun (x : (Nd × Bool) × List Ou) => (∃ T', Sx T T' n x.1.1) ∧ x.1.1.state = 0) key key
theorem l3 {n : Nd} {b : Int} {x : ByteArray} (h : bP n b x = 0) : n.up = true ∧ n.state ≠ 1 ∧ n.req.on = false ∧ n.primary = true := by
  unfold bP at h
  cases h1 : n.up with
  | false => rw [h1] at h; simp at h
  | true =>
    rw [h1] at h
    cases h2 : n.primary with
    | false => rw [h2] at h; simp at h
    | true =>
      rw [h2] at h
      cases h3 : (decide (b < 0) || decide (b ≥ n.store.super.blocks)) with
      | true => rw [h3] at h; simp at h
      | false =>
        rw [h3] at h
        cases h4 : !((x.size : Int) == 8) with
        | true => rw [h4] at h; simp at h
        | false =>
          rw [h4] at h
          cases h5 : (n.req.on || n.state == 1) with
          | true => rw [h5] at h; simp at h
          | false => simp at h5; exact ⟨rfl, h5.2, h5.1, rfl⟩
theorem qk {T : Tre} (ht : b9 T) {n : Nd} (hn : NI (PV T) n) (hf : Fr T n) (id b : Int) (x : ByteArray) :
    dg (bR n id b x).2 ∧ (Bec (PV T) n (bR n id b x).1 ∨ (n.state = 0 ∧ (bR n id b x).1.state = 0 ∧ ∃ T', Sx T T' n (bR n id b x).1)) := by
  unfold bR
  cases hb : !(bP n b x == 0) with
  | true => exact ⟨dg.re _ _ _ _, Or.inl (Bec.refl hn)⟩
  | false =>
    simp only [cond_false]
    obtain ⟨hu, h1, _, _⟩ := l3 (n := n) (b := b) (x := x) (by simpa using hb)
    cases hs : (n.state == 0 && !n.minted) with
    | false =>
      have := jR hn h1 id b x
      exact ⟨this.2, Or.inl this.1⟩
    | true =>
      simp only [cond_true]
      have h0 : n.state = 0 := by simp at hs; exact hs.1
      rcases gM ht hn hu h0 hf with h | ⟨g, h, h2⟩
      · rw [h]; exact ⟨dg.re _ _ _ _, Or.inl (Bec.refl hn)⟩
      · rcases h2 with ⟨h2, h3⟩ | ⟨h2, h3⟩
        · rw [h2]
          exact ⟨dg.nil, Or.inr ⟨h0, h.st, _, h.sx⟩⟩
        · rw [h2]
          have hw := jR h.ok (by rw [h.st]; decide) id b x
          have hw1 := hw.1
          refine ⟨hw.2, Or.inr ⟨h0, ?_, _, hw1.ok, h.tr, hw1.id.trans h.id, Or.inr ⟨g, rfl, ?_, ?_⟩⟩⟩
          · show (cf (aH n).1 id b x).1.state = 0
            cases hu2 : (cf (aH n).1 id b x).1.up with
            | false => exact hw1.ok.z hu2
            | true =>
              have := hw1.st hu2
              rw [h.st] at this
              omega
          · show n.draws = g :: (cf (aH n).1 id b x).1.draws
            rw [hw1.dr]; exact h.dr
          · show (cf (aH n).1 id b x).1.mints = _
            rw [hw1.mi]; exact h.mi
theorem gG {T : Tre} (ht : b9 T) {n : Nd} (hn : NI (PV T) n) (ks : List Bool) : Sx T T n (bt n ks).1 ∧ ((bt n ks).1 = n ∨ (n.up = false ∧ (bt n ks).1.state = 0)) := by
  unfold bt
  cases hu : n.up with
  | true => exact ⟨Sx.flat ht hn rfl rfl rfl, Or.inl rfl⟩
  | false =>
    simp only [cond_false]
    have hr := qT hn.d ks
    have h0 := hn.z hu
    cases ha : !((bq (bU n.store.disk ks)).2 == 0) with
    | true =>
      simp only [cond_true]
      refine ⟨Sx.flat ht ⟨hr, fun h => absurd h (by simp), fun h => ?_, fun _ => h0⟩ rfl rfl rfl, Or.inr ⟨by trivial, h0⟩⟩
      have : n.state = 4 := h
      omega
    | false =>
      have h1 := lZ hr (by simpa using ha)
      simp only [cond_false]
      exact ⟨Sx.flat ht ⟨by show OkD (SV (PV T)) (bq (bU n.store.disk ks)).1.disk; rw [h1.1]; exact hr, fun _ => h1.2, fun h => absurd h (show (0 : Int) ≠ 4 by decide), fun _ => rfl⟩ rfl rfl rfl, Or.inr ⟨by trivial, by trivial⟩⟩
abbrev one (x y : Int) : Nat := if x = y then 1 else 0
structure CI (fut : List Int) (T : Tre) (a b : Nd) : Prop where
  tr : b9 T
  na : NI (PV T) a
  nb : NI (PV T) b
  ia : a.id = 0
  ib : b.id = 1
  mt : Mts (a.mints ++ b.mints) T
  ga : ∀ x ∈ a.mints, x.n = 0
  gb : ∀ x ∈ b.mints, x.n = 1
  ct : ∀ x : Int, a.draws.count x + b.draws.count x + (oq T).count x + fut.count x + one x 0 + one x 7 ≤ 1
  ra : ∀ x ∈ a.draws, R64 x
  rb : ∀ x ∈ b.draws, R64 x
  rf : ∀ x ∈ fut, R64 x
theorem Ej {x : Int} {p q g f : List Int} (h : p.count x + q.count x + g.count x + f.count x + one x 0 + one x 7 ≤ 1) (hx : x ∈ p) : x ≠ 0 ∧ x ≠ 7 ∧ x ∉ g := by
  have h1 : 0 < p.count x := List.count_pos_iff.2 hx
  refine ⟨fun h0 => ?_, fun h7 => ?_, fun hg => ?_⟩
  · have : one x 0 = 1 := if_pos h0
    omega
  · have : one x 7 = 1 := if_pos h7
    omega
  · have := List.count_pos_iff.2 hg
    omega
theorem CI.fa {fut : List Int} {T : Tre} {a b : Nd} (h : CI fut T a b) : Fr T a := fun g hg => by
  obtain ⟨h1, h2, h3⟩ := Ej (h.ct g) hg
  exact ⟨h1, h2, h3, h.ra g hg⟩
theorem CI.fb {fut : List Int} {T : Tre} {a b : Nd} (h : CI fut T a b) : Fr T b := fun g hg => by
  have hc := h.ct g
  obtain ⟨h1, h2, h3⟩ := Ej (p := b.draws) (q := a.draws) (g := oq T) (f := fut) (x := g) (by omega) hg
  exact ⟨h1, h2, h3, h.rb g hg⟩
theorem CI.stepA {fut : List Int} {T T' : Tre} {a b m : Nd} (h : CI fut T a b) (hs : Sx T T' a m) : CI fut T' m b := by
  rcases hs.hi with ⟨rfl, hd, hm⟩ | ⟨g, rfl, hd, hm⟩
  · exact ⟨hs.tr, hs.ok, h.nb, hs.id.trans h.ia, h.ib, by rw [hm]; exact h.mt, by rw [hm]; exact h.ga, h.gb, by rw [hd]; exact h.ct, by rw [hd]; exact h.ra, h.rb, h.rf⟩
  · refine ⟨hs.tr, hs.ok, h.nb.grow hs.tr, hs.id.trans h.ia, h.ib, ⟨fun x hx => ?_, fun y hy => ?_⟩, fun x hx => ?_, h.gb, fun x => ?_, fun x hx => h.ra x (by rw [hd]; simp [hx]), h.rb, h.rf⟩
    · rw [hm] at hx
      simp only [List.mem_append, List.mem_singleton] at hx
      rcases hx with (hx | hx) | hx
      · exact List.mem_cons_of_mem _ (h.mt.to x (by simp [hx]))
      · rw [hx]; simp
      · exact List.mem_cons_of_mem _ (h.mt.to x (by simp [hx]))
    · rw [hm]
      rcases List.mem_cons.1 hy with hy | hy
      · exact ⟨⟨g, eN a, a.id⟩, by simp, hy.symm⟩
      · obtain ⟨z, hz, he⟩ := h.mt.of y hy
        refine ⟨z, ?_, he⟩
        simp only [List.mem_append] at hz ⊢
        rcases hz with hz | hz
        · exact Or.inl (Or.inl hz)
        · exact Or.inr hz
    · rw [hm] at hx
      simp only [List.mem_append, List.mem_singleton] at hx
      rcases hx with hx | hx
      · exact h.ga x hx
      · rw [hx]; exact h.ia
    · have hc := h.ct x
      rw [hd, List.count_cons] at hc
      show m.draws.count x + b.draws.count x + (g :: oq T).count x + _ + _ + _ ≤ 1
      rw [List.count_cons]
      omega
theorem CI.stepB {fut : List Int} {T T' : Tre} {a b m : Nd} (h : CI fut T a b) (hs : Sx T T' b m) : CI fut T' a m := by
  rcases hs.hi with ⟨rfl, hd, hm⟩ | ⟨g, rfl, hd, hm⟩
  · exact ⟨hs.tr, h.na, hs.ok, h.ia, hs.id.trans h.ib, by rw [hm]; exact h.mt, h.ga, by rw [hm]; exact h.gb, by rw [hd]; exact h.ct, h.ra, by rw [hd]; exact h.rb, h.rf⟩
  · refine ⟨hs.tr, h.na.grow hs.tr, hs.ok, h.ia, hs.id.trans h.ib, ⟨fun x hx => ?_, fun y hy => ?_⟩, h.ga, fun x hx => ?_, fun x => ?_, h.ra, fun x hx => h.rb x (by rw [hd]; simp [hx]), h.rf⟩
    · rw [hm] at hx
      simp only [List.mem_append, List.mem_singleton] at hx
      rcases hx with hx | hx | hx
      · exact List.mem_cons_of_mem _ (h.mt.to x (by simp [hx]))
      · exact List.mem_cons_of_mem _ (h.mt.to x (by simp [hx]))
      · rw [hx]; simp
    · rw [hm]
      rcases List.mem_cons.1 hy with hy | hy
      · exact ⟨⟨g, eN b, b.id⟩, by simp, hy.symm⟩
      · obtain ⟨z, hz, he⟩ := h.mt.of y hy
        refine ⟨z, ?_, he⟩
        simp only [List.mem_append] at hz ⊢
        rcases hz with hz | hz
        · exact Or.inl hz
        · exact Or.inr (Or.inl hz)
    · rw [hm] at hx
      simp only [List.mem_append, List.mem_singleton] at hx
      rcases hx with hx | hx
      · exact h.gb x hx
      · rw [hx]; exact h.ib
    · have hc := h.ct x
      rw [hd, List.count_cons] at hc
      show a.draws.count x + m.draws.count x + (g :: oq T).count x + _ + _ + _ ≤ 1
      rw [List.count_cons]
      omega
theorem CI.less {f f' : List Int} {T : Tre} {a b : Nd} (h : CI f T a b) (hc : ∀ x, f'.count x ≤ f.count x) : CI f' T a b :=
  ⟨h.tr, h.na, h.nb, h.ia, h.ib, h.mt, h.ga, h.gb, fun x => by have := h.ct x; have := hc x; omega, h.ra, h.rb, fun x hx => h.rf x (List.count_pos_iff.1 (Nat.lt_of_lt_of_le (List.count_pos_iff.2 hx) (hc x)))⟩
end Go.Dm
namespace Go.Dm
open Go
def xB (h : He) (b : ByteArray) : Prop := (bc b).2 = 0 → (bc b).1.kind = 1 → (bc b).1.hello = h
theorem xB.no {h : He} {b : ByteArray} (k : BO b) : xB h b := fun h0 h1 => absurd h1 (k h0)
theorem dg.is {l : List Ou} (h : dg l) (H : He) : ∀ o ∈ l, o.kind = 1 → xB H o.data := fun o ho hk => xB.no (h o ho hk)
structure GrH (T : Tre) (a b : Nd) (k : Lk) (H0 H1 : He) : Prop where
  u0 : a.up = true
  u1 : b.up = true
  s0 : a.state ≠ 0
  s1 : b.state ≠ 0
  k0 : a.ses = k.ses
  k1 : b.ses = k.ses
  p0 : PV T H0.inc H0.v
  p1 : PV T H1.inc H1.v
  o0 : a.state = 1 → cy a = H0
  o1 : b.state = 1 → cy b = H1
  c0 : a.state = 4 → (ag H0 H1).src = 1
  c1 : b.state = 4 → (ag H0 H1).src = 0
  d0 : (ag H0 H1).src ≠ 1 → eN a = H0.v.cur
  d1 : (ag H0 H1).src ≠ 0 → eN b = H1.v.cur
  l0 : ∀ x ∈ k.to0, xB H1 x
  l1 : ∀ x ∈ k.to1, xB H0 x
structure LI (T : Tre) (a b : Nd) (k : Lk) : Prop where
  dn : k.up = false → a.state = 0 ∧ b.state = 0
  up : k.up = true → ∃ H0 H1, GrH T a b k H0 H1
def Inv (fut : List Int) (T : Tre) (c : Cl) : Prop := CI fut T c.n0 c.n1 ∧ LI T c.n0 c.n1 c.link
theorem cn (i : Int) : ∀ (l : List Ou) (k : Lk), (a9 i k l).up = k.up ∧ (a9 i k l).ses = k.ses
  | [], k => ⟨rfl, rfl⟩
  | o :: l, k => by
    have h := cn i l (bif o.kind == 1 && k.up then (cp k (IntKind.wrap .i64 (1 - i)) [o.data]).1 else k)
    have h2 : (bif o.kind == 1 && k.up then (cp k (IntKind.wrap .i64 (1 - i)) [o.data]).1 else k).up = k.up ∧ (bif o.kind == 1 && k.up then (cp k (IntKind.wrap .i64 (1 - i)) [o.data]).1 else k).ses = k.ses := by
      refine ai (p := fun (x : Lk) => x.up = k.up ∧ x.ses = k.ses) ?_ ⟨rfl, rfl⟩
      unfold cp
      exact ai (p := fun (x : Lk × Int) => x.1.up = k.up ∧ x.1.ses = k.ses) ⟨rfl, rfl⟩ (ai (p := fun (x : Lk × Int) => x.1.up = k.up ∧ x.1.ses = k.ses) ⟨rfl, rfl⟩ (ai (p := fun (x : Lk × Int) => x.1.up = k.up ∧ x.1.ses = k.ses) ⟨rfl, rfl⟩ ⟨rfl, rfl⟩))
    exact ⟨h.1.trans h2.1, h.2.trans h2.2⟩
structure Sam (n m : Nd) : Prop where
  up : m.up = n.up
  st : m.state = n.state
  ses : m.ses = n.ses
  own : cy m = cy n
  cur : eN m = eN n
theorem sE {T : Tre} {n : Nd} (ht : b9 T) (hn : NI (PV T) n) (hf : Fr T n) (w : Bool) : (dD n w).1.1.state = 0 := (yG ht hn hf w).2
theorem gR : ∀ (l : List Ou) (k : Lk), (a9 0 k l).to0 = k.to0 ∧ ∀ x ∈ (a9 0 k l).to1, x ∈ k.to1 ∨ ∃ o ∈ l, o.kind = 1 ∧ o.data = x
  | [], k => ⟨rfl, fun x hx => Or.inl hx⟩
  | o :: l, k => by
    have h := gR l (bif o.kind == 1 && k.up then (cp k (IntKind.wrap .i64 (1 - 0)) [o.data]).1 else k)
    have h2 : (bif o.kind == 1 && k.up then (cp k (IntKind.wrap .i64 (1 - 0)) [o.data]).1 else k).to0 = k.to0 ∧ ∀ x ∈ (bif o.kind == 1 && k.up then (cp k (IntKind.wrap .i64 (1 - 0)) [o.data]).1 else k).to1, x ∈ k.to1 ∨ ∃ o' ∈ o :: l, o'.kind = 1 ∧ o'.data = x := by
      cases hb : (o.kind == 1 && k.up) with
      | false => exact ⟨rfl, fun x hx => Or.inl hx⟩
      | true =>
        simp only [Bool.and_eq_true, beq_iff_eq] at hb
        have e : (cp k (IntKind.wrap .i64 (1 - 0)) [o.data]).1 = { k with to1 := k.to1 ++ [o.data] } := by
          unfold cp
          rw [hb.2]
          rfl
        rw [cond_true, e]
        refine ⟨rfl, fun x hx => ?_⟩
        rcases List.mem_append.1 hx with hx | hx
        · exact Or.inl hx
        · exact Or.inr ⟨o, by simp, hb.1, (by simpa using hx : x = o.data).symm⟩
    refine ⟨h.1.trans h2.1, fun x hx => ?_⟩
    rcases h.2 x hx with hx | ⟨o', ho, hk⟩
    · exact h2.2 x hx
    · exact Or.inr ⟨o', List.mem_cons_of_mem _ ho, hk⟩
theorem GrH.step0 {T : Tre} {a b m : Nd} {k : Lk} {H0 H1 : He} (h : GrH T a b k H0 H1) (hb : Bec (PV T) a m) (hu : m.up = true) (h4 : m.state = 4 → a.state ≠ 4 → (ag H0 H1).src = 1) {l : List Ou} (ho : ∀ o ∈ l, o.kind = 1 → xB H0 o.data) : GrH T m b (a9 0 k l) H0 H1 := by
  have hst := hb.st hu
  have hks := cn 0 l k
  have hsl := gR l k
  have h0 := h.s0
  have hd : (ag H0 H1).src ≠ 1 → eN m = H0.v.cur := by
    intro hs
    have h5 : a.state ≠ 4 := fun ha => hs (h.c0 ha)
    have h6 : m.state ≠ 4 := fun hm => hs (h4 hm h5)
    rw [hb.cur hu h6 h5]
    exact h.d0 hs
  have hl : ∀ x ∈ (a9 0 k l).to1, xB H0 x := by
    intro x hx
    rcases hsl.2 x hx with hx | ⟨o, hol, hk, rfl⟩
    · exact h.l1 x hx
    · exact ho o hol hk
  have hc : m.state = 4 → (ag H0 H1).src = 1 := by
    intro hm
    by_cases ha : a.state = 4
    · exact h.c0 ha
    · exact h4 hm ha
  have hw : m.state = 1 → cy m = H0 := by
    intro h1
    have h2 : a.state = 1 := by omega
    rw [hb.own hu h2 h1]
    exact h.o0 h2
  exact { h with u0 := hu, s0 := by omega, k0 := by rw [(hb.up hu).2, hks.2]; exact h.k0, k1 := by rw [hks.2]; exact h.k1, o0 := hw, c0 := hc, d0 := hd, l0 := by rw [hsl.1]; exact h.l0, l1 := hl }
theorem GrH.sam0 {T : Tre} {a b m : Nd} {k : Lk} {H0 H1 : He} (h : GrH T a b k H0 H1) (hs : Sam a m) : GrH T m b k H0 H1 :=
  { h with u0 := by rw [hs.up]; exact h.u0, s0 := by rw [hs.st]; exact h.s0, k0 := by rw [hs.ses]; exact h.k0, o0 := by rw [hs.st, hs.own]; exact h.o0, c0 := by rw [hs.st]; exact h.c0, d0 := by rw [hs.cur]; exact h.d0 }
theorem qm (c : Cl) (n : Nd) (l : List Ou) : ((c.link.up = false ∨ n.up = true) ∧ (bC c 0 n l).1.n0 = n ∧ (bC c 0 n l).1.n1 = c.n1 ∧ (bC c 0 n l).1.link = a9 0 c.link l) ∨
    ∃ d : Cl, d.n0 = n ∧ d.n1 = c.n1 ∧ (bC c 0 n l).1 = (fo d).1 := by
  have e0 : (cK c 0 n l).link = a9 0 c.link l := by
    unfold cK
    exact ai (p := fun (x : Cl) => x.link = a9 0 c.link l) rfl rfl
  have e1 : (cK c 0 n l).n0 = n := by
    unfold cK
    exact ai (p := fun (x : Cl) => x.n0 = n) rfl rfl
  have e2 : (cK c 0 n l).n1 = c.n1 := by
    unfold cK
    exact ai (p := fun (x : Cl) => x.n1 = c.n1) rfl rfl
  unfold bC
  cases h1 : (!(cK c 0 n l).link.up || n.up && !cO l) with
  | true =>
    refine Or.inl ⟨?_, e1, e2, e0⟩
    rw [e0, (cn 0 l c.link).1] at h1
    simp at h1
    rcases h1 with h1 | h1
    · exact Or.inl h1
    · exact Or.inr h1.1
  | false =>
    refine Or.inr ?_
    cases cO l with
    | true => exact ⟨{ cK c 0 n l with w0 := false, w1 := false }, e1, e2, rfl⟩
    | false => exact ⟨_, e1, e2, rfl⟩
theorem EV {fut : List Int} {T : Tre} {c : Cl} (h : Inv fut T c) {b : ByteArray} (hb : c.link.up = true → (aA b c.link.ses).2 = 0 → b ∈ c.link.to0) :
    Rs (PV T) c.n0 (aw c.n0 b) ∧ ((aw c.n0 b).1.state = 4 → c.n0.state ≠ 4 → ∃ H0 H1, GrH T c.n0 c.n1 c.link H0 H1 ∧ b ∈ c.link.to0 ∧ (bc b).1.hello = H1 ∧ c.n0.state = 1 ∧ (ag H0 H1).src = 1 ∧ (aN c.n0 H1).1.kind ≠ 4 ∧ (aN c.n0 H1).1.kind ≠ 1 ∧ (aN c.n0 H1).1.src ≠ c.n0.id) := by
  have hn : NI (PV T) c.n0 := h.1.na
  have hid : c.n0.id = 0 := h.1.ia
  have hid2 : c.n0.id = 0 ∨ c.n0.id = 1 := by omega
  by_cases h0 : c.n0.state = 0
  · have e : aw c.n0 b = (c.n0, []) := by
      unfold aw
      rw [h0]
      cases c.n0.up <;> rfl
    rw [e]
    exact ⟨⟨Bec.refl hn, dg.nil⟩, fun h4 => by simp only at h4; omega⟩
  · have hk : c.link.up = true := by
      cases hk : c.link.up with
      | true => rfl
      | false => have := h.2.dn hk; omega
    have hkey : ∀ H0 H1, GrH T c.n0 c.n1 c.link H0 H1 → Rs (PV T) c.n0 (aw c.n0 b) ∧ ((aw c.n0 b).1.state = 4 → c.n0.state ≠ 4 → b ∈ c.link.to0 ∧ (bc b).1.hello = H1 ∧ c.n0.state = 1 ∧ (ag H0 H1).src = 1 ∧ (aN c.n0 H1).1.kind ≠ 4 ∧ (aN c.n0 H1).1.kind ≠ 1 ∧ (aN c.n0 H1).1.src ≠ c.n0.id) := by
      intro H0 H1 hg
      have hses : c.n0.ses = c.link.ses := hg.k0
      have hheb : (aA b c.n0.ses).2 = 0 → HeB (PV T) b := fun hr hd hk1 => by
        rw [hses] at hr
        rw [hg.l0 b (hb hk hr) hd hk1]
        exact hg.p1
      refine ⟨jh (jW T) hn hid2 hheb, fun h4 hs => ?_⟩
      obtain ⟨q1, q2, q3, q4, q5, q6, q7, q8⟩ := iY (jW T) hn hid2 hheb h4 hs
      rw [hses] at q3
      have hm := hb hk q3
      have hh := hg.l0 b hm q4 q5
      rw [hh] at q6 q7 q8
      refine ⟨hm, hh, q2, ?_, q6, q7, q8⟩
      have ho := hg.o0 q2
      have hv : (aN c.n0 H1).1 = ag H0 H1 := by
        unfold aN
        rw [hid, ho]
        rfl
      rw [hv] at q6 q7 q8
      rw [hid] at q8
      have := (dO q6 q7).src
      omega
    obtain ⟨H0, H1, hg⟩ := h.2.up hk
    have h1 := hkey H0 H1 hg
    exact ⟨h1.1, fun a b => ⟨H0, H1, hg, h1.2 a b⟩⟩
theorem gE : ∀ (l : List Ou) (k : Lk), (a9 1 k l).to1 = k.to1 ∧ ∀ x ∈ (a9 1 k l).to0, x ∈ k.to0 ∨ ∃ o ∈ l, o.kind = 1 ∧ o.data = x
  | [], k => ⟨rfl, fun x hx => Or.inl hx⟩
  | o :: l, k => by
    have h := gE l (bif o.kind == 1 && k.up then (cp k (IntKind.wrap .i64 (1 - 1)) [o.data]).1 else k)
    have h2 : (bif o.kind == 1 && k.up then (cp k (IntKind.wrap .i64 (1 - 1)) [o.data]).1 else k).to1 = k.to1 ∧ ∀ x ∈ (bif o.kind == 1 && k.up then (cp k (IntKind.wrap .i64 (1 - 1)) [o.data]).1 else k).to0, x ∈ k.to0 ∨ ∃ o' ∈ o :: l, o'.kind = 1 ∧ o'.data = x := by
      cases hb : (o.kind == 1 && k.up) with
      | false => exact ⟨rfl, fun x hx => Or.inl hx⟩
      | true =>
        simp only [Bool.and_eq_true, beq_iff_eq] at hb
        have e : (cp k (IntKind.wrap .i64 (1 - 1)) [o.data]).1 = { k with to0 := k.to0 ++ [o.data] } := by
          unfold cp
          rw [hb.2]
          rfl
        rw [cond_true, e]
        refine ⟨rfl, fun x hx => ?_⟩
        rcases List.mem_append.1 hx with hx | hx
        · exact Or.inl hx
        · exact Or.inr ⟨o, by simp, hb.1, (by simpa using hx : x = o.data).symm⟩
    refine ⟨h.1.trans h2.1, fun x hx => ?_⟩
    rcases h.2 x hx with hx | ⟨o', ho, hk⟩
    · exact h2.2 x hx
    · exact Or.inr ⟨o', List.mem_cons_of_mem _ ho, hk⟩
theorem GrH.step1 {T : Tre} {a b m : Nd} {k : Lk} {H0 H1 : He} (h : GrH T a b k H0 H1) (hb : Bec (PV T) b m) (hu : m.up = true) (h4 : m.state = 4 → b.state ≠ 4 → (ag H0 H1).src = 0) {l : List Ou} (ho : ∀ o ∈ l, o.kind = 1 → xB H1 o.data) : GrH T a m (a9 1 k l) H0 H1 := by
  have hst := hb.st hu
  have hks := cn 1 l k
  have hsl := gE l k
  have h0 := h.s1
  have hd : (ag H0 H1).src ≠ 0 → eN m = H1.v.cur := by
    intro hs
    have h5 : b.state ≠ 4 := fun ha => hs (h.c1 ha)
    have h6 : m.state ≠ 4 := fun hm => hs (h4 hm h5)
    rw [hb.cur hu h6 h5]
    exact h.d1 hs
  have hl : ∀ x ∈ (a9 1 k l).to0, xB H1 x := by
    intro x hx
    rcases hsl.2 x hx with hx | ⟨o, hol, hk, rfl⟩
    · exact h.l0 x hx
    · exact ho o hol hk
  have hc : m.state = 4 → (ag H0 H1).src = 0 := by
    intro hm
    by_cases ha : b.state = 4
    · exact h.c1 ha
    · exact h4 hm ha
  have hw : m.state = 1 → cy m = H1 := by
    intro h1
    have h2 : b.state = 1 := by omega
    rw [hb.own hu h2 h1]
    exact h.o1 h2
  exact { h with u1 := hu, s1 := by omega, k1 := by rw [(hb.up hu).2, hks.2]; exact h.k1, k0 := by rw [hks.2]; exact h.k0, o1 := hw, c1 := hc, d1 := hd, l1 := by rw [hsl.1]; exact h.l1, l0 := hl }
theorem GrH.sam1 {T : Tre} {a b m : Nd} {k : Lk} {H0 H1 : He} (h : GrH T a b k H0 H1) (hs : Sam b m) : GrH T a m k H0 H1 :=
  { h with u1 := by rw [hs.up]; exact h.u1, s1 := by rw [hs.st]; exact h.s1, k1 := by rw [hs.ses]; exact h.k1, o1 := by rw [hs.st, hs.own]; exact h.o1, c1 := by rw [hs.st]; exact h.c1, d1 := by rw [hs.cur]; exact h.d1 }
theorem qY (c : Cl) (n : Nd) (l : List Ou) : ((c.link.up = false ∨ n.up = true) ∧ (bC c 1 n l).1.n1 = n ∧ (bC c 1 n l).1.n0 = c.n0 ∧ (bC c 1 n l).1.link = a9 1 c.link l) ∨
    ∃ d : Cl, d.n1 = n ∧ d.n0 = c.n0 ∧ (bC c 1 n l).1 = (fo d).1 := by
  have e0 : (cK c 1 n l).link = a9 1 c.link l := by
    unfold cK
    exact ai (p := fun (x : Cl) => x.link = a9 1 c.link l) rfl rfl
  have e1 : (cK c 1 n l).n1 = n := by
    unfold cK
    exact ai (p := fun (x : Cl) => x.n1 = n) rfl rfl
  have e2 : (cK c 1 n l).n0 = c.n0 := by
    unfold cK
    exact ai (p := fun (x : Cl) => x.n0 = c.n0) rfl rfl
  unfold bC
  cases h1 : (!(cK c 1 n l).link.up || n.up && !cO l) with
  | true =>
    refine Or.inl ⟨?_, e1, e2, e0⟩
    rw [e0, (cn 1 l c.link).1] at h1
    simp at h1
    rcases h1 with h1 | h1
    · exact Or.inl h1
    · exact Or.inr h1.1
  | false =>
    refine Or.inr ?_
    cases cO l with
    | true => exact ⟨{ cK c 1 n l with w0 := false, w1 := false }, e1, e2, rfl⟩
    | false => exact ⟨_, e1, e2, rfl⟩
theorem Gv {fut : List Int} {T : Tre} {c : Cl} (h : Inv fut T c) {b : ByteArray} (hb : c.link.up = true → (aA b c.link.ses).2 = 0 → b ∈ c.link.to1) :
    Rs (PV T) c.n1 (aw c.n1 b) ∧ ((aw c.n1 b).1.state = 4 → c.n1.state ≠ 4 → ∃ H0 H1, GrH T c.n0 c.n1 c.link H0 H1 ∧ b ∈ c.link.to1 ∧ (bc b).1.hello = H0 ∧ c.n1.state = 1 ∧ (ag H0 H1).src = 0 ∧ (aN c.n1 H0).1.kind ≠ 4 ∧ (aN c.n1 H0).1.kind ≠ 1 ∧ (aN c.n1 H0).1.src ≠ c.n1.id) := by
  have hn : NI (PV T) c.n1 := h.1.nb
  have hid : c.n1.id = 1 := h.1.ib
  have hid2 : c.n1.id = 0 ∨ c.n1.id = 1 := by omega
  by_cases h0 : c.n1.state = 0
  · have e : aw c.n1 b = (c.n1, []) := by
      unfold aw
      rw [h0]
      cases c.n1.up <;> rfl
    rw [e]
    exact ⟨⟨Bec.refl hn, dg.nil⟩, fun h4 => by simp only at h4; omega⟩
  · have hk : c.link.up = true := by
      cases hk : c.link.up with
      | true => rfl
      | false => have := h.2.dn hk; omega
    have hkey : ∀ H0 H1, GrH T c.n0 c.n1 c.link H0 H1 → Rs (PV T) c.n1 (aw c.n1 b) ∧ ((aw c.n1 b).1.state = 4 → c.n1.state ≠ 4 → b ∈ c.link.to1 ∧ (bc b).1.hello = H0 ∧ c.n1.state = 1 ∧ (ag H0 H1).src = 0 ∧ (aN c.n1 H0).1.kind ≠ 4 ∧ (aN c.n1 H0).1.kind ≠ 1 ∧ (aN c.n1 H0).1.src ≠ c.n1.id) := by
      intro H0 H1 hg
      have hses : c.n1.ses = c.link.ses := hg.k1
      have hheb : (aA b c.n1.ses).2 = 0 → HeB (PV T) b := fun hr hd hk1 => by
        rw [hses] at hr
        rw [hg.l1 b (hb hk hr) hd hk1]
        exact hg.p0
      refine ⟨jh (jW T) hn hid2 hheb, fun h4 hs => ?_⟩
      obtain ⟨q1, q2, q3, q4, q5, q6, q7, q8⟩ := iY (jW T) hn hid2 hheb h4 hs
      rw [hses] at q3
      have hm := hb hk q3
      have hh := hg.l1 b hm q4 q5
      rw [hh] at q6 q7 q8
      refine ⟨hm, hh, q2, ?_, q6, q7, q8⟩
      have ho := hg.o1 q2
      have hv : (aN c.n1 H0).1 = ag H0 H1 := by
        unfold aN
        rw [hid, ho]
        rfl
      rw [hv] at q6 q7 q8
      rw [hid] at q8
      have := (dO q6 q7).src
      omega
    obtain ⟨H0, H1, hg⟩ := h.2.up hk
    have h1 := hkey H0 H1 hg
    exact ⟨h1.1, fun a b => ⟨H0, H1, hg, h1.2 a b⟩⟩
end Go.Dm
namespace Go.Dm
open Go
def Qs (n m : Nd) : Prop := m.state = n.state ∨ m.state = 0
theorem Qs.trans {a b c : Nd} (h : Qs a b) (k : Qs b c) : Qs a c := by unfold Qs at *; omega
theorem q_c {n : Nd} {α : Type} {b : Bool} {x y : Nd × α} (hx : Qs n x.1) (hy : Qs n y.1) : Qs n (bif b then x else y).1 := by
  cases b
  · exact hy
  · exact hx
theorem pn (n : Nd) : Qs n n := Or.inl rfl
theorem iF (n : Nd) (b : Su) : Qs n (ac n b).1 := by
  unfold ac
  exact q_c (Or.inr rfl) (Or.inl rfl)
theorem yl (n : Nd) (s : So) (e : Int) : Qs n (d7 n s e).1 := by
  unfold d7
  exact q_c (Or.inr rfl) (Or.inl rfl)
theorem D9 (n : Nd) (b : Int) (x : ByteArray) : Qs n (fE n b x).1 := by
  unfold fE
  have h : Qs n (dZ n b).1 := yl _ _ _
  exact q_c h (h.trans (yl _ _ _))
theorem Bu (n : Nd) : Qs n (aH n).1 := by
  unfold aH
  cases n.draws with
  | nil => exact pn n
  | cons g r =>
    show Qs n (fL n g r).1
    unfold fL
    have h : Qs n (ac (i6 n g r) (kj n g)).1 := (iF (i6 n g r) (kj n g))
    exact q_c (Or.inl rfl) (q_c h h)
theorem nS (n : Nd) (id : Int) : Qs n (bT n id).1 := by
  unfold bT
  have h := iF n { n.store.super with pri := true }
  exact q_c (pn n) (q_c (pn n) (q_c (pn n) (q_c (pn n) (q_c (pn n) (q_c (pn n) (q_c (Or.inl rfl) (q_c h h)))))))
theorem qz (n : Nd) (id : Int) : Qs n (cT n id).1 := by
  unfold cT
  have h := iF n { n.store.super with pri := false }
  exact q_c (pn n) (q_c (pn n) (q_c (pn n) (q_c h (q_c h h))))
theorem ob (n : Nd) (id : Int) : Qs n (cG n id).1 := by
  unfold cG
  have h := iF n { n.store.super with dis := true }
  exact q_c (pn n) (q_c (pn n) (q_c (pn n) (q_c h h)))
theorem tg (n : Nd) (id b : Int) : Qs n (fA n id b).1 := by
  unfold fA
  exact q_c (pn n) (q_c (pn n) (pn n))
theorem tS (n : Nd) (id b : Int) (x : ByteArray) : Qs n (cf n id b x).1 := by
  unfold cf
  have h := D9 n b x
  exact q_c h (q_c h h)
theorem ud (n : Nd) (id b : Int) (x : ByteArray) : Qs n (bR n id b x).1 := by
  unfold bR
  have h := Bu n
  exact q_c (pn n) (q_c (q_c h (q_c h (h.trans (tS _ _ _ _)))) (tS _ _ _ _))
theorem jD {T : Tre} {n : Nd} (hn : NI (PV T) n) (k : Int) : Bec (PV T) n (du n k) ∧ Qs n (du n k) := by
  unfold du
  exact ai (p := fun (x : Nd) => Bec (PV T) n x ∧ Qs n x) ⟨Bec.flat hn (hn.d.same rfl rfl) hn.s rfl rfl rfl rfl rfl rfl rfl (fun _ => rfl) rfl, pn _⟩ ⟨Bec.refl hn, pn _⟩
theorem tv {T : Tre} {n : Nd} (hp : PV T n.store.super.inc n.store.super.v) {s : Int} (hs : R64 s) : ∀ o ∈ (cv n s).2, o.kind = 1 → xB (cy n) o.data := by
  intro o ho _ h0 _
  have he : o = aR (eM n s) ⟨1, 0, cy (eM n s), 0, ⟨#[]⟩⟩ := by
    unfold cv at ho
    simpa using ho
  subst he
  have h1 : (bc (dF ⟨1, s, cy n, 0, ⟨#[]⟩⟩).1).2 = 0 := h0
  have h2 := wE (p := ⟨1, s, cy n, 0, ⟨#[]⟩⟩) hs hp.1 h1
  show (bc (dF ⟨1, s, cy n, 0, ⟨#[]⟩⟩).1).1.hello = cy n
  rw [h2]
theorem p7 (c : Cl) (hu : c.n0.up = true) : (dU c).1 = { c with n0 := eM c.n0 c.link.ses, link := a9 0 c.link (cv c.n0 c.link.ses).2 } := by
  have e : (dU c).1 = (bC c 0 (eM c.n0 c.link.ses) (cv c.n0 c.link.ses).2).1 := rfl
  have hb : (eM c.n0 c.link.ses).up = true := hu
  rw [e]
  unfold bC
  have hcl : cO (cv c.n0 c.link.ses).2 = false := rfl
  rw [hb, hcl]
  simp only [Bool.not_false, Bool.and_true, Bool.or_true, cond_true]
  unfold cK
  rw [hb]
  rfl
theorem qt (c : Cl) (hu : c.n1.up = true) : (fP c).1 = { c with n1 := eM c.n1 c.link.ses, link := a9 1 c.link (cv c.n1 c.link.ses).2 } := by
  have e : (fP c).1 = (bC c 1 (eM c.n1 c.link.ses) (cv c.n1 c.link.ses).2).1 := rfl
  have hb : (eM c.n1 c.link.ses).up = true := hu
  rw [e]
  unfold bC
  have hcl : cO (cv c.n1 c.link.ses).2 = false := rfl
  rw [hb, hcl]
  simp only [Bool.not_false, Bool.and_true, Bool.or_true, cond_true]
  unfold cK
  rw [hb]
  rfl
theorem tu {T : Tre} (ht : b9 T) {n : Nd} (hn : NI (PV T) n) (hu : n.up = true) (s : Int) : Sx T T n (eM n s) :=
  Sx.flat ht ⟨hn.d, hn.s, fun h => absurd h (show (1 : Int) ≠ 4 by decide), fun h => absurd (hu.symm.trans h) (by simp)⟩ rfl rfl rfl
theorem uu {fut : List Int} {T : Tre} {c : Cl} (h : CI fut T c.n0 c.n1) (u0 : c.n0.up = true) (u1 : c.n1.up = true) {k : Lk} (hk : c.link = cL k) : Inv fut T (fP (dU c).1).1 ∧ (fP (dU c).1).1.n0.state = 1 ∧ (fP (dU c).1).1.n1.state = 1 := by
  have hs : R64 c.link.ses := by rw [hk]; exact sY _
  have hup : c.link.up = true := by rw [hk]; rfl
  have hv : c.link.to0 = [] ∧ c.link.to1 = [] := by rw [hk]; exact ⟨rfl, rfl⟩
  have e1 := qt { c with n0 := eM c.n0 c.link.ses, link := a9 0 c.link (cv c.n0 c.link.ses).2 } u1
  rw [p7 c u0, e1]
  refine ⟨⟨(h.stepA (tu h.tr h.na u0 _)).stepB (tu h.tr h.nb u1 _), ⟨fun hk => ?_, fun _ => ?_⟩⟩, rfl, rfl⟩
  · exfalso
    simp only at hk
    rw [(cn 1 _ _).1, (cn 0 _ _).1, hup] at hk
    exact absurd hk (by simp)
  · have e0 : (a9 0 c.link (cv c.n0 c.link.ses).2).ses = c.link.ses := (cn 0 _ _).2
    refine ⟨cy c.n0, cy c.n1, ⟨u0, u1, show (1 : Int) ≠ 0 by decide, show (1 : Int) ≠ 0 by decide, ?_, ?_, h.na.s u0, h.nb.s u1, fun _ => rfl, fun _ => rfl, fun hh => absurd hh (show (1 : Int) ≠ 4 by decide), fun hh => absurd hh (show (1 : Int) ≠ 4 by decide), fun _ => rfl, fun _ => rfl, ?_, ?_⟩⟩
    · exact ((cn 1 _ _).2.trans e0).symm
    · exact ((cn 1 _ _).2).symm
    · intro x hx
      rcases (gE _ _).2 x hx with hx | ⟨o, ho, hk, rfl⟩
      · rw [(gR _ _).1, hv.1] at hx
        exact absurd hx (by simp)
      · refine tv (h.nb.s u1) (s := (a9 0 c.link (cv c.n0 c.link.ses).2).ses) ?_ o ho hk
        rw [e0]; exact hs
    · intro x hx
      simp only at hx
      rw [(gE _ _).1] at hx
      rcases (gR _ _).2 x hx with hx | ⟨o, ho, hk, rfl⟩
      · rw [hv.2] at hx
        exact absurd hx (by simp)
      · exact tv (h.na.s u0) hs o ho hk
structure Rn0 (fut : List Int) (S : Prop) (c d : Cl) : Prop where
  inv : ∃ T', Inv fut T' d
  oth : d.n1.state = 4 → c.n1.state = 4
  own : d.n0.state = 4 → c.n0.state ≠ 4 → S
theorem Rn0.same {fut : List Int} {T : Tre} {S : Prop} {c d : Cl} (h : Inv fut T c) (e0 : d.n0 = c.n0) (e1 : d.n1 = c.n1) (ek : d.link = c.link) : Rn0 fut S c d :=
  ⟨⟨T, by unfold Inv; rw [e0, e1, ek]; exact h⟩, by rw [e1]; exact fun h => h, by rw [e0]; exact fun h k => absurd h k⟩
structure Rn1 (fut : List Int) (S : Prop) (c d : Cl) : Prop where
  inv : ∃ T', Inv fut T' d
  oth : d.n0.state = 4 → c.n0.state = 4
  own : d.n1.state = 4 → c.n1.state ≠ 4 → S
theorem Rn1.same {fut : List Int} {T : Tre} {S : Prop} {c d : Cl} (h : Inv fut T c) (e0 : d.n0 = c.n0) (e1 : d.n1 = c.n1) (ek : d.link = c.link) : Rn1 fut S c d :=
  ⟨⟨T, by unfold Inv; rw [e0, e1, ek]; exact h⟩, by rw [e0]; exact fun h => h, by rw [e1]; exact fun h k => absurd h k⟩
end Go.Dm
namespace Go.Dm
open Go
def j9 (l : List Evt) : List Int := (l.filter (·.kind == 13)).map (·.n)
theorem jE {e : Evt} (h : e.kind = 13) (l : List Evt) : j9 (e :: l) = e.n :: j9 l := by
  have : (e.kind == 13) = true := by rw [h]; rfl
  unfold j9
  rw [List.filter_cons_of_pos (by simpa using this)]
  rfl
theorem jN {e : Evt} (h : e.kind ≠ 13) (l : List Evt) : j9 (e :: l) = j9 l := by
  unfold j9
  rw [List.filter_cons_of_neg (by simpa using h)]
theorem lJ {T : Tre} {n : Nd} (h : NI (PV T) n) (g : Int) : NI (PV T) (cI n g) ∧ Sam n (cI n g) ∧ (cI n g).id = n.id ∧ (cI n g).mints = n.mints := by
  unfold cI
  exact ai (p := fun (x : Nd) => NI (PV T) x ∧ Sam n x ∧ x.id = n.id ∧ x.mints = n.mints) ⟨⟨h.d, h.s, h.p, h.z⟩, ⟨rfl, rfl, rfl, rfl, rfl⟩, rfl, rfl⟩ ⟨h, ⟨rfl, rfl, rfl, rfl, rfl⟩, rfl, rfl⟩
theorem yr {n : Nd} {g x : Int} (h : x ∈ (cI n g).draws) : x ∈ n.draws ∨ x = g := by
  unfold cI at h
  cases hb : decide ((n.draws.length : Int) < 1000) with
  | true =>
    rw [hb] at h
    have h : x ∈ n.draws ++ [g] := h
    simpa using h
  | false => rw [hb] at h; exact Or.inl h
theorem AD {α : Type} {x : α} {l m : List α} (h : l = m) (hx : x ∈ l) : x ∈ m := h ▸ hx
theorem wB {n : Nd} {g : Int} (h : ∀ x ∈ n.draws, R64 x) (hg : R64 g) : ∀ x ∈ (cI n g).draws, R64 x := fun x hx => by
  rcases yr hx with h5 | h5
  · exact h x h5
  · rw [h5]; exact hg
theorem mz (n : Nd) (g x : Int) : (cI n g).draws.count x ≤ n.draws.count x + [g].count x := by
  unfold cI
  cases hb : decide ((n.draws.length : Int) < 1000) with
  | true => show (n.draws ++ [g]).count x ≤ _; rw [List.count_append]; exact Nat.le_refl _
  | false => exact Nat.le_add_right _ _
theorem xL {fut : List Int} {T : Tre} {c : Cl} (h : Inv fut T c) {x g : Int} (hx : Kn T x) : inL (bL c) g x = (bB T x).contains g := by
  unfold inL
  rw [show gk (bL c) x = bB T x from h.1.mt.line h.1.tr hx]
theorem vB {fut : List Int} {T : Tre} {c : Cl} {g : Int} (h : Inv (g :: fut) T c) : Inv fut T (aZ c 0 (cI c.n0 g)) := by
  obtain ⟨k1, k2, k3, k4⟩ := lJ h.1.na g
  have hr := wB h.1.ra (h.1.rf g (by simp))
  have hd := mz c.n0 g
  generalize cI c.n0 g = m at k1 k2 k3 k4 hr hd
  refine ⟨{ tr := h.1.tr, na := k1, nb := h.1.nb, ia := k3.trans h.1.ia, ib := h.1.ib, mt := ?_, ga := fun x hx => h.1.ga x (AD k4 hx), gb := h.1.gb, ct := fun x => ?_, ra := hr, rb := h.1.rb, rf := fun x hx => h.1.rf x (List.mem_cons_of_mem _ hx) }, ⟨fun hk => ?_, fun hk => ?_⟩⟩
  · show Mts ((aZ c 0 m).n0.mints ++ (aZ c 0 m).n1.mints) T
    have e : (aZ c 0 m).n0.mints = c.n0.mints := k4
    rw [e]
    exact h.1.mt
  · have hc := h.1.ct x
    have hd := hd x
    rw [List.count_cons] at hc
    rw [List.count_singleton] at hd
    have e : (aZ c 0 m).n0.draws = m.draws := rfl
    have e2 : (aZ c 0 m).n1.draws = c.n1.draws := rfl
    rw [e, e2]
    omega
  · have := h.2.dn hk
    have e : m.state = c.n0.state := k2.st
    exact ⟨e.trans this.1, this.2⟩
  · obtain ⟨H0, H1, hg⟩ := h.2.up hk
    exact ⟨H0, H1, hg.sam0 k2⟩
theorem xX {fut : List Int} {T : Tre} {c : Cl} {g : Int} (h : Inv (g :: fut) T c) : Inv fut T (aZ c 1 (cI c.n1 g)) := by
  obtain ⟨k1, k2, k3, k4⟩ := lJ h.1.nb g
  have hr := wB h.1.rb (h.1.rf g (by simp))
  have hd := mz c.n1 g
  generalize cI c.n1 g = m at k1 k2 k3 k4 hr hd
  refine ⟨{ tr := h.1.tr, na := h.1.na, nb := k1, ia := h.1.ia, ib := k3.trans h.1.ib, mt := ?_, ga := h.1.ga, gb := fun x hx => h.1.gb x (AD k4 hx), ct := fun x => ?_, ra := h.1.ra, rb := hr, rf := fun x hx => h.1.rf x (List.mem_cons_of_mem _ hx) }, ⟨fun hk => ?_, fun hk => ?_⟩⟩
  · show Mts ((aZ c 1 m).n0.mints ++ (aZ c 1 m).n1.mints) T
    have e : (aZ c 1 m).n1.mints = c.n1.mints := k4
    rw [e]
    exact h.1.mt
  · have hc := h.1.ct x
    have hd := hd x
    rw [List.count_cons] at hc
    rw [List.count_singleton] at hd
    have e : (aZ c 1 m).n1.draws = m.draws := rfl
    have e2 : (aZ c 1 m).n0.draws = c.n0.draws := rfl
    rw [e, e2]
    omega
  · have := h.2.dn hk
    have e : m.state = c.n1.state := k2.st
    exact ⟨this.1, e.trans this.2⟩
  · obtain ⟨H0, H1, hg⟩ := h.2.up hk
    exact ⟨H0, H1, hg.sam1 k2⟩
theorem u9 {l : List Evt} {x : Evt} {i : Nat} (h : i < l.length) : kK (l ++ [x]) i = kK l i := by
  unfold kK
  rw [List.getElem?_append_left h]
  cases l[i]? with
  | none => rfl
  | some y => simp only [CA]; rw [List.take_append_of_le_length (by omega)]
theorem pq {l : List Evt} {x : Evt} (h : cP (l ++ [x]) = true) : cP l = true ∧ CA (l ++ [x]) l.length x = false := by
  unfold cP at h ⊢
  rw [List.length_append, List.length_singleton, List.range_succ, List.any_append, Bool.not_eq_true', Bool.or_eq_false_iff] at h
  refine ⟨?_, ?_⟩
  · rw [Bool.not_eq_true', List.any_eq_false]
    intro i hi
    have := List.any_eq_false.1 h.1 i hi
    rw [u9 (by simpa using hi)] at this
    exact this
  · have h2 := h.2
    simp only [List.any_cons, List.any_nil, Bool.or_false] at h2
    unfold kK at h2
    rw [List.getElem?_append_right (Nat.le_refl _)] at h2
    simpa using h2
theorem vR (l : List Evt) (x : Evt) : j9 (l ++ [x]) = j9 l ++ j9 [x] := by
  unfold j9
  rw [List.filter_append, List.map_append]
theorem y5 {α : Type} {p : List α → Prop} (h0 : p []) (h1 : ∀ l x, p l → p (l ++ [x])) (l : List α) : p l := by
  have : ∀ m : List α, p m.reverse := by
    intro m
    induction m with
    | nil => exact h0
    | cons x m ih => rw [List.reverse_cons]; exact h1 _ _ ih
  have h := this l.reverse
  rwa [List.reverse_reverse] at h
theorem nf : ∀ l : List Evt, cP l = true → ∀ x : Int, (j9 l).count x + one x 0 + one x 7 ≤ 1 := by
  refine y5 ?_ ?_
  · intro _ x
    by_cases h0 : x = 0
    · subst h0; decide
    · by_cases h7 : x = 7
      · subst h7; decide
      · have a : one x 0 = 0 := if_neg h0
        have b : one x 7 = 0 := if_neg h7
        rw [a, b]; simp [j9]
  · intro l e ih hd x
    obtain ⟨h1, h2⟩ := pq hd
    have hi := ih h1 x
    rw [vR, List.count_append]
    by_cases h13 : e.kind = 13
    · have ef : j9 [e] = [e.n] := by rw [jE h13]; rfl
      rw [ef, List.count_singleton]
      unfold CA at h2
      have b13 : (e.kind == 13) = true := by rw [h13]; rfl
      rw [b13, Bool.true_and, Bool.or_eq_false_iff, Bool.or_eq_false_iff] at h2
      by_cases hx : e.n = x
      · subst hx
        have a : one e.n 0 = 0 := if_neg (by simpa using h2.1)
        have b : one e.n 7 = 0 := if_neg (by simpa using h2.2.1)
        have c : (j9 l).count e.n = 0 := by
          rw [List.count_eq_zero]
          intro hm
          unfold j9 at hm
          obtain ⟨y, hy, hye⟩ := List.mem_map.1 hm
          obtain ⟨hy1, hy2⟩ := List.mem_filter.1 hy
          have h3 := List.any_eq_false.1 h2.2.2 y (by rw [List.take_append_of_le_length (Nat.le_refl _), List.take_length]; exact hy1)
          apply h3
          unfold gU
          have hy2 : (y.kind == 13) = true := hy2
          rw [hy2, hye]
          simp
        rw [a, b, c]
        simp
      · have : (e.n == x) = false := by simpa using hx
        rw [this]
        simpa using hi
    · have ef : j9 [e] = [] := by rw [jN h13]; rfl
      rw [ef]
      simpa using hi
theorem yB {l : List Evt} (hd : cP l = true) (hr : ∀ e ∈ l, R64 e.n) {a b : Nd} (na : NI (PV []) a) (nb : NI (PV []) b) (ia : a.id = 0) (ib : b.id = 1) (da : a.draws = []) (db : b.draws = []) (ma : a.mints = []) (mb : b.mints = []) : CI (j9 l) [] a b := by
  refine ⟨trivial, na, nb, ia, ib, by rw [ma, mb]; exact ⟨by simp, by simp⟩, by rw [ma]; simp, by rw [mb]; simp, fun x => ?_, by rw [da]; simp, by rw [db]; simp, fun x hx => ?_⟩
  · have := nf l hd x
    rw [da, db]
    simpa [oq] using this
  · unfold j9 at hx
    obtain ⟨y, hy, rfl⟩ := List.mem_map.1 hx
    exact hr y (List.mem_filter.1 hy).1
end Go.Dm
namespace Go.Dm
open Go
def Lks (s : Su) : Su → Prop := fun t => t.inc = s.inc ∧ t.v = s.v
theorem uP {d : Dk} {i : Int} {x : ByteArray} (h : (bm d i x).2 = 0) : (bm d i x).1 = { aT d with cache := (aT d).cache ++ [⟨i, x⟩] } ∧ 0 ≤ i ∧ i < (d.sure.length : Int) := by
  unfold bm at h ⊢
  cases h1 : d.dead with
  | true => rw [h1] at h; simp at h
  | false =>
    rw [h1] at h
    cases h2 : (decide (i < 0) || decide (i ≥ (d.sure.length : Int))) with
    | true => rw [h2] at h; simp at h
    | false =>
      rw [h2] at h
      cases h3 : decide ((x.size : Int) > 64) with
      | true => rw [h3] at h; simp at h
      | false =>
        rw [h3] at h
        cases h4 : (aT d).dead with
        | true => rw [h4] at h; simp at h
        | false => simp at h2; exact ⟨rfl, by omega, by omega⟩
theorem w8 {d : Dk} (h : (dT d).2 = 0) : (dT d).1 = { aT d with sure := ju (aT d), cache := [] } := by
  unfold dT at h ⊢
  cases h1 : d.dead with
  | true => rw [h1] at h; simp at h
  | false =>
    rw [h1] at h
    cases h4 : (aT d).dead with
    | true => rw [h4] at h; simp at h
    | false => rfl
theorem rL {P : Su → Prop} {d : Dk} {x : ByteArray} (h1 : (bm d 0 x).2 = 0) (h2 : (dT (bm d 0 x).1).2 = 0) (hx : OkB P x) : OkD P (dT (bm d 0 x).1).1 := by
  obtain ⟨e1, _, hl⟩ := uP h1
  rw [w8 h2, e1]
  refine ⟨?_, by simp⟩
  show OkB P ((ju (aT { aT d with cache := (aT d).cache ++ [⟨0, x⟩] })).getD 0 ⟨#[]⟩)
  have hh : dj (aT { aT d with cache := (aT d).cache ++ [⟨0, x⟩] }) 0 = x := by
    unfold dj
    show List.foldl _ _ ((aT d).cache ++ [⟨0, x⟩]) = x
    rw [List.foldl_append]
    rfl
  unfold ju
  cases hk : (aT { aT d with cache := (aT d).cache ++ [⟨0, x⟩] }).sure.length with
  | zero =>
    exfalso
    have : d.sure.length = 0 := hk
    omega
  | succ k =>
    rw [List.range_succ_eq_map]
    show OkB P (dj (aT { aT d with cache := (aT d).cache ++ [⟨0, x⟩] }) 0)
    rw [hh]
    exact hx
theorem oi {P : Su → Prop} {d : Dk} {s : Su} (h : (cb d s).2 = 0) (hv : VeR s.v) (hs : P s) : OkD P (cb d s).1 := by
  unfold cb at h ⊢
  cases h1 : (!((bn s).2 == 0) || !mV d s) with
  | true => rw [h1] at h; simp at h
  | false =>
    rw [h1] at h
    cases h2 : !((bm d 0 (bn s).1).2 == 0) with
    | true =>
      rw [h2] at h
      exfalso
      have h3 : (bm d 0 (bn s).1).2 = 0 := h
      rw [h3] at h2
      simp at h2
    | false =>
      rw [h2] at h
      exact rL (by simpa using h2) h (rP hv hs)
theorem de {n : Nd} (hx : OkD (Lks n.store.super) n.store.disk) {b : Su} (hv : VeR b.v) :
    ((ac n b).2 = true → ∃ d, OkD (Lks b) d ∧ (ac n b).1 = { n with store := ⟨d, b, n.store.mask⟩ }) ∧
    ((ac n b).2 = false → ∃ m, (ac n b).1 = ch m ∧ OkD (fun t => Lks n.store.super t ∨ Lks b t) m.store.disk) := by
  have hk : OkD (fun t => Lks n.store.super t ∨ Lks b t) (bO n.store b).1.disk := (kS (hx.more fun _ h => Or.inl h) hv (Or.inr ⟨rfl, rfl⟩)).1
  have he : (bO n.store b).2 = 0 → OkD (Lks b) (bO n.store b).1.disk ∧ (bO n.store b).1.super = b ∧ (bO n.store b).1.mask = n.store.mask := by
    unfold bO
    cases h1 : AT b n.store.super with
    | true =>
      have e := (tM _ _).1 h1
      intro _
      rw [e]
      exact ⟨hx, rfl, rfl⟩
    | false =>
      cases h2 : (cb n.store.disk b).2 == 0 with
      | true => intro _; exact ⟨oi (eq_of_beq h2) hv ⟨rfl, rfl⟩, rfl, rfl⟩
      | false =>
        intro h3
        have h3 : (cb n.store.disk b).2 = 0 := h3
        rw [h3] at h2
        simp at h2
  unfold ac
  generalize bO n.store b = x at hk he ⊢
  obtain ⟨⟨d, s, m⟩, e⟩ := x
  simp only at hk he ⊢
  cases h1 : !(e == 0) with
  | true => exact ⟨fun h => absurd h (by simp), fun _ => ⟨_, rfl, hk⟩⟩
  | false =>
    obtain ⟨k1, k2, k3⟩ := he (by simpa using h1)
    subst k2 k3
    exact ⟨fun _ => ⟨d, k1, rfl⟩, fun h => absurd h (by simp)⟩
def yA (d : Dk) (v : Ve) : Prop := ∃ b, (b = d.sure.getD 0 ⟨#[]⟩ ∨ ∃ w ∈ d.cache, w.sec.toNat = 0 ∧ w.data = b) ∧ (cu b).2 = 0 ∧ (cu b).1.inc = false ∧ (cu b).1.v = v
theorem yA.of {P : Su → Prop} {d : Dk} {v : Ve} (hd : OkD P d) (h : yA d v) : ∃ s, P s ∧ s.inc = false ∧ s.v = v := by
  obtain ⟨b, hb, h1, h2, h3⟩ := h
  refine ⟨_, ?_, h2, h3⟩
  rcases hb with rfl | ⟨w, hw, h0, rfl⟩
  · exact hd.1 h1
  · exact hd.2 w hw h0 h1
theorem A7 (d : Dk) : OkD (fun s => s.inc = false → yA d s.v) d :=
  ⟨fun h hi => ⟨_, Or.inl rfl, h, hi, rfl⟩, fun w hw h0 h hi => ⟨_, Or.inr ⟨w, hw, h0, rfl⟩, h, hi, rfl⟩⟩
def Pos (n : Nd) (v : Ve) : Prop := (n.up = true → n.store.super.inc = false ∧ n.store.super.v = v) ∧ (n.up = false → yA n.store.disk v)
def Exa (n : Nd) : Prop := n.up = true → OkD (Lks n.store.super) n.store.disk
structure Vx (Q : Int → Prop) (n m : Nd) : Prop where
  bl : m.up = true → m.store.super.blocks = n.store.super.blocks
  pe : m.up = true → n.state ≠ 1 → m.peer = n.peer
  iv : m.up = true → n.state ≠ 1 → n.store.super.inc = false → m.store.super.inc = false ∧ eN m = eN n
  ex : Exa m
  nw : ∀ v, Pos m v → Pos n v ∨ Q v.cur
theorem Vx.flat {Q : Int → Prop} {n m : Nd} (hx : n.up = true → OkD (Lks n.store.super) m.store.disk) (up : m.up = n.up) (hs : n.up = true → m.store.super.inc = n.store.super.inc ∧ m.store.super.v = n.store.super.v ∧ m.store.super.blocks = n.store.super.blocks) (hd : n.up = false → ∀ v, yA m.store.disk v → yA n.store.disk v) (pe : n.up = true → n.state ≠ 1 → m.peer = n.peer) : Vx Q n m := by
  refine ⟨fun h => (hs (up ▸ h)).2.2, fun h h1 => pe (up ▸ h) h1, fun h _ hi => ?_, fun h => ?_, fun v hv => Or.inl ⟨fun h => ?_, fun h => hd h v (hv.2 (up.trans h))⟩⟩
  · have := hs (up ▸ h)
    exact ⟨this.1.trans hi, by unfold eN; rw [this.2.1]⟩
  · have := hs (up ▸ h)
    refine (hx (up ▸ h)).more fun t ht => ?_
    exact ⟨ht.1.trans this.1.symm, ht.2.trans this.2.1.symm⟩
  · have := hs h
    have h2 := hv.1 (up.trans h)
    exact ⟨this.1.symm.trans h2.1, this.2.1.symm.trans h2.2⟩
theorem Vx.refl {Q : Int → Prop} {n : Nd} (hx : Exa n) : Vx Q n n := Vx.flat hx rfl (fun _ => ⟨rfl, rfl, rfl⟩) (fun _ _ h => h) (fun _ _ => rfl)
theorem Vx.down {Q : Int → Prop} {n m : Nd} {P : Su → Prop} (hu : n.up = true) (hd : OkD P m.store.disk) (hp : ∀ s, P s → s.inc = false → (n.store.super.inc = false ∧ n.store.super.v = s.v) ∨ Q s.v.cur) : Vx Q n (ch m) := by
  refine ⟨fun h => absurd h (by simp [ch]), fun h => absurd h (by simp [ch]), fun h => absurd h (by simp [ch]), fun h => absurd h (by simp [ch]), fun v hv => ?_⟩
  obtain ⟨s, h1, h2, h3⟩ := yA.of (d := (ch m).store.disk) (hd.same rfl rfl) (hv.2 rfl)
  rcases hp s h1 h2 with h4 | h4
  · exact Or.inl ⟨fun _ => ⟨h4.1, h4.2.trans h3⟩, fun h => absurd (hu.symm.trans h) (by simp)⟩
  · exact Or.inr (h3 ▸ h4)
theorem Vx.downOld {Q : Int → Prop} {n m : Nd} (hu : n.up = true) (hd : OkD (Lks n.store.super) m.store.disk) : Vx Q n (ch m) :=
  Vx.down hu hd fun _ hs hi => Or.inl ⟨hs.1.symm.trans hi, hs.2.symm⟩
theorem Vx.com {Q : Int → Prop} {n m : Nd} {d : Dk} {b : Su} (hu : n.up = true) (hd : OkD (Lks b) d) (hs : m.store.disk = d ∧ m.store.super = b) (up : m.up = true) (hb : b.inc = false → (n.store.super.inc = false ∧ n.store.super.v = b.v) ∨ Q b.v.cur) (bl : b.blocks = n.store.super.blocks) (pe : n.state ≠ 1 → m.peer = n.peer) (iv : n.state ≠ 1 → n.store.super.inc = false → b.inc = false ∧ b.v.cur = eN n) : Vx Q n m := by
  refine ⟨fun _ => by rw [hs.2]; exact bl, fun _ => pe, fun _ h1 hi => by unfold eN; rw [hs.2]; exact iv h1 hi, fun _ => by rw [hs.1, hs.2]; exact hd, fun v hv => ?_⟩
  have h := hv.1 up
  rw [hs.2] at h
  rcases hb h.1 with h4 | h4
  · exact Or.inl ⟨fun _ => ⟨h4.1, h4.2.trans h.2⟩, fun h => absurd (hu.symm.trans h) (by simp)⟩
  · exact Or.inr (h.2 ▸ h4)
theorem Vx.comf {Q : Int → Prop} {n : Nd} {b : Su} (hu : n.up = true) (hx : Exa n) (hv : VeR b.v) (hb : b.inc = false → (n.store.super.inc = false ∧ n.store.super.v = b.v) ∨ Q b.v.cur) (h : (ac n b).2 = false) : Vx Q n (ac n b).1 := by
  obtain ⟨m, he, hd⟩ := (de (hx hu) hv).2 h
  rw [he]
  refine Vx.down hu hd fun s hs hi => ?_
  rcases hs with hs | hs
  · exact Or.inl ⟨hs.1.symm.trans hi, hs.2.symm⟩
  · rw [hs.2]; exact hb (hs.1.symm.trans hi)
def DW (m : Nd) (b : ByteArray) : Prop := (bc b).2 = 0 → (bc b).1.kind = 8 → m.up = true ∧ m.state = 4 ∧ m.store.super.inc = false ∧ eN m = m.peer.v.cur
theorem sX {p : Pk} (h : (bc (dF p).1).2 = 0) : (bc (dF p).1).1.kind = p.kind := by
  have h1 := kP h
  cases hr : bA p with
  | false =>
    exfalso
    have h2 : (dF p).1 = ⟨#[]⟩ := by unfold dF; rw [hr]; rfl
    have h3 := congrArg ByteArray.size h1.2.2.2
    rw [h2, ar, aJ] at h3
    omega
  | true =>
    have h2 : (dF p).1 = bK (cd p) := by unfold dF; rw [hr]; rfl
    have h3 := h1.2.2.2
    rw [h2] at h3
    have h4 := lN h3
    rw [← h2, dw, dw] at h4
    have h5 := cg h4 (by simp only [ByteArray.size_append, aq, ap]; rfl)
    have h6 := cg h5.1 (by simp only [aq]; rfl)
    have b1 := (gq hr).kind
    have b2 := (gq h1.1).kind
    rw [jM (by omega), jM (by omega)] at h6
    exact (fc (by omega) (by omega) h6.1).symm
def dp (m : Nd) (l : List Ou) : Prop := ∀ o ∈ l, o.kind = 1 → DW m o.data
theorem dp.nil (m : Nd) : dp m [] := by intro o h; simp at h
theorem dp.cons {m : Nd} {o : Ou} {l : List Ou} (h : o.kind = 1 → DW m o.data) (hl : dp m l) : dp m (o :: l) := by
  intro p hp
  rcases List.mem_cons.1 hp with rfl | hp
  · exact h
  · exact hl p hp
theorem dp.app {m : Nd} {l k : List Ou} (h : dp m l) (hl : dp m k) : dp m (l ++ k) := by
  intro p hp
  rcases List.mem_append.1 hp with hp | hp
  · exact h p hp
  · exact hl p hp
theorem nr (m n : Nd) (id e : Int) (x : ByteArray) : (af n id e x).kind = 1 → DW m (af n id e x).data := fun h => absurd h (by simp [af])
theorem nE (m n : Nd) : (cz n).kind = 1 → DW m (cz n).data := fun h => absurd h (by simp [cz])
theorem qA (m n : Nd) {p : Pk} (h : p.kind ≠ 8) : (aR n p).kind = 1 → DW m (aR n p).data := fun _ h0 h1 => absurd ((sX (p := { p with ses := n.ses }) h0).symm.trans h1) h
theorem dp.re (m n : Nd) (id e : Int) (x : ByteArray) : dp m [af n id e x] := .cons (nr _ _ _ _ _) (.nil _)
theorem dp.se (m n : Nd) {p : Pk} (h : p.kind ≠ 8) : dp m [aR n p] := .cons (qA _ _ h) (.nil _)
def Xs (Q : Int → Prop) (n : Nd) (x : Nd × List Ou) : Prop := Vx Q n x.1 ∧ dp x.1 x.2
end Go.Dm
namespace Go.Dm
open Go
section
variable {V : Bool → Ve → Prop} {Q : Int → Prop}
theorem kc {n : Nd} {b : Bool} {x y : Nd × List Ou} (hx : Xs Q n x) (hy : Xs Q n y) : Xs Q n (bif b then x else y) := by
  cases b
  · exact hy
  · exact hx
theorem mH {n : Nd} {b : Bool} {x y : Nd × List Ou} (hx : b = true → Xs Q n x) (hy : b = false → Xs Q n y) : Xs Q n (bif b then x else y) := by
  cases b
  · exact hy rfl
  · exact hx rfl
theorem fw {n : Nd} (hx : Exa n) (id e : Int) (x : ByteArray) : Xs Q n (n, [af n id e x]) := ⟨Vx.refl hx, dp.re _ _ _ _ _⟩
theorem Vx.sup {n m : Nd} (hx : Exa n) (hu : n.up = true) (hd : m.store.disk = n.store.disk) (hs : m.store.super = n.store.super) (up : m.up = n.up) (pe : n.state ≠ 1 → m.peer = n.peer) : Vx Q n m :=
  Vx.flat (fun h => by rw [hd]; exact hx h) up (fun _ => by rw [hs]; exact ⟨rfl, rfl, rfl⟩) (fun h => absurd (hu.symm.trans h) (by simp)) (fun _ => pe)
theorem Vx.sto {n m : Nd} (hu : n.up = true) (hs : Sk (Lks n.store.super) n.store m.store) (up : m.up = n.up) (pe : m.peer = n.peer) : Vx Q n m :=
  Vx.flat (fun _ => hs.1) up (fun _ => by rw [hs.2]; exact ⟨rfl, rfl, rfl⟩) (fun h => absurd (hu.symm.trans h) (by simp)) (fun _ _ => pe)
theorem mu (hc : Cp V) {n : Nd} (hn : NI V n) (hx : Exa n) (id : Int) : Xs Q n (bT n id) := by
  unfold bT
  refine mH (fun _ => fw hx _ _ _) (fun hu => ?_)
  have hu := nbf hu
  refine kc (fw hx _ _ _) (kc (fw hx _ _ _) (kc (fw hx _ _ _) (kc (fw hx _ _ _) (kc (fw hx _ _ _) (kc ⟨Vx.sup hx hu rfl rfl rfl (fun _ => rfl), dp.se _ _ (by decide)⟩ ?_)))))
  have hv : VeR n.store.super.v := hc.ve _ _ (hn.s hu)
  refine mH (fun h => ⟨Vx.comf hu hx hv (fun hi => Or.inl ⟨hi, rfl⟩) (nbt h), dp.nil _⟩) (fun h => ?_)
  obtain ⟨d, hd, he⟩ := (de (hx hu) (b := { n.store.super with pri := true }) hv).1 (nbf h)
  rw [he]
  exact ⟨Vx.com hu hd ⟨rfl, rfl⟩ hu (fun hi => Or.inl ⟨hi, rfl⟩) rfl (fun _ => rfl) (fun _ hi => ⟨hi, rfl⟩), dp.re _ _ _ _ _⟩
theorem n8 (hc : Cp V) {n : Nd} (hn : NI V n) (hx : Exa n) (id : Int) : Xs Q n (cT n id) := by
  unfold cT
  refine mH (fun _ => fw hx _ _ _) (fun hu => ?_)
  have hu := nbf hu
  refine kc (fw hx _ _ _) (kc (fw hx _ _ _) ?_)
  have hv : VeR n.store.super.v := hc.ve _ _ (hn.s hu)
  refine mH (fun h => ⟨Vx.comf hu hx hv (fun hi => Or.inl ⟨hi, rfl⟩) (nbt h), dp.nil _⟩) (fun h => ?_)
  obtain ⟨d, hd, he⟩ := (de (hx hu) (b := { n.store.super with pri := false }) hv).1 (nbf h)
  rw [he]
  have hm : Vx Q n { ({ n with store := ⟨d, { n.store.super with pri := false }, n.store.mask⟩ } : Nd) with primary := false } := Vx.com hu hd ⟨rfl, rfl⟩ hu (fun hi => Or.inl ⟨hi, rfl⟩) rfl (fun _ => rfl) (fun _ hi => ⟨hi, rfl⟩)
  exact kc ⟨hm, .cons (qA _ _ (by decide)) (dp.re _ _ _ _ _)⟩ ⟨hm, dp.re _ _ _ _ _⟩
theorem mG (hc : Cp V) {n : Nd} (hn : NI V n) (hx : Exa n) (id : Int) : Xs Q n (cG n id) := by
  unfold cG
  refine mH (fun _ => fw hx _ _ _) (fun hu => ?_)
  have hu := nbf hu
  refine kc (fw hx _ _ _) (kc (fw hx _ _ _) ?_)
  have hv : VeR n.store.super.v := hc.ve _ _ (hn.s hu)
  refine mH (fun h => ⟨Vx.comf hu hx hv (fun hi => Or.inl ⟨hi, rfl⟩) (nbt h), dp.nil _⟩) (fun h => ?_)
  obtain ⟨d, hd, he⟩ := (de (hx hu) (b := { n.store.super with dis := true }) hv).1 (nbf h)
  rw [he]
  exact ⟨Vx.com hu hd ⟨rfl, rfl⟩ hu (fun hi => Or.inl ⟨hi, rfl⟩) rfl (fun _ => rfl) (fun _ hi => ⟨hi, rfl⟩), dp.re _ _ _ _ _⟩
theorem qj {n : Nd} (hx : Exa n) (id block : Int) : Xs Q n (fA n id block) := by
  unfold fA
  exact kc (fw hx _ _ _) (kc (fw hx _ _ _) (fw hx _ _ _))
theorem wh {n : Nd} (hx : OkD (Lks n.store.super) n.store.disk) {b : Int} {x : ByteArray} (h : (fE n b x).2 = true) : ∃ s, Sk (Lks n.store.super) n.store s ∧ (fE n b x).1 = { n with store := s } := by
  unfold fE at h ⊢
  cases h1 : (dZ n b).2 with
  | false => rw [h1] at h; simp at h
  | true =>
    rw [h1] at h
    have h2 : (dZ n b).1 = { n with store := (fI n.store b).1 } := d4 h1
    have h3 := lQ hx b
    simp only [Bool.not_true, cond_false] at h ⊢
    rw [d4 h, h2]
    have h4 := iA h3.1 b x
    exact ⟨_, ⟨h4.1, h4.2.trans h3.2⟩, rfl⟩
theorem ye {n : Nd} (hu : n.up = true) (hx : OkD (Lks n.store.super) n.store.disk) {b : Int} {x : ByteArray} (h : (fE n b x).2 = false) : Vx Q n (fE n b x).1 := by
  unfold fE at h ⊢
  have h3 := lQ hx b
  cases h1 : (dZ n b).2 with
  | false =>
    have h2 : (dZ n b).1 = ch { n with store := (fI n.store b).1 } := dN h1
    rw [h2]
    exact Vx.downOld (m := { n with store := (fI n.store b).1 }) hu h3.1
  | true =>
    rw [h1] at h
    have h2 : (dZ n b).1 = { n with store := (fI n.store b).1 } := d4 h1
    simp only [Bool.not_true, cond_false] at h ⊢
    rw [dN h, h2]
    exact Vx.downOld (m := { n with store := (d9 (fI n.store b).1 b x).1 }) hu (iA h3.1 b x).1
theorem qd {n : Nd} (hu : n.up = true) (hx : Exa n) (id block : Int) (x : ByteArray) : Xs Q n (cf n id block x) := by
  unfold cf
  refine mH (fun h => ⟨ye hu (hx hu) (nbt h), dp.nil _⟩) (fun h => ?_)
  obtain ⟨s, hs, he⟩ := wh (hx hu) (nbf h)
  rw [he]
  exact kc ⟨Vx.sto hu hs rfl rfl, dp.re _ _ _ _ _⟩ ⟨Vx.sto hu hs rfl rfl, dp.se _ _ (p := pkd 2 _ _) (by show (2 : Int) ≠ 8; decide)⟩
theorem xe {n : Nd} (hu : n.up = true) (hx : Exa n) (block : Int) (x : ByteArray) : Xs Q n (fN n block x) := by
  unfold fN
  refine mH (fun h => ⟨ye hu (hx hu) (nbt h), dp.nil _⟩) (fun h => ?_)
  obtain ⟨s, hs, he⟩ := wh (hx hu) (nbf h)
  rw [he]
  exact ⟨Vx.sto hu hs rfl rfl, dp.se _ _ (p := pkb 3 _) (by show (3 : Int) ≠ 8; decide)⟩
theorem A8 {n : Nd} (hu : n.up = true) {s : So} (hs : Sk (Lks n.store.super) n.store s) (e : Int) : Vx Q n (d7 n s e).1 := by
  unfold d7
  exact ai (p := fun (x : Nd × Bool) => Vx Q n x.1) (Vx.downOld (m := { n with store := s }) hu hs.1) (Vx.sto hu hs rfl rfl)
theorem sQ {n : Nd} (hu : n.up = true) (hx : Exa n) (block : Int) : Vx Q n (aK n block).1 := A8 hu (iK (hx hu) block) _
theorem vQ {n : Nd} (hu : n.up = true) (hx : Exa n) (block : Int) : Vx Q n (eO n block) := by
  unfold eO
  exact ai (p := fun x => Vx Q n x) (Vx.refl hx) (sQ hu hx block)
theorem xh {n : Nd} (hu : n.up = true) (hx : Exa n) (block : Int) : Xs Q n (e9 n block) := by
  unfold e9
  refine kc ⟨Vx.refl hx, dp.nil _⟩ ?_
  have hw : Sk (Lks n.store.super) n.store (dG n.store block).1 := iK (hx hu) block
  refine mH (fun h => ?_) (fun h => ?_)
  · have he : (aK { n with req := rq0 } block).1 = ch { ({ n with req := rq0 } : Nd) with store := (dG n.store block).1 } := dN (nbt h)
    rw [he]
    exact ⟨Vx.downOld hu hw.1, dp.re _ _ _ _ _⟩
  · have he : (aK { n with req := rq0 } block).1 = { ({ n with req := rq0 } : Nd) with store := (dG n.store block).1 } := d4 (nbf h)
    rw [he]
    exact ⟨Vx.sto hu hw rfl rfl, .cons (nr _ _ _ _ _) (dp.se _ _ (p := pkb 4 _) (by show (4 : Int) ≠ 8; decide))⟩
theorem wx {n : Nd} (hu : n.up = true) (h4 : n.state = 4) (hx : Exa n) (hp : VeR (bF n.peer.v)) : dp (cQ n).1 (cQ n).2 ∧
    ((∃ w s, OkD (Lks s.super) s.disk ∧ (cQ n).1 = { n with wanted := w, store := s } ∧ s.super.blocks = n.store.super.blocks ∧ (s.super = n.store.super ∨ (n.store.super.inc = true ∧ s.super.inc = false ∧ s.super.v = bF n.peer.v))) ∨
    ∃ m, (cQ n).1 = ch m ∧ OkD (fun t => Lks n.store.super t ∨ (n.store.super.inc = true ∧ t.v = bF n.peer.v)) m.store.disk) := by
  unfold cQ
  cases h1 : (!n.store.super.inc || !(n.wanted == 0)) with
  | true => exact ⟨dp.nil _, Or.inl ⟨n.wanted, n.store, hx hu, rfl, rfl, Or.inl rfl⟩⟩
  | false =>
    have hi : n.store.super.inc = true := by simp at h1; exact h1.1
    cases h2 : (jG n.store.mask 0).isSome with
    | true => exact ⟨dp.se _ _ (p := pkb 5 _) (by show (5 : Int) ≠ 8; decide), Or.inl ⟨_, n.store, hx hu, rfl, rfl, Or.inl rfl⟩⟩
    | false =>
      have hk := de (hx hu) (b := gi n) hp
      cases h : (ac n (gi n)).2 with
      | false =>
        obtain ⟨m, k1, k2⟩ := hk.2 h
        simp only [cond_true, cond_false, Bool.not_false]
        refine ⟨dp.nil _, Or.inr ⟨m, k1, k2.more fun t ht => ?_⟩⟩
        rcases ht with ht | ht
        · exact Or.inl ht
        · exact Or.inr ⟨hi, ht.2⟩
      | true =>
        obtain ⟨d, hd, he⟩ := hk.1 h
        simp only [cond_true, cond_false, Bool.not_true]
        rw [he]
        refine ⟨.cons (fun _ _ _ => ⟨hu, h4, rfl, df _⟩) (.nil _), Or.inl ⟨n.wanted, ⟨d, gi n, n.store.mask⟩, hd, rfl, rfl, Or.inr ⟨hi, rfl, rfl⟩⟩⟩
theorem BM (hc : Cp V) {n : Nd} (hn : NI V n) (hu : n.up = true) (h4 : n.state = 4) (hx : Exa n) (block : Int) (x : ByteArray) (hq : n.store.super.inc = true → Q n.peer.v.cur) : Xs Q n (py n block x) := by
  have hp : VeR (bF n.peer.v) := hc.ve _ _ (hc.ret _ _ (hn.p h4))
  unfold py
  refine kc ⟨Vx.refl hx, dp.nil _⟩ ?_
  have hp1 : Sk (Lks n.store.super) n.store (d9 n.store block x).1 := iA (hx hu) block x
  refine mH (fun h => ?_) (fun h => ?_)
  · have he : (dm n block x).1 = ch { n with store := (d9 n.store block x).1 } := dN (nbt h)
    rw [he]
    exact ⟨Vx.downOld (m := { n with store := (d9 n.store block x).1 }) hu hp1.1, dp.nil _⟩
  · have he : (dm n block x).1 = { n with store := (d9 n.store block x).1 } := d4 (nbf h)
    have hw1 := iK hp1.1 block
    have hw : Sk (Lks n.store.super) n.store (dG (d9 n.store block x).1 block).1 := ⟨hw1.1, hw1.2.trans hp1.2⟩
    refine mH (fun h2 => ?_) (fun h2 => ?_)
    · have he3 : (aK (dm n block x).1 block).1 = ch { (dm n block x).1 with store := (dG (dm n block x).1.store block).1 } := dN (nbt h2)
      rw [he3, he]
      exact ⟨Vx.downOld (m := { n with store := (dG (d9 n.store block x).1 block).1 }) hu hw.1, dp.nil _⟩
    · have he3 : (aK (dm n block x).1 block).1 = { (dm n block x).1 with store := (dG (dm n block x).1.store block).1 } := d4 (nbf h2)
      have he4 : iO n block x = { n with store := (dG (d9 n.store block x).1 block).1, wanted := 0 } := by
        unfold iO
        rw [he3, he]
      have hsup : (iO n block x).store.super = n.store.super := by rw [he4]; exact hw.2
      have hex : Exa (iO n block x) := fun _ => by
        rw [hsup, he4]
        exact hw.1
      have hqq := wx (n := iO n block x) (by rw [he4]; exact hu) (by rw [he4]; exact h4) hex (by rw [he4]; exact hp)
      have hpe : (iO n block x).peer = n.peer := by rw [he4]
      rw [hsup, hpe] at hqq
      refine ⟨?_, .app (dp.se _ _ (p := pkb 7 _) (by show (7 : Int) ≠ 8; decide)) hqq.1⟩
      show Vx Q n (cQ (iO n block x)).1
      rcases hqq.2 with ⟨w, s, k1, k2, k3, k4⟩ | ⟨m, k1, k2⟩
      · rw [k2, he4]
        rcases k4 with k4 | ⟨k4, k5, k6⟩
        · exact Vx.sto hu ⟨by rw [← k4]; exact k1, k4⟩ rfl rfl
        · exact Vx.com hu k1 ⟨rfl, rfl⟩ hu (fun _ => Or.inr (by rw [k6, df]; exact hq k4)) k3 (fun _ => rfl) (fun _ hi => by rw [k4] at hi; exact absurd hi (by simp))
      · rw [k1]
        refine Vx.down hu k2 fun s hs hi => ?_
        rcases hs with hs | ⟨hs, hs2⟩
        · exact Or.inl ⟨hs.1.symm.trans hi, hs.2.symm⟩
        · exact Or.inr (by rw [hs2, df]; exact hq hs)
theorem vX (hc : Cp V) {n : Nd} (hn : NI V n) (hu : n.up = true) (hx : Exa n) (hq : Q (eN n)) : Xs Q n (fQ n) := by
  unfold fQ
  have hv : VeR (ck n).v := hc.ve _ _ (hc.ret _ _ (hn.s hu))
  have hb : (ck n).inc = false → (n.store.super.inc = false ∧ n.store.super.v = (ck n).v) ∨ Q (ck n).v.cur := fun _ => Or.inr (by show Q (bF _).cur; rw [df]; exact hq)
  refine mH (fun h => ⟨Vx.comf hu hx hv hb (nbt h), dp.nil _⟩) (fun h => ?_)
  obtain ⟨d, hd, he⟩ := (de (hx hu) hv).1 (nbf h)
  rw [he]
  exact ⟨Vx.com hu hd ⟨rfl, rfl⟩ hu hb rfl (fun _ => rfl) (fun _ hi => ⟨hi, df _⟩), dp.se _ _ (by decide)⟩
theorem wz (hc : Cp V) {n : Nd} (hn : NI V n) (hu : n.up = true) (hx : Exa n) (k : Int) : Xs Q n (dX n k) := by
  unfold dX
  refine kc (kc ⟨Vx.refl hx, dp.se _ _ (by decide)⟩ ⟨Vx.sup hx hu rfl rfl rfl (fun _ => rfl), dp.se _ _ (by decide)⟩) ?_
  refine kc ⟨Vx.sup hx hu rfl rfl rfl (fun _ => rfl), dp.re _ _ _ _ _⟩ ?_
  refine kc ⟨Vx.sup hx hu rfl rfl rfl (fun _ => rfl), dp.nil _⟩ ?_
  have hv : VeR n.store.super.v := hc.ve _ _ (hn.s hu)
  refine mH (fun h => ⟨Vx.comf hu hx hv (fun hi => Or.inl ⟨hi, rfl⟩) (nbt h), dp.nil _⟩) (fun h => ?_)
  obtain ⟨d, hd, he⟩ := (de (hx hu) (b := fM n) hv).1 (nbf h)
  rw [he]
  exact ⟨Vx.com hu hd ⟨rfl, rfl⟩ hu (fun hi => Or.inl ⟨hi, rfl⟩) rfl (fun _ => rfl) (fun _ hi => ⟨hi, rfl⟩), dp.re _ _ _ _ _⟩
theorem Cu (hc : Cp V) {n : Nd} (hn : NI V n) (hu : n.up = true) (h1 : n.state = 1) (hx : Exa n) {h : He} (hh : V h.inc h.v) {v : Vd} (m : BitVec 32) (q1 : v.kind = 1 → Q (eN n)) (q2 : v.kind ≠ 4 → v.kind ≠ 1 → v.src ≠ n.id → Q h.v.cur) : Xs Q n (ka n h v m) := by
  have n1 : ∀ {p : Prop}, n.state ≠ 1 → p := fun h => absurd h1 h
  unfold ka
  refine mH (fun _ => ⟨Vx.refl hx, .cons (nE _ _) (.nil _)⟩) (fun k4 => mH (fun k1 => ?_) (fun k1 => ?_))
  · have hv : VeR (ck n).v := hc.ve _ _ (hc.ret _ _ (hn.s hu))
    have hb : (ck n).inc = false → (n.store.super.inc = false ∧ n.store.super.v = (ck n).v) ∨ Q (ck n).v.cur := fun _ => Or.inr (by show Q (bF _).cur; rw [df]; exact q1 (eq_of_beq k1))
    refine mH (fun hk => ?_) (fun hk => ⟨Vx.comf hu hx hv hb hk, dp.nil _⟩)
    obtain ⟨d, hd, he⟩ := (de (hx hu) hv).1 hk
    rw [he]
    exact ⟨Vx.com hu hd ⟨rfl, rfl⟩ hu hb rfl (fun h => n1 h) (fun h => n1 h), dp.nil _⟩
  · simp at k4 k1
    have hj : Sk (Lks n.store.super) n.store (dK n.store m).1 := oD (hx hu) _
    refine mH (fun hk => ?_) (fun hk => ?_)
    · have he : (eQ n m).1 = ch { n with store := (dK n.store m).1 } := dN (nbt hk)
      rw [he]
      exact ⟨Vx.downOld (m := { n with store := (dK n.store m).1 }) hu hj.1, dp.nil _⟩
    · have he : (eQ n m).1 = { n with store := (dK n.store m).1 } := d4 (nbf hk)
      have hs : (dK n.store m).1.super = n.store.super := hj.2
      refine mH (fun _ => ?_) (fun hsrc => ?_)
      · rw [he]
        exact ⟨Vx.flat (fun _ => hj.1) rfl (fun _ => by show (dK n.store m).1.super.inc = _ ∧ (dK n.store m).1.super.v = _ ∧ (dK n.store m).1.super.blocks = _; rw [hs]; exact ⟨rfl, rfl, rfl⟩) (fun h => absurd (hu.symm.trans h) (by simp)) (fun _ h => n1 h), dp.nil _⟩
      · have hq := q2 k4 k1 (by simpa using hsrc)
        have hv : VeR (jr n h).v := ⟨(hc.ve _ _ (hn.s hu)).1, (hc.ve _ _ hh).1, (hc.ve _ _ (hn.s hu)).2.2⟩
        have hxj : OkD (Lks (eQ n m).1.store.super) (eQ n m).1.store.disk := by
          rw [he]
          show OkD (Lks (dK n.store m).1.super) (dK n.store m).1.disk
          rw [hs]
          exact hj.1
        have hcm := de hxj hv
        refine mH (fun hk2 => ?_) (fun hk2 => ?_)
        · obtain ⟨x, x1, x2⟩ := hcm.2 (nbt hk2)
          rw [x1]
          refine ⟨Vx.down hu x2 fun s hs2 hi => ?_, dp.nil _⟩
          rcases hs2 with hs2 | hs2
          · rw [he] at hs2
            have hs2 : Lks (dK n.store m).1.super s := hs2
            rw [hs] at hs2
            exact Or.inl ⟨hs2.1.symm.trans hi, hs2.2.symm⟩
          · have : s.inc = true := hs2.1
            rw [this] at hi
            exact absurd hi (by simp)
        · obtain ⟨d, hd, he2⟩ := hcm.1 (nbf hk2)
          have he3 : lU (ac (eQ n m).1 (jr n h)).1 h 4 = { n with store := ⟨d, jr n h, (dK n.store m).1.mask⟩, state := 4, peerPri := h.pri, peer := h } := by
            rw [he2, he]
            rfl
          have hp : VeR (bF h.v) := hc.ve _ _ (hc.ret _ _ hh)
          have hqq := wx (n := lU (ac (eQ n m).1 (jr n h)).1 h 4) (by rw [he3]; exact hu) (by rw [he3]) (fun _ => by rw [he3]; exact hd) (by rw [he3]; exact hp)
          refine ⟨?_, hqq.1⟩
          rcases hqq.2 with ⟨w, s, k1, k2, k3, k4⟩ | ⟨x, k1, k2⟩
          · rw [k2, he3]
            rw [he3] at k3 k4
            rcases k4 with k4 | ⟨_, k5, k6⟩
            · exact Vx.com hu k1 ⟨rfl, rfl⟩ hu (fun hi => by rw [k4] at hi; exact absurd hi (show ¬ true = false by simp)) k3 (fun h => n1 h) (fun h => n1 h)
            · exact Vx.com hu k1 ⟨rfl, rfl⟩ hu (fun _ => Or.inr (by rw [k6]; show Q (bF h.v).cur; rw [df]; exact hq)) k3 (fun h => n1 h) (fun h => n1 h)
          · rw [k1]
            rw [he3] at k2
            refine Vx.down hu k2 fun s hs2 hi => ?_
            rcases hs2 with hs2 | ⟨_, hs2⟩
            · have : s.inc = true := hs2.1
              rw [this] at hi
              exact absurd hi (by simp)
            · exact Or.inr (by rw [hs2]; show Q (bF h.v).cur; rw [df]; exact hq)
end
end Go.Dm
