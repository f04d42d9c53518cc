/-
  A part of the proofs over this seat: what its functions make of data (the file in which the theorems stand says what is proved).
-/
import Derived.Test.YtplmfdbiinjccaaDoorLh
namespace Go.Dm
open Go
/-- a mask of 32 bits, as a number -/
abbrev mi (x : BitVec 32) : Int := (x.toNat : Int)
theorem wrap_u32_nat (n : Nat) : IntKind.wrap .u32 (n : Int) = ((n % 4294967296 : Nat) : Int) := by
  unfold IntKind.wrap
  simp [IntKind.signed, IntKind.bits]
theorem mi_bound (x : BitVec 32) : 0 ≤ mi x ∧ mi x < 4294967296 := by
  have := x.isLt
  simp only [mi]
  omega
theorem mi_of {m : Int} (h : (Lit.int .u32 m).wf = true) : ∃ x : BitVec 32, m = mi x := by
  have h2 : 0 ≤ m ∧ m ≤ 4294967295 := by
    simpa [Lit.wf, IntKind.min, IntKind.max, IntKind.signed, IntKind.bits] using h
  refine ⟨BitVec.ofNat 32 m.toNat, ?_⟩
  simp [mi]
  omega
theorem mi_inj {x y : BitVec 32} (h : mi x = mi y) : x = y := by
  apply BitVec.eq_of_toNat_eq
  simp only [mi] at h
  omega
theorem mi_beq (x y : BitVec 32) : (mi x == mi y) = (x == y) := by
  rw [Bool.eq_iff_iff]
  simp only [beq_iff_eq]
  exact ⟨mi_inj, fun h => by rw [h]⟩
def inM (m : Int) (i : Nat) : Bool := (IntKind.wrap .u32 (m.tdiv (2 ^ i))).tmod 2 == 1
theorem inM_bv (x : BitVec 32) (i : Nat) : inM (mi x) i = x.getLsbD i := by
  unfold inM mi
  have e : ((x.toNat : Int)).tdiv (2 ^ i) = ((x.toNat / 2 ^ i : Nat) : Int) := by
    rw [Int.tdiv_eq_ediv_of_nonneg (by omega)]; simp
  rw [e, wrap_u32_nat]
  have hl : x.toNat / 2 ^ i < 4294967296 := Nat.lt_of_le_of_lt (Nat.div_le_self _ _) x.isLt
  rw [Nat.mod_eq_of_lt hl, Int.tmod_eq_emod_of_nonneg (Int.natCast_nonneg _)]
  show _ = Nat.testBit x.toNat i
  rw [Nat.testBit_eq_decide_div_mod_eq, Bool.eq_iff_iff]
  generalize x.toNat / 2 ^ i = q
  simp only [beq_iff_eq, decide_eq_true_eq]
  omega
theorem ior_mi (x y : BitVec 32) : ior .u32 (mi x) (mi y) = mi (x ||| y) := by
  show IntKind.wrap .u32 (((BitVec.ofInt 32 (mi x) ||| BitVec.ofInt 32 (mi y)).toNat : Nat) : Int) = _
  simp only [mi, BitVec.ofInt_natCast, BitVec.ofNat_toNat, BitVec.setWidth_eq]
  rw [wrap_u32_nat, Nat.mod_eq_of_lt (x ||| y).isLt]
theorem iand_mi (x y : BitVec 32) : iand .u32 (mi x) (mi y) = mi (x &&& y) := by
  show IntKind.wrap .u32 (((BitVec.ofInt 32 (mi x) &&& BitVec.ofInt 32 (mi y)).toNat : Nat) : Int) = _
  simp only [mi, BitVec.ofInt_natCast, BitVec.ofNat_toNat, BitVec.setWidth_eq]
  rw [wrap_u32_nat, Nat.mod_eq_of_lt (x &&& y).isLt]
theorem iandn_mi (x y : BitVec 32) : iandn .u32 (mi x) (mi y) = mi (x &&& ~~~y) := by
  show IntKind.wrap .u32 (((BitVec.ofInt 32 (mi x) &&& ~~~BitVec.ofInt 32 (mi y)).toNat : Nat) : Int) = _
  simp only [mi, BitVec.ofInt_natCast, BitVec.ofNat_toNat, BitVec.setWidth_eq]
  rw [wrap_u32_nat, Nat.mod_eq_of_lt (x &&& ~~~y).isLt]
theorem tp_mi {i : Nat} (h : i < 32) : (2 : Int) ^ i = mi (BitVec.twoPow 32 i) := by
  simp only [mi, BitVec.toNat_twoPow]
  rw [Nat.mod_eq_of_lt (Nat.pow_lt_pow_right (by omega) h)]
  simp
/-- a bit more, where it isn't there -/
theorem add_bit {x : BitVec 32} {i : Nat} (h : i < 32) (hx : x.getLsbD i = false) : IntKind.wrap .u32 (mi x + 2 ^ i) = mi (x ||| BitVec.twoPow 32 i) := by
  rw [tp_mi h]
  have e : x ||| BitVec.twoPow 32 i = x + BitVec.twoPow 32 i := by
    rw [BitVec.add_eq_or_of_and_eq_zero]
    apply BitVec.eq_of_getLsbD_eq
    intro j hj
    simp only [BitVec.getLsbD_and, BitVec.getLsbD_twoPow, hj, decide_true, Bool.true_and, BitVec.getLsbD_zero]
    by_cases hji : i = j
    · subst hji; simp [hx]
    · simp [hji]
  rw [e]
  simp only [mi]
  rw [← Int.natCast_add, wrap_u32_nat, BitVec.toNat_add]
/-- a bit less, where it is there -/
theorem sub_bit {x : BitVec 32} {i : Nat} (h : i < 32) (hx : x.getLsbD i = true) : IntKind.wrap .u32 (mi x - 2 ^ i) = mi (x &&& ~~~BitVec.twoPow 32 i) := by
  have hb : (x &&& ~~~BitVec.twoPow 32 i).getLsbD i = false := by simp [h]
  have ha := add_bit h hb
  have e : (x &&& ~~~BitVec.twoPow 32 i) ||| BitVec.twoPow 32 i = x := by
    apply BitVec.eq_of_getLsbD_eq
    intro j hj
    simp only [BitVec.getLsbD_or, BitVec.getLsbD_and, BitVec.getLsbD_not, BitVec.getLsbD_twoPow, hj, decide_true, Bool.true_and]
    by_cases hji : i = j
    · subst hji; simp [hx]
    · simp [hji]
  rw [e] at ha
  rw [tp_mi h] at ha ⊢
  have h1 := mi_bound x
  have h2 := mi_bound (x &&& ~~~BitVec.twoPow 32 i)
  have h3 := mi_bound (BitVec.twoPow 32 i)
  have hle : mi (BitVec.twoPow 32 i) ≤ mi x := by
    simp only [mi, BitVec.toNat_twoPow]
    rw [Nat.mod_eq_of_lt (Nat.pow_lt_pow_right (by omega) h)]
    have : 2 ^ i ≤ x.toNat := Nat.ge_two_pow_of_testBit (by simpa [BitVec.getLsbD] using hx)
    omega
  have w1 : IntKind.wrap .u32 (mi x - mi (BitVec.twoPow 32 i)) = mi x - mi (BitVec.twoPow 32 i) := by
    unfold IntKind.wrap
    simp [IntKind.signed, IntKind.bits]
    omega
  rw [w1]
  unfold IntKind.wrap at ha
  simp [IntKind.signed, IntKind.bits] at ha
  omega
/-- what is in a mask -/
def listB (x : BitVec 32) : List Nat := (List.range 32).filter x.getLsbD
def setB (x : BitVec 32) (l : List Nat) : BitVec 32 := l.foldl (fun m i => m ||| BitVec.twoPow 32 i) x
theorem setB_get : ∀ (l : List Nat) (x : BitVec 32) (j : Nat), j < 32 → (setB x l).getLsbD j = (x.getLsbD j || l.contains j)
  | [], x, j, _ => by simp [setB]
  | i :: l, x, j, hj => by
    have := setB_get l (x ||| BitVec.twoPow 32 i) j hj
    unfold setB at this ⊢
    simp only [List.foldl_cons]
    rw [this]
    simp only [BitVec.getLsbD_or, BitVec.getLsbD_twoPow, List.contains_cons, hj, decide_true, Bool.true_and]
    rw [Bool.or_assoc]
    congr 2
    rw [Bool.eq_iff_iff]
    simp
    omega
theorem setB_listB (x y : BitVec 32) : setB x (listB y) = x ||| y := by
  apply BitVec.eq_of_getLsbD_eq
  intro j hj
  rw [setB_get _ _ _ hj, BitVec.getLsbD_or]
  congr 1
  unfold listB
  rw [Bool.eq_iff_iff]
  simp [hj]
abbrev is (l : List Int) : List (List C) := l.map fun x => [ii x]
abbrev ms (l : List (BitVec 32)) : List (List C) := l.map fun x => [w4 (mi x)]
theorem is_get {l : List Int} {i : Nat} {x : Int} (h : l[i]? = some x) : (is l)[i]? = some [ii x] := by simp [is, h]
theorem is_len (l : List Int) : (is l).length = l.length := by simp [is]
theorem ms_get {l : List (BitVec 32)} {i : Nat} {x : BitVec 32} (h : l[i]? = some x) : (ms l)[i]? = some [w4 (mi x)] := by simp [ms, h]
theorem ms_len (l : List (BitVec 32)) : (ms l).length = l.length := by simp [ms]
theorem two_pow_le {i : Nat} (h : i ≤ 31) : (2 : Int) ^ i ≤ 2147483648 ∧ 0 < (2 : Int) ^ i := by
  have h1 : (2 : Nat) ^ i ≤ 2 ^ 31 := Nat.pow_le_pow_right (by omega) h
  have h2 : 0 < (2 : Nat) ^ i := Nat.pow_pos (by omega)
  have e : ((2 ^ i : Nat) : Int) = (2 : Int) ^ i := by simp
  rw [← e]
  omega
/-- what is in it -/
def listI (x : BitVec 32) : List Int := (listB x).map fun (i : Nat) => (i : Int)
def lsI (x : BitVec 32) (n : Nat) : List Int := ((List.range n).filter x.getLsbD).map fun (i : Nat) => (i : Int)
theorem lsI_succ (x : BitVec 32) (n : Nat) : lsI x (n + 1) = if x.getLsbD n then lsI x n ++ [(n : Int)] else lsI x n := by
  unfold lsI
  rw [List.range_succ, List.filter_append]
  cases hb : x.getLsbD n <;> simp [hb]
theorem lsI_len (x : BitVec 32) (n : Nat) : (lsI x n).length ≤ n := by
  unfold lsI
  rw [List.length_map]
  exact Nat.le_trans (List.length_filter_le _ _) (by simp)
theorem lsI_32 (x : BitVec 32) : lsI x 32 = listI x := rfl
theorem listI_len (x : BitVec 32) : (listI x).length ≤ 32 := lsI_len x 32
def inB (i : Int) : Bool := decide (0 ≤ i) && decide (i < 32)
def hasI (x : BitVec 32) (i : Int) : Bool := inB i && x.getLsbD i.toNat
def bitI (i : Int) : BitVec 32 := if inB i then BitVec.twoPow 32 i.toNat else 0#32
def setI (m : BitVec 32) (l : List Int) : BitVec 32 := l.foldl (fun m x => m ||| bitI x) m
def clrI (m : BitVec 32) (l : List Int) : BitVec 32 := l.foldl (fun m x => m &&& ~~~bitI x) m
def orI (m : BitVec 32) (l : List (BitVec 32)) : BitVec 32 := l.foldl (fun m x => m ||| x) m
def allI (B : Int) : BitVec 32 := if 1 ≤ B ∧ B ≤ 32 then BitVec.ofNat 32 (2 ^ B.toNat - 1) else 0#32
def rightI (x : BitVec 32) (B : Int) : Bool := decide (1 ≤ B) && decide (B ≤ 32) && (x &&& ~~~allI B == 0#32)
def nextI (x : BitVec 32) (f : Int) : Option Int := (listI x).find? fun i => decide (f ≤ i)
theorem setB_eq (x : BitVec 32) : ∀ (l : List Nat), (∀ i ∈ l, i < 32) → ∀ (m : BitVec 32), setI m (l.map fun (i : Nat) => (i : Int)) = setB m l
  | [], _, m => rfl
  | i :: l, h, m => by
    have hi := h i (by simp)
    have hb : bitI (i : Int) = BitVec.twoPow 32 i := by
      unfold bitI inB
      rw [decide_eq_true (by omega : (0 : Int) ≤ i), decide_eq_true (by omega : (i : Int) < 32)]
      simp
    have := setB_eq x l (fun j hj => h j (by simp [hj])) (m ||| BitVec.twoPow 32 i)
    unfold setI setB at this ⊢
    simp only [List.map_cons, List.foldl_cons, hb]
    exact this
theorem setI_listI (x y : BitVec 32) : setI x (listI y) = x ||| y := by
  rw [← setB_listB x y]
  unfold listI
  refine setB_eq x _ (fun i hi => ?_) _
  unfold listB at hi
  simp at hi
  exact hi.1
end Go.Dm
