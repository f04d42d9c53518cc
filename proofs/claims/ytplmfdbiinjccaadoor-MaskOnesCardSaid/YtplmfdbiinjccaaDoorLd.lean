/-
  A part of the proofs over this seat: what its functions make of data (the file in which the theorems stand says what is proved).
-/
import Derived.Test.YtplmfdbiinjccaaDoorLc
namespace Go.Dm
open Go
theorem mi_neg (x : BitVec 32) : IntKind.wrap .u32 (0 - mi x) = mi (-x) := by
  have := x.isLt
  unfold IntKind.wrap
  simp only [mi, BitVec.toNat_neg, IntKind.signed, IntKind.bits]
  simp
  omega
/-- the least bit -/
def low (x : BitVec 32) : Nat := (List.range 32).findIdx x.getLsbD
theorem exists_bit {x : BitVec 32} (h : x ≠ 0#32) : (List.range 32).any x.getLsbD = true := by
  rw [List.any_eq_true]
  apply Classical.byContradiction
  intro hn
  apply h
  apply BitVec.eq_of_getLsbD_eq
  intro i hi
  rw [BitVec.getLsbD_zero]
  cases hb : x.getLsbD i with
  | false => rfl
  | true => exact absurd ⟨i, by simpa using hi, hb⟩ hn
theorem low_spec {x : BitVec 32} (h : x ≠ 0#32) : low x < 32 ∧ x.getLsbD (low x) = true ∧ ∀ j, j < low x → x.getLsbD j = false := by
  have hl := findIdx_lt_of_any (exists_bit h)
  have h1 : low x < 32 := by simpa [low] using hl
  refine ⟨h1, ?_, fun j hj => ?_⟩
  · have := List.findIdx_getElem (w := hl)
    simpa [low] using this
  · have := List.not_of_lt_findIdx (xs := List.range 32) (p := x.getLsbD) (i := j) hj
    simpa using this
theorem ex_iff {x : BitVec 32} (h : x ≠ 0#32) (i : Nat) : (∃ j, j < i ∧ x.getLsbD j = true) ↔ low x < i := by
  obtain ⟨h1, h2, h3⟩ := low_spec h
  constructor
  · rintro ⟨j, hj, hb⟩
    rcases Nat.lt_or_ge j (low x) with g | g
    · rw [h3 j g] at hb; cases hb
    · omega
  · intro hi; exact ⟨low x, hi, h2⟩
theorem and_neg {x : BitVec 32} (h : x ≠ 0#32) : x &&& -x = BitVec.twoPow 32 (low x) := by
  obtain ⟨h1, h2, h3⟩ := low_spec h
  apply BitVec.eq_of_getLsbD_eq
  intro i hi
  rw [BitVec.getLsbD_and, BitVec.getLsbD_neg, BitVec.getLsbD_twoPow]
  have he := ex_iff h i
  simp only [hi, decide_true, Bool.true_and]
  rw [show (decide (∃ j, j < i ∧ x.getLsbD j = true)) = decide (low x < i) from decide_eq_decide.2 he]
  rw [decide_eq_true h1]
  rcases Nat.lt_trichotomy (low x) i with g | g | g
  · rw [decide_eq_true g, decide_eq_false (by omega : ¬ low x = i)]
    cases x.getLsbD i <;> rfl
  · rw [decide_eq_false (by omega : ¬ low x < i), decide_eq_true g, ← g, h2]; rfl
  · rw [h3 i g, decide_eq_false (by omega : ¬ low x = i)]
    cases decide (low x < i) <;> rfl
def nx (x : BitVec 32) : BitVec 32 := x &&& (x - 1#32)
theorem nx_bit {x : BitVec 32} (h : x ≠ 0#32) {i : Nat} (hi : i < 32) : (nx x).getLsbD i = (x.getLsbD i && decide (low x < i)) := by
  have e : x - 1#32 = ~~~(-x) := by rw [BitVec.not_neg, BitVec.sub_eq_add_neg]
  unfold nx
  rw [e, BitVec.getLsbD_and, BitVec.getLsbD_not, BitVec.getLsbD_neg]
  have he := ex_iff h i
  simp only [hi, decide_true, Bool.true_and]
  rw [show (decide (∃ j, j < i ∧ x.getLsbD j = true)) = decide (low x < i) from decide_eq_decide.2 he]
  cases x.getLsbD i <;> cases decide (low x < i) <;> rfl
theorem listB_cons {x : BitVec 32} (h : x ≠ 0#32) : listB x = low x :: listB (nx x) := by
  obtain ⟨h1, h2, h3⟩ := low_spec h
  have hr : List.range 32 = List.range (low x) ++ low x :: List.range' (low x + 1) (31 - low x) := by
    rw [List.range_eq_range', List.range_eq_range', show 32 = low x + (1 + (31 - low x)) by omega, ← List.range'_append_1, Nat.zero_add]
    congr 1
    rw [Nat.add_comm 1, List.range'_succ]
  unfold listB
  rw [hr, List.filter_append, List.filter_append, List.filter_cons, List.filter_cons, h2]
  have e1 : (List.range (low x)).filter x.getLsbD = [] := by
    rw [List.filter_eq_nil_iff]
    intro i hi
    simp at hi
    simp [h3 i hi]
  have e2 : (List.range (low x)).filter (nx x).getLsbD = [] := by
    rw [List.filter_eq_nil_iff]
    intro i hi
    simp at hi
    simp [nx_bit h (show i < 32 by omega), h3 i hi]
  have e3 : (nx x).getLsbD (low x) = false := by rw [nx_bit h h1]; simp
  rw [e1, e2, e3]
  simp only [if_true, List.nil_append, Bool.false_eq_true, if_false]
  congr 1
  apply List.filter_congr
  intro i hi
  simp at hi
  rw [nx_bit h (by omega), decide_eq_true (by omega : low x < i), Bool.and_true]
theorem listI_cons {x : BitVec 32} (h : x ≠ 0#32) : listI x = (low x : Int) :: listI (nx x) := by
  unfold listI; rw [listB_cons h]; rfl
theorem listI_zero : listI 0#32 = [] := by
  unfold listI listB
  rw [List.map_eq_nil_iff, List.filter_eq_nil_iff]
  intro i _
  simp
theorem listI_nil {x : BitVec 32} (h : listI x = []) : x = 0#32 := by
  apply Classical.byContradiction
  intro hn
  rw [listI_cons hn] at h
  cases h
theorem tz_val (x : BitVec 32) (y : Int) (h : iand .u32 (mi x) (IntKind.wrap .u32 (0 - mi x)) = y) (t : Nat) (ht : t < 32) (hy : y = 2 ^ t) : tz_0 x = t ∧ 0 ≤ tzI x ∧ tzI x < 32 := by
  unfold tz_0 tzI
  rw [h, hy]
  clear h hy y x
  match t, ht with
  | 0, _ => decide +kernel | 1, _ => decide +kernel | 2, _ => decide +kernel | 3, _ => decide +kernel
  | 4, _ => decide +kernel | 5, _ => decide +kernel | 6, _ => decide +kernel | 7, _ => decide +kernel
  | 8, _ => decide +kernel | 9, _ => decide +kernel | 10, _ => decide +kernel | 11, _ => decide +kernel
  | 12, _ => decide +kernel | 13, _ => decide +kernel | 14, _ => decide +kernel | 15, _ => decide +kernel
  | 16, _ => decide +kernel | 17, _ => decide +kernel | 18, _ => decide +kernel | 19, _ => decide +kernel
  | 20, _ => decide +kernel | 21, _ => decide +kernel | 22, _ => decide +kernel | 23, _ => decide +kernel
  | 24, _ => decide +kernel | 25, _ => decide +kernel | 26, _ => decide +kernel | 27, _ => decide +kernel
  | 28, _ => decide +kernel | 29, _ => decide +kernel | 30, _ => decide +kernel | 31, _ => decide +kernel
  | n + 32, h => exact absurd h (by omega)
theorem tzL (x : BitVec 32) (hx : (mi x == 0) = false) (k : Nat) : orac PP GL XX HH NN (k + 1) 26 [.c (w4 (mi x))] [] = some ([.c (ii (low x : Int))], []) := by
  have hne : x ≠ 0#32 := fun h => by subst h; simp at hx
  obtain ⟨h1, _, _⟩ := low_spec hne
  have e : iand .u32 (mi x) (IntKind.wrap .u32 (0 - mi x)) = 2 ^ low x := by rw [mi_neg, iand_mi, and_neg hne, tp_mi h1]
  obtain ⟨g1, g2⟩ := tz_val x _ e (low x) h1 rfl
  rw [← g1]
  exact tz x hx g2 k
end Go.Dm
