/-
  A part of the proofs over this seat: what its functions make of data (the file in which the theorems stand says what is proved).
-/
import Derived.Test.YtlmhcmlbnbgaaaaLm
namespace Go.Dm
open Go
/-- a mask of 32 bits, as a number -/
abbrev mi (x : BitVec 32) : Int := (x.toNat : Int)
theorem wrap_u32_nat (n : Nat) : IntKind.wrap .u32 (n : Int) = ((n % 4294967296 : Nat) : Int) := by
  unfold IntKind.wrap
  simp [IntKind.signed, IntKind.bits]
theorem mi_bound (x : BitVec 32) : 0 ≤ mi x ∧ mi x < 4294967296 := by
  have := x.isLt
  simp only [mi]
  omega
theorem mi_of {m : Int} (h : (Lit.int .u32 m).wf = true) : ∃ x : BitVec 32, m = mi x := by
  have h2 : 0 ≤ m ∧ m ≤ 4294967295 := by
    simpa [Lit.wf, IntKind.min, IntKind.max, IntKind.signed, IntKind.bits] using h
  refine ⟨BitVec.ofNat 32 m.toNat, ?_⟩
  simp [mi]
  omega
theorem mi_inj {x y : BitVec 32} (h : mi x = mi y) : x = y := by
  apply BitVec.eq_of_toNat_eq
  simp only [mi] at h
  omega
theorem mi_beq (x y : BitVec 32) : (mi x == mi y) = (x == y) := by
  rw [Bool.eq_iff_iff]
  simp only [beq_iff_eq]
  exact ⟨mi_inj, fun h => by rw [h]⟩
theorem inM_bv (x : BitVec 32) (i : Nat) : inM (mi x) i = x.getLsbD i := by
  unfold inM mi
  have e : ((x.toNat : Int)).tdiv (2 ^ i) = ((x.toNat / 2 ^ i : Nat) : Int) := by
    rw [Int.tdiv_eq_ediv_of_nonneg (by omega)]; simp
  rw [e, wrap_u32_nat]
  have hl : x.toNat / 2 ^ i < 4294967296 := Nat.lt_of_le_of_lt (Nat.div_le_self _ _) x.isLt
  rw [Nat.mod_eq_of_lt hl, Int.tmod_eq_emod_of_nonneg (Int.natCast_nonneg _)]
  show _ = Nat.testBit x.toNat i
  rw [Nat.testBit_eq_decide_div_mod_eq, Bool.eq_iff_iff]
  generalize x.toNat / 2 ^ i = q
  simp only [beq_iff_eq, decide_eq_true_eq]
  omega
theorem ior_mi (x y : BitVec 32) : ior .u32 (mi x) (mi y) = mi (x ||| y) := by
  show IntKind.wrap .u32 (((BitVec.ofInt 32 (mi x) ||| BitVec.ofInt 32 (mi y)).toNat : Nat) : Int) = _
  simp only [mi, BitVec.ofInt_natCast, BitVec.ofNat_toNat, BitVec.setWidth_eq]
  rw [wrap_u32_nat, Nat.mod_eq_of_lt (x ||| y).isLt]
theorem iand_mi (x y : BitVec 32) : iand .u32 (mi x) (mi y) = mi (x &&& y) := by
  show IntKind.wrap .u32 (((BitVec.ofInt 32 (mi x) &&& BitVec.ofInt 32 (mi y)).toNat : Nat) : Int) = _
  simp only [mi, BitVec.ofInt_natCast, BitVec.ofNat_toNat, BitVec.setWidth_eq]
  rw [wrap_u32_nat, Nat.mod_eq_of_lt (x &&& y).isLt]
theorem iandn_mi (x y : BitVec 32) : iandn .u32 (mi x) (mi y) = mi (x &&& ~~~y) := by
  show IntKind.wrap .u32 (((BitVec.ofInt 32 (mi x) &&& ~~~BitVec.ofInt 32 (mi y)).toNat : Nat) : Int) = _
  simp only [mi, BitVec.ofInt_natCast, BitVec.ofNat_toNat, BitVec.setWidth_eq]
  rw [wrap_u32_nat, Nat.mod_eq_of_lt (x &&& ~~~y).isLt]
theorem tp_mi {i : Nat} (h : i < 32) : (2 : Int) ^ i = mi (BitVec.twoPow 32 i) := by
  simp only [mi, BitVec.toNat_twoPow]
  rw [Nat.mod_eq_of_lt (Nat.pow_lt_pow_right (by omega) h)]
  simp
/-- a bit more, where it isn't there -/
theorem add_bit {x : BitVec 32} {i : Nat} (h : i < 32) (hx : x.getLsbD i = false) : IntKind.wrap .u32 (mi x + 2 ^ i) = mi (x ||| BitVec.twoPow 32 i) := by
  rw [tp_mi h]
  have e : x ||| BitVec.twoPow 32 i = x + BitVec.twoPow 32 i := by
    rw [BitVec.add_eq_or_of_and_eq_zero]
    apply BitVec.eq_of_getLsbD_eq
    intro j hj
    simp only [BitVec.getLsbD_and, BitVec.getLsbD_twoPow, hj, decide_true, Bool.true_and, BitVec.getLsbD_zero]
    by_cases hji : i = j
    · subst hji; simp [hx]
    · simp [hji]
  rw [e]
  simp only [mi]
  rw [← Int.natCast_add, wrap_u32_nat, BitVec.toNat_add]
/-- a bit less, where it is there -/
theorem sub_bit {x : BitVec 32} {i : Nat} (h : i < 32) (hx : x.getLsbD i = true) : IntKind.wrap .u32 (mi x - 2 ^ i) = mi (x &&& ~~~BitVec.twoPow 32 i) := by
  have hb : (x &&& ~~~BitVec.twoPow 32 i).getLsbD i = false := by simp [h]
  have ha := add_bit h hb
  have e : (x &&& ~~~BitVec.twoPow 32 i) ||| BitVec.twoPow 32 i = x := by
    apply BitVec.eq_of_getLsbD_eq
    intro j hj
    simp only [BitVec.getLsbD_or, BitVec.getLsbD_and, BitVec.getLsbD_not, BitVec.getLsbD_twoPow, hj, decide_true, Bool.true_and]
    by_cases hji : i = j
    · subst hji; simp [hx]
    · simp [hji]
  rw [e] at ha
  rw [tp_mi h] at ha ⊢
  have h1 := mi_bound x
  have h2 := mi_bound (x &&& ~~~BitVec.twoPow 32 i)
  have h3 := mi_bound (BitVec.twoPow 32 i)
  have hle : mi (BitVec.twoPow 32 i) ≤ mi x := by
    simp only [mi, BitVec.toNat_twoPow]
    rw [Nat.mod_eq_of_lt (Nat.pow_lt_pow_right (by omega) h)]
    have : 2 ^ i ≤ x.toNat := Nat.ge_two_pow_of_testBit (by simpa [BitVec.getLsbD] using hx)
    omega
  have w1 : IntKind.wrap .u32 (mi x - mi (BitVec.twoPow 32 i)) = mi x - mi (BitVec.twoPow 32 i) := by
    unfold IntKind.wrap
    simp [IntKind.signed, IntKind.bits]
    omega
  rw [w1]
  unfold IntKind.wrap at ha
  simp [IntKind.signed, IntKind.bits] at ha
  omega
/-- what is in a mask -/
def listB (x : BitVec 32) : List Nat := (List.range 32).filter x.getLsbD
def setB (x : BitVec 32) (l : List Nat) : BitVec 32 := l.foldl (fun m i => m ||| BitVec.twoPow 32 i) x
theorem setB_get : ∀ (l : List Nat) (x : BitVec 32) (j : Nat), j < 32 → (setB x l).getLsbD j = (x.getLsbD j || l.contains j)
  | [], x, j, _ => by simp [setB]
  | i :: l, x, j, hj => by
    have := setB_get l (x ||| BitVec.twoPow 32 i) j hj
    unfold setB at this ⊢
    simp only [List.foldl_cons]
    rw [this]
    simp only [BitVec.getLsbD_or, BitVec.getLsbD_twoPow, List.contains_cons, hj, decide_true, Bool.true_and]
    rw [Bool.or_assoc]
    congr 2
    rw [Bool.eq_iff_iff]
    simp
    omega
theorem setB_listB (x y : BitVec 32) : setB x (listB y) = x ||| y := by
  apply BitVec.eq_of_getLsbD_eq
  intro j hj
  rw [setB_get _ _ _ hj, BitVec.getLsbD_or]
  congr 1
  unfold listB
  rw [Bool.eq_iff_iff]
  simp [hj]
/-! ### Loops over a list -/
theorem fold_loop {E : Env} {H : Nat → LoopHint} {n : Nat} {b : Code} {s : St} {α σ : Type} (r : Nat) (hr : firstRegion b = r) (S : σ → Nat → St) (P : Nat → σ → Prop) (l : List α) (g : σ → α → σ) (a0 : σ) {nv nt : Nat} {e : Ext} {t : σ → St}
    (hs : s.head (H r) = S a0 0) (hv : (S a0 0).vars.length = nv) (ht : (S a0 0).toks.length = nt) (hP : P 0 a0)
    (step : ∀ a i x, l[i]? = some x → P i a → NextIs E H n b nv nt (S a i) (S (g a x) (i + 1)) ∧ P (i + 1) (g a x))
    (last : P l.length (l.foldl g a0) → OutIs E H n b (S (l.foldl g a0) l.length) e (t (l.foldl g a0))) (hn : l.length < n) : LoopIs E H n b s e (t (l.foldl g a0)) := by
  have hall : ∀ i, i ≤ l.length → P i ((l.take i).foldl g a0) := by
    intro i
    induction i with
    | zero => intro _; simpa using hP
    | succ i ih =>
      intro hi
      have hx : l[i]? = some l[i] := List.getElem?_eq_getElem (by omega)
      have := (step _ i _ hx (ih (by omega))).2
      rwa [List.take_add_one, hx, List.foldl_append]
  refine loop_of (nv := nv) (nt := nt) (fun i => S ((l.take i).foldl g a0) i) l.length (by rw [hr]; simpa using hs) (by simpa using hv) (by simpa using ht) (fun i hi => ?_) ?_ hn
  · have hx : l[i]? = some l[i] := List.getElem?_eq_getElem hi
    have := (step _ i _ hx (hall i (by omega))).1
    rw [List.take_add_one, hx, List.foldl_append]
    exact this
  · rw [List.take_length]
    exact last (by have := hall l.length (by omega); rwa [List.take_length] at this)

theorem find_hit {E : Env} {H : Nat → LoopHint} {n : Nat} {b : Code} {s : St} {α : Type} (r : Nat) (hr : firstRegion b = r) (S : Nat → St) (l : List α) (p : α → Bool) {nv nt : Nat} {e : Ext} {t : St}
    (hs : s.head (H r) = S 0) (hv : (S 0).vars.length = nv) (ht : (S 0).toks.length = nt)
    (step : ∀ i x, l[i]? = some x → p x = false → NextIs E H n b nv nt (S i) (S (i + 1)))
    (hit : ∀ x, l[l.findIdx p]? = some x → p x = true → OutIs E H n b (S (l.findIdx p)) e t) (hj : l.findIdx p < l.length) (hn : l.length < n) : LoopIs E H n b s e t := by
  refine loop_of (nv := nv) (nt := nt) S (l.findIdx p) (by rw [hr]; exact hs) hv ht (fun i hi => ?_) ?_ (by omega)
  · have hx : l[i]? = some l[i] := List.getElem?_eq_getElem (by omega)
    exact step i _ hx (by have := List.not_of_lt_findIdx hi; simpa using this)
  · have hx : l[l.findIdx p]? = some l[l.findIdx p] := List.getElem?_eq_getElem hj
    exact hit _ hx (List.findIdx_getElem (w := hj))

theorem find_miss {E : Env} {H : Nat → LoopHint} {n : Nat} {b : Code} {s : St} {α : Type} (r : Nat) (hr : firstRegion b = r) (S : Nat → St) (l : List α) (p : α → Bool) {nv nt : Nat} {e : Ext} {t : St}
    (hs : s.head (H r) = S 0) (hv : (S 0).vars.length = nv) (ht : (S 0).toks.length = nt)
    (step : ∀ i x, l[i]? = some x → p x = false → NextIs E H n b nv nt (S i) (S (i + 1)))
    (miss : OutIs E H n b (S l.length) e t) (hj : l.all (fun x => !p x) = true) (hn : l.length < n) : LoopIs E H n b s e t := by
  refine loop_of (nv := nv) (nt := nt) S l.length (by rw [hr]; exact hs) hv ht (fun i hi => ?_) miss hn
  have hx : l[i]? = some l[i] := List.getElem?_eq_getElem hi
  refine step i _ hx ?_
  have := List.all_eq_true.1 hj l[i] (List.getElem_mem hi)
  simpa using this
theorem findIdx_lt_of_any {α : Type} {l : List α} {p : α → Bool} (h : l.any p = true) : l.findIdx p < l.length := by
  rw [List.findIdx_lt_length]
  simpa using h
theorem all_of_any {α : Type} {l : List α} {p : α → Bool} (h : l.any p = false) : l.all (fun x => !p x) = true := by
  rw [List.all_eq_true]
  intro x hx
  rw [List.any_eq_false] at h
  have := h x hx
  simpa using this
end Go.Dm
