/-
  A part of the proofs over this seat: what its functions make of data (the file in which the theorems stand says what is proved).
-/
import Derived.Test.YtplmfdbiinjccaaDoorLe
namespace Go.Dm
open Go
theorem shB_bit (x : BitVec 32) (f : Int) {i : Nat} (hi : i < 32) : (shB x f).getLsbD i = (x.getLsbD i && decide (f ≤ (i : Int))) := by
  unfold shB
  rw [BitVec.getLsbD_shiftLeft, BitVec.getLsbD_ushiftRight, decide_eq_true hi, Bool.true_and]
  by_cases h : i < f.toNat
  · rw [decide_eq_true h, decide_eq_false (by omega : ¬ f ≤ (i : Int))]; simp
  · rw [decide_eq_false h, decide_eq_true (by omega : f ≤ (i : Int)), show f.toNat + (i - f.toNat) = i by omega]; simp
theorem listI_shB (x : BitVec 32) (f : Int) : listI (shB x f) = (listI x).filter fun i => decide (f ≤ i) := by
  unfold listI listB
  rw [List.filter_map, List.filter_filter]
  congr 1
  apply List.filter_congr
  intro i hi
  simp at hi
  rw [shB_bit x f hi, Bool.and_comm]
  rfl
theorem nextI_head (x : BitVec 32) (f : Int) : nextI x f = (listI (shB x f)).head? := by
  rw [listI_shB, List.head?_filter]; rfl
theorem listI_lt {x : BitVec 32} {i : Int} (h : i ∈ listI x) : 0 ≤ i ∧ i < 32 ∧ x.getLsbD i.toNat = true := by
  unfold listI listB at h
  simp at h
  obtain ⟨a, ⟨h1, h2⟩, rfl⟩ := h
  exact ⟨by omega, by omega, by simpa using h2⟩
theorem nextP (x : BitVec 32) (f : Int) (k : Nat) : orac PP GL XX HH NN (k + 2) 7 [.c (w4 (mi x)), .c (ii f)] [] = some ([.c (ii ((nextI x f).getD 0)), .c (bo (nextI x f).isSome)], []) := by
  have := nextPa x f (by omega) (by split <;> omega) k
  have e : nextPa_0 x f = (nextI x f).getD 0 ∧ nextPa_1 x f = (nextI x f).isSome := by
    unfold nextPa_0 nextPa_1
    cases h1 : decide (f ≥ 32) with
    | true =>
      have hn : nextI x f = none := by
        unfold nextI
        rw [List.find?_eq_none]
        intro i hi
        have := listI_lt hi
        simp at h1
        simp
        omega
      rw [hn]
      exact ⟨rfl, rfl⟩
    | false =>
      have hs := shE_eq x f h1
      unfold shE at hs
      rw [hs, show (0 : Int) = mi 0#32 from rfl, mi_beq, nextI_head]
      cases hz : shB x f == 0#32 with
      | true => rw [eq_of_beq hz, listI_zero]; exact ⟨rfl, rfl⟩
      | false =>
        rw [listI_cons (by simpa using hz)]
        exact ⟨rfl, rfl⟩
  rw [e.1, e.2] at this
  exact this
/-- so many bits cleared -/
def itN : Nat → BitVec 32 → BitVec 32
  | 0, x => x
  | n + 1, x => nx (itN n x)
theorem listI_itN (x : BitVec 32) : ∀ i, listI (itN i x) = (listI x).drop i
  | 0 => by simp [itN]
  | i + 1 => by
    have ih := listI_itN x i
    rw [itN, ← List.tail_drop, ← ih]
    by_cases h : itN i x = 0#32
    · rw [h, listI_zero, show nx 0#32 = 0#32 by decide, listI_zero]; rfl
    · rw [listI_cons h]; rfl
theorem nx_int (m : BitVec 32) : iand .u32 (mi m) (IntKind.wrap .u32 (mi m - 1)) = mi (nx m) := by
  have e : IntKind.wrap .u32 (mi m - 1) = mi (m - 1#32) := by
    have := m.isLt
    unfold IntKind.wrap
    simp only [mi, BitVec.toNat_sub, IntKind.signed, IntKind.bits]
    simp
    omega
  rw [e, iand_mi]; rfl
theorem L18 (x : BitVec 32) (s : St) (hs : s.head (HH 18 1) = S18 (mi x) []) (k : Nat) : LoopIs (EE (k + 1)) (HH 18) NN (LB PP 18 1) s (.exit 0) (b18_s0 0#32 (is (listI x))) := by
  refine loop_of (nv := 0) (nt := 1) (fun i => S18 (mi (itN i x)) (is ((listI x).take i))) (listI x).length (by rw [show firstRegion (LB PP 18 1) = 1 by kernel_rfl]; exact hs) (by kernel_rfl) (by kernel_rfl) (fun i hi => ?_) ?_ (by have := listI_len x; unfold NN; omega)
  · have hd := listI_itN x i
    have hne : itN i x ≠ 0#32 := fun h => by
      rw [h, listI_zero] at hd
      have := congrArg List.length hd
      simp at this
      omega
    have hlow : (listI x)[i]? = some (low (itN i x) : Int) := by
      rw [listI_cons hne] at hd
      have := congrArg (fun l => l[0]?) hd
      simpa using this.symm
    have hlen : (is ((listI x).take i)).length ≤ 32 := by
      rw [is_len, List.length_take]
      have := listI_len x
      omega
    have := b18_1 (itN i x) (is ((listI x).take i)) hlen k (by rw [show (0 : Int) = mi 0#32 from rfl, mi_beq]; simpa using hne)
    rw [nx_int] at this
    show NextIs _ _ _ _ _ _ _ (S18 (mi (itN (i + 1) x)) (is ((listI x).take (i + 1))))
    rw [List.take_add_one, hlow]
    simpa [is, itN] using this
  · have hd := listI_itN x (listI x).length
    rw [List.drop_length] at hd
    have hz := listI_nil hd
    show OutIs _ _ _ _ (S18 (mi (itN (listI x).length x)) _) _ _
    rw [hz, List.take_length]
    exact b18_0 0#32 _ k rfl
theorem listP (x : BitVec 32) (k : Nat) : orac PP GL XX HH NN (k + 2) 18 [A.c (w4 (mi x))] [] = some ([Res.top 1 (is (listI x))], []) := by
  exact (orac_fn (show PP.funcs[18]? = some _ from rfl) (show XX 18 = none from rfl) (rs := [Res.top 1 (is (listI x))]) (ims' := []) (gs := [G.loop (Ext.exit 0) (St.mk [tc (w4 0), T.hole, T.k (K.v (V.own 1 (is (listI x)) (Tk.tok 0))), tc (w4 0), tc (bo false), T.hole, T.hole, T.hole, T.hole, T.hole, T.hole, T.hole, T.hole, T.hole, T.hole] [] [List.length (is (listI x))])]) (ps := [LoopIs (Env.mk PP (orac PP GL XX HH NN (k + (1 : Nat))) GL) (HH (18 : Nat)) NN (LB PP (18 : Nat) (1 : Nat)) (St.mk [tc (w4 (mi x)), T.skip, T.k (K.v (V.own (0 : Nat) [] Tk.exact)), T.skip, T.skip, T.skip, T.skip, T.skip, T.skip, T.skip, T.skip, T.skip, T.skip, T.skip, T.skip] [] []) (Ext.exit (0 : Nat)) (St.mk [tc (w4 (0 : Int)), T.hole, T.k (K.v (V.own (1 : Nat) (is (listI x)) (Tk.tok (0 : Nat)))), tc (w4 (0 : Int)), tc (bo false), T.hole, T.hole, T.hole, T.hole, T.hole, T.hole, T.hole, T.hole, T.hole, T.hole] [] [List.length (is (listI x))]), List.length (is (listI x)) = List.length (is (listI x))]) (by kernel_rfl) ⟨(L18 _ _ (by kernel_rfl) _), (by first | rfl | assumption | omega | decide | simp_all), trivial⟩)
/-- ones -/
theorem pc_byte : ∀ n : Nat, n < 256 → (pcU n).toNat = ((List.range 8).filter fun i => n.testBit i).length := by decide +kernel
theorem len_split (p : Nat → Bool) : ((List.range 32).filter p).length = ((List.range 8).filter fun i => p (24 + i)).length + ((List.range 8).filter fun i => p (16 + i)).length + ((List.range 8).filter fun i => p (8 + i)).length + ((List.range 8).filter p).length := by
  have e : List.range 32 = List.range 8 ++ (List.range 8).map (8 + ·) ++ (List.range 8).map (16 + ·) ++ (List.range 8).map (24 + ·) := by decide
  rw [e]
  simp only [List.filter_append, List.length_append, List.filter_map, List.length_map]
  simp only [Function.comp_def]
  omega
theorem byte_bits (n sh : Nat) : ((List.range 8).filter fun i => (n / 2 ^ sh % 256).testBit i) = (List.range 8).filter fun i => n.testBit (sh + i) := by
  apply List.filter_congr
  intro i hi
  simp at hi
  rw [show (256 : Nat) = 2 ^ 8 from rfl, Nat.testBit_mod_two_pow, Nat.testBit_div_two_pow]
  simp [hi, Nat.add_comm]
theorem iand255 (x : BitVec 32) (sh : Nat) : iand .u32 (Int.fdiv (mi x) (2 ^ sh)) 255 = ((x.toNat / 2 ^ sh % 256 : Nat) : Int) := by
  have e1 : Int.fdiv (mi x) (2 ^ sh) = mi (x >>> sh) := by
    simp only [mi, BitVec.toNat_ushiftRight, Nat.shiftRight_eq_div_pow]
    rw [Int.fdiv_eq_ediv_of_nonneg _ (Int.le_of_lt (Int.pow_pos (by omega)))]
    simp
  rw [e1, show (255 : Int) = mi 255#32 from rfl, iand_mi]
  simp only [mi, BitVec.toNat_and, BitVec.toNat_ushiftRight, Nat.shiftRight_eq_div_pow]
  rw [show (255#32).toNat = 2 ^ 8 - 1 from rfl, Nat.and_two_pow_sub_one_eq_mod]
theorem pc_le (n : Nat) (h : n < 256) : (pcU n).toNat ≤ 8 := by
  rw [pc_byte n h]
  exact Nat.le_trans (List.length_filter_le _ _) (by simp)
theorem onesP (x : BitVec 32) (k : Nat) : orac PP GL XX HH NN (k + 1) 29 [.c (w4 (mi x))] [] = some ([.c (ii ((is (listI x)).length : Int))], []) := by
  have h3 : Int.fdiv (mi x) 16777216 = ((x.toNat / 2 ^ 24 : Nat) : Int) := by
    rw [Int.fdiv_eq_ediv_of_nonneg _ (by omega)]; simp [mi]
  have h2 := iand255 x 16
  have h1 := iand255 x 8
  have h0 := iand255 x 0
  rw [show (2 : Int) ^ 16 = 65536 from rfl] at h2
  rw [show (2 : Int) ^ 8 = 256 from rfl] at h1
  rw [show (2 : Int) ^ 0 = 1 from rfl, show Int.fdiv (mi x) 1 = mi x by rw [Int.fdiv_eq_ediv_of_nonneg _ (by omega)]; simp] at h0
  have hx := x.isLt
  have b3 : x.toNat / 2 ^ 24 < 256 := by omega
  have := ones x (by rw [h3]; omega) (by rw [h3, Int.toNat_natCast]; exact b3) (by rw [h2]; omega) (by rw [h2, Int.toNat_natCast]; omega) (by rw [h1]; omega) (by rw [h1, Int.toNat_natCast]; omega) (by rw [h0]; omega) (by rw [h0, Int.toNat_natCast]; omega) k
  rw [h3, h2, h1, h0] at this
  simp only [Int.toNat_natCast] at this
  have l3 := pc_le _ b3
  have l2 := pc_le (x.toNat / 2 ^ 16 % 256) (by omega)
  have l1 := pc_le (x.toNat / 2 ^ 8 % 256) (by omega)
  have l0 := pc_le (x.toNat / 2 ^ 0 % 256) (by omega)
  have e : (listI x).length = (pcU (x.toNat / 2 ^ 24)).toNat + (pcU (x.toNat / 2 ^ 16 % 256)).toNat + (pcU (x.toNat / 2 ^ 8 % 256)).toNat + (pcU (x.toNat / 2 ^ 0 % 256)).toNat := by
    unfold listI listB
    rw [List.length_map, len_split, pc_byte _ b3, pc_byte _ (by omega), pc_byte _ (by omega), pc_byte _ (by omega), byte_bits, byte_bits, byte_bits]
    have e3 : x.toNat / 2 ^ 24 = x.toNat / 2 ^ 24 % 256 := by omega
    rw [e3, byte_bits]
    simp only [Nat.zero_add]
    rfl
  rw [is_len, e]
  have w8 : ∀ y : Int, 0 ≤ y → y < 256 → IntKind.wrap .u8 y = y := fun y h1 h2 => by
    unfold IntKind.wrap
    simp [IntKind.signed, IntKind.bits]
    omega
  generalize (pcU (x.toNat / 2 ^ 24)).toNat = p3 at *
  generalize (pcU (x.toNat / 2 ^ 16 % 256)).toNat = p2 at *
  generalize (pcU (x.toNat / 2 ^ 8 % 256)).toNat = p1 at *
  generalize (pcU (x.toNat / 2 ^ 0 % 256)).toNat = p0 at *
  rw [w8 ((p3 : Int) + p2) (by omega) (by omega), w8 ((p3 : Int) + p2 + p1) (by omega) (by omega), w8 ((p3 : Int) + p2 + p1 + p0) (by omega) (by omega), wrap_i64 (by omega) (by omega)] at this
  rw [this]
  simp
theorem countP (x : BitVec 32) (k : Nat) : orac PP GL XX HH NN (k + 2) 15 [A.c (w4 (mi x))] [] = some ([Res.c (ii (↑(List.length (is (listI x))) : Int))], []) := by
  exact (orac_fn (show PP.funcs[15]? = some _ from rfl) (show XX 15 = none from rfl) (rs := [Res.c (ii (↑(List.length (is (listI x))) : Int))]) (ims' := []) (gs := [G.call [Res.c (ii (↑(List.length (is (listI x))) : Int))] []]) (ps := [orac PP GL XX HH NN (k + 1) 29 [A.c (w4 (mi x))] [] = some ([Res.c (ii (↑(List.length (is (listI x))) : Int))], [])]) (by kernel_rfl) ⟨(onesP _ _), trivial⟩)
end Go.Dm
