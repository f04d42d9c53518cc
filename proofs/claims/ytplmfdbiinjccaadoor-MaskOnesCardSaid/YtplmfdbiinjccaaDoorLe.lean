/-
  A part of the proofs over this seat: what its functions make of data (the file in which the theorems stand says what is proved).
-/
import Derived.Test.YtplmfdbiinjccaaDoorLd
namespace Go.Dm
open Go
theorem inB_iff {i : Int} : inB i = true ↔ 0 ≤ i ∧ i < 32 := by unfold inB; simp
theorem shl1 {n : Nat} (h : n < 32) : IntKind.wrap .u32 (1 * 2 ^ min n 32) = mi (BitVec.twoPow 32 n) := by
  rw [show min n 32 = n by omega, Int.one_mul, tp_mi h]
  have := mi_bound (BitVec.twoPow 32 n)
  unfold IntKind.wrap
  simp [IntKind.signed, IntKind.bits]
  omega
theorem wrap_id {y : Int} (h1 : 0 ≤ y) (h2 : y < 4294967296) : IntKind.wrap .u32 y = y := by
  unfold IntKind.wrap
  simp [IntKind.signed, IntKind.bits]
  omega
theorem allPr (B : Int) (hb : -9223372036854775808 ≤ B ∧ B ≤ 9223372036854775807) (k : Nat) : orac PP GL XX HH NN (k + 2) 13 [.c (ii B)] [] = some ([.c (w4 (mi (allI B)))], []) := by
  unfold allI
  have hw : inB (IntKind.wrap .i64 (B - 1)) = (decide (1 ≤ B) && decide (B ≤ 32)) := by
    by_cases hm : B = -9223372036854775808
    · subst hm; decide
    · rw [wrap_i64 (by omega) (by omega)]
      unfold inB
      rw [Bool.eq_iff_iff]
      simp
      omega
  by_cases h : 1 ≤ B ∧ B ≤ 32
  · rw [if_pos h, ← pow_all (by omega)]
    have := allPa B (by omega) (by rw [hw]; simp [h]) k
    have e : IntKind.wrap .u32 (IntKind.wrap .u32 (1 * 2 ^ min B.toNat 32) - 1) = 2 ^ B.toNat - 1 := by
      rw [show min B.toNat 32 = B.toNat by omega, Int.one_mul]
      rcases Nat.lt_or_ge B.toNat 32 with g | g
      · have g2 := two_pow_le (i := B.toNat) (by omega)
        rw [wrap_id (y := 2 ^ B.toNat) (by omega) (by omega), wrap_id (by omega) (by omega)]
      · rw [show B.toNat = 32 by omega]; decide
    rwa [e] at this
  · rw [if_neg h]
    exact allPb B (by rw [hw]; simp; omega) k
theorem hasP (x : BitVec 32) (i : Int) (k : Nat) : orac PP GL XX HH NN (k + 2) 9 [.c (w4 (mi x)), .c (ii i)] [] = some ([.c (bo (hasI x i))], []) := by
  unfold hasI
  cases hb : inB i with
  | false => rw [Bool.false_and]; exact hasPb x i hb k
  | true =>
    obtain ⟨h1, h2⟩ := inB_iff.1 hb
    have := hasPa x i h1 hb k
    rw [Bool.true_and]
    have e : (iand .u32 (Int.fdiv (mi x) (2 ^ min i.toNat 32)) 1 == 1) = x.getLsbD i.toNat := by
      rw [show min i.toNat 32 = i.toNat by omega]
      have e1 : Int.fdiv (mi x) (2 ^ i.toNat) = mi (x >>> i.toNat) := by
        simp only [mi, BitVec.toNat_ushiftRight, Nat.shiftRight_eq_div_pow]
        rw [Int.fdiv_eq_ediv_of_nonneg _ (Int.le_of_lt (Int.pow_pos (by omega)))]
        simp
      rw [e1, show (1 : Int) = mi 1#32 from rfl, iand_mi, mi_beq]
      rw [Bool.eq_iff_iff, beq_iff_eq]
      constructor
      · intro h
        have := congrArg (fun b : BitVec 32 => b.getLsbD 0) h
        simp at this
        simpa [BitVec.getLsbD] using this
      · intro h
        apply BitVec.eq_of_getLsbD_eq
        intro j hj
        rw [BitVec.getLsbD_and, BitVec.getLsbD_ushiftRight]
        cases j with
        | zero => simp [h]
        | succ j => simp [BitVec.getLsbD_one]
    rwa [e] at this
theorem orb (m : BitVec 32) {x : Int} (h : inB x = true) : ior .u32 (mi m) (IntKind.wrap .u32 (1 * 2 ^ min x.toNat 32)) = mi (m ||| bitI x) := by
  obtain ⟨e, hlt, _⟩ := bitI_in h
  rw [shl1 hlt, ior_mi, e]
theorem L30 (l : List Int) (hl : l.length < 9223372036854775808) (s : St) (hs : s.head (HH 30 2) = S30 l 0 0) (k : Nat) : LoopIs (EE (k + 2)) (HH 30) NN (LB PP 30 2) s (.exit 0) (b30_s2 l (setI 0#32 l) l.length) := by
  refine fold_loop (E := EE (k + 2)) (H := HH 30) (n := NN) (b := LB PP 30 2) (s := s) 2 (by kernel_rfl) (fun (m : BitVec 32) (i : Nat) => S30 l (mi m) (i : Nat)) (fun _ _ => True) l
    (fun m x => m ||| bitI x) 0#32 (nv := 0) (nt := 0) (e := .exit 0) (t := fun m => b30_s2 l m l.length) hs (by kernel_rfl) (by kernel_rfl) trivial (fun m i y hy _ => ⟨?_, trivial⟩) (fun _ => ?_) (by unfold NN; omega)
  · have hi := (List.getElem?_eq_some_iff.1 hy).1
    have hd : decide ((i : Int) < ((is l).length : Int)) = true := by rw [is_len]; simp; exact hi
    cases hb : inB y with
    | true =>
      have := b30_0 l m i y (is_get hy) (fun h => (inB_iff.1 h).1) k hd hb
      rw [w64 hi hl, orb m hb] at this
      exact this
    | false =>
      have := b30_1 l m i y (is_get hy) k hd hb
      rw [w64 hi hl] at this
      rw [bitI_out hb, BitVec.or_zero]
      exact this
  · exact b30_2 l _ l.length k (by rw [is_len]; simp)
theorem ofP (l : List Int) (hl : List.length l < (9223372036854775808 : Nat)) (k : Nat) : orac PP GL XX HH NN (k + 3) 30 [A.c (C.slice 1 (is l))] [] = some ([Res.c (w4 (mi (setI (0#32) l)))], []) := by
  exact (orac_fn (show PP.funcs[30]? = some _ from rfl) (show XX 30 = none from rfl) (rs := [Res.c (w4 (mi (setI (0#32) l)))]) (ims' := []) (gs := [G.loop (Ext.exit 0) (St.mk [T.hole, T.hole, tc (w4 (mi (setI (0#32) l))), T.hole, T.hole, tc (C.slice 1 (is l)), tc (ii (↑(List.length (is l)) : Int)), tc (ii (↑(List.length l) : Int)), tc (bo (decide ((↑(List.length l) : Int) < (↑(List.length (is l)) : Int)))), T.hole, T.hole, T.hole, T.hole, T.hole, T.hole, T.hole, T.hole, T.hole, T.hole] [] [])]) (ps := [LoopIs (Env.mk PP (orac PP GL XX HH NN (k + (2 : Nat))) GL) (HH (30 : Nat)) NN (LB PP (30 : Nat) (2 : Nat)) (St.mk [tc (C.slice (1 : Nat) (is l)), T.skip, tc (w4 (0 : Int)), T.skip, T.skip, tc (C.slice (1 : Nat) (is l)), tc (ii (↑(List.length (is l)) : Int)), tc (ii (0 : Int)), T.skip, T.skip, T.skip, T.skip, T.skip, T.skip, T.skip, T.skip, T.skip, T.skip, T.skip] [] []) (Ext.exit (0 : Nat)) (St.mk [T.hole, T.hole, tc (w4 (mi (setI (BitVec.ofNat (32 : Nat) (0 : Nat)) l))), T.hole, T.hole, tc (C.slice (1 : Nat) (is l)), tc (ii (↑(List.length (is l)) : Int)), tc (ii (↑(List.length l) : Int)), tc (bo (decide ((↑(List.length l) : Int) < (↑(List.length (is l)) : Int)))), T.hole, T.hole, T.hole, T.hole, T.hole, T.hole, T.hole, T.hole, T.hole, T.hole] [] [])]) (by kernel_rfl) ⟨(L30 _ (by first | rfl | assumption | omega | decide | simp_all) _ (by kernel_rfl) _), trivial⟩)
theorem setPa (x : BitVec 32) (l : List Int) (hl : List.length l < (9223372036854775808 : Nat)) (k : Nat) : orac PP GL XX HH NN (k + 4) 20 [A.c (w4 (mi x)), A.c (C.slice 1 (is l))] [] = some ([Res.c (w4 (ior IntKind.u32 (mi x) (mi (setI (0#32) l))))], []) := by
  exact (orac_fn (show PP.funcs[20]? = some _ from rfl) (show XX 20 = none from rfl) (rs := [Res.c (w4 (ior IntKind.u32 (mi x) (mi (setI (0#32) l))))]) (ims' := []) (gs := [G.call [Res.c (w4 (mi (setI (0#32) l)))] []]) (ps := [orac PP GL XX HH NN (k + 3) 30 [A.c (C.slice 1 (is l))] [] = some ([Res.c (w4 (mi (setI (0#32) l)))], [])]) (by kernel_rfl) ⟨(ofP _ (by first | rfl | assumption | omega | decide | simp_all) _), trivial⟩)
theorem clrPa (x : BitVec 32) (l : List Int) (hl : List.length l < (9223372036854775808 : Nat)) (k : Nat) : orac PP GL XX HH NN (k + 4) 22 [A.c (w4 (mi x)), A.c (C.slice 1 (is l))] [] = some ([Res.c (w4 (iandn IntKind.u32 (mi x) (mi (setI (0#32) l))))], []) := by
  exact (orac_fn (show PP.funcs[22]? = some _ from rfl) (show XX 22 = none from rfl) (rs := [Res.c (w4 (iandn IntKind.u32 (mi x) (mi (setI (0#32) l))))]) (ims' := []) (gs := [G.call [Res.c (w4 (mi (setI (0#32) l)))] []]) (ps := [orac PP GL XX HH NN (k + 3) 30 [A.c (C.slice 1 (is l))] [] = some ([Res.c (w4 (mi (setI (0#32) l)))], [])]) (by kernel_rfl) ⟨(ofP _ (by first | rfl | assumption | omega | decide | simp_all) _), trivial⟩)
theorem setI_or (x : BitVec 32) : ∀ (l : List Int) (y : BitVec 32), setI (x ||| y) l = x ||| setI y l
  | [], y => rfl
  | i :: l, y => by
    have := setI_or x l (y ||| bitI i)
    unfold setI at this ⊢
    simp only [List.foldl_cons]
    rw [BitVec.or_assoc, this]
theorem clrI_eq : ∀ (l : List Int) (x y : BitVec 32), clrI (x &&& ~~~y) l = x &&& ~~~(setI y l)
  | [], x, y => rfl
  | i :: l, x, y => by
    have := clrI_eq l x (y ||| bitI i)
    unfold clrI setI at this ⊢
    simp only [List.foldl_cons]
    rw [← this, BitVec.not_or, BitVec.and_assoc]
theorem setP (x : BitVec 32) (l : List Int) (hl : l.length < 9223372036854775808) (k : Nat) : orac PP GL XX HH NN (k + 4) 20 [.c (w4 (mi x)), .c (.slice 1 (is l))] [] = some ([.c (w4 (mi (setI x l)))], []) := by
  have := setPa x l hl k
  rw [ior_mi, ← setI_or, BitVec.or_zero] at this
  exact this
theorem clrP (x : BitVec 32) (l : List Int) (hl : l.length < 9223372036854775808) (k : Nat) : orac PP GL XX HH NN (k + 4) 22 [.c (w4 (mi x)), .c (.slice 1 (is l))] [] = some ([.c (w4 (mi (clrI x l)))], []) := by
  have := clrPa x l hl k
  rw [iandn_mi, ← clrI_eq, show x &&& ~~~0#32 = x from BitVec.and_allOnes] at this
  exact this
theorem L24 (l : List (BitVec 32)) (hl : l.length < 9223372036854775808) (s : St) (hs : s.head (HH 24 2) = S24 l 0 0) (k : Nat) : LoopIs (EE (k + 2)) (HH 24) NN (LB PP 24 2) s (.exit 0) (b24_s1 l (orI 0#32 l) l.length) := by
  refine fold_loop (E := EE (k + 2)) (H := HH 24) (n := NN) (b := LB PP 24 2) (s := s) 2 (by kernel_rfl) (fun (m : BitVec 32) (i : Nat) => S24 l (mi m) (i : Nat)) (fun _ _ => True) l
    (fun m x => m ||| x) 0#32 (nv := 0) (nt := 0) (e := .exit 0) (t := fun m => b24_s1 l m l.length) hs (by kernel_rfl) (by kernel_rfl) trivial (fun m i y hy _ => ⟨?_, trivial⟩) (fun _ => ?_) (by unfold NN; omega)
  · have hi := (List.getElem?_eq_some_iff.1 hy).1
    have := b24_0 l m i y (ms_get hy) k (by rw [ms_len]; simp; exact hi)
    rw [w64 hi hl, ior_mi] at this
    exact this
  · exact b24_1 l _ l.length k (by rw [ms_len]; simp)
theorem unionP (l : List (BitVec 32)) (hl : List.length l < (9223372036854775808 : Nat)) (k : Nat) : orac PP GL XX HH NN (k + 3) 24 [A.c (C.slice 1 (ms l))] [] = some ([Res.c (w4 (mi (orI (0#32) l)))], []) := by
  exact (orac_fn (show PP.funcs[24]? = some _ from rfl) (show XX 24 = none from rfl) (rs := [Res.c (w4 (mi (orI (0#32) l)))]) (ims' := []) (gs := [G.loop (Ext.exit 0) (St.mk [T.hole, T.hole, tc (w4 (mi (orI (0#32) l))), T.hole, T.hole, tc (C.slice 1 (ms l)), tc (ii (↑(List.length (ms l)) : Int)), tc (ii (↑(List.length l) : Int)), tc (bo (decide ((↑(List.length l) : Int) < (↑(List.length (ms l)) : Int)))), T.hole, T.hole, T.hole, T.hole, T.hole, T.hole, T.hole] [] [])]) (ps := [LoopIs (Env.mk PP (orac PP GL XX HH NN (k + (2 : Nat))) GL) (HH (24 : Nat)) NN (LB PP (24 : Nat) (2 : Nat)) (St.mk [tc (C.slice (1 : Nat) (ms l)), T.skip, tc (w4 (0 : Int)), T.skip, T.skip, tc (C.slice (1 : Nat) (ms l)), tc (ii (↑(List.length (ms l)) : Int)), tc (ii (0 : Int)), T.skip, T.skip, T.skip, T.skip, T.skip, T.skip, T.skip, T.skip] [] []) (Ext.exit (0 : Nat)) (St.mk [T.hole, T.hole, tc (w4 (mi (orI (BitVec.ofNat (32 : Nat) (0 : Nat)) l))), T.hole, T.hole, tc (C.slice (1 : Nat) (ms l)), tc (ii (↑(List.length (ms l)) : Int)), tc (ii (↑(List.length l) : Int)), tc (bo (decide ((↑(List.length l) : Int) < (↑(List.length (ms l)) : Int)))), T.hole, T.hole, T.hole, T.hole, T.hole, T.hole, T.hole] [] [])]) (by kernel_rfl) ⟨(L24 _ (by first | rfl | assumption | omega | decide | simp_all) _ (by kernel_rfl) _), trivial⟩)
def rightPa_0 (x : BitVec 32) (B : Int) : Bool := bif inB (IntKind.wrap IntKind.i64 (B - 1)) then iandn IntKind.u32 (mi x) (mi (allI B)) == 0 else false
theorem rightPa (x : BitVec 32) (B : Int) (hb : (-9223372036854775808 : Int) ≤ B ∧ B ≤ (9223372036854775807 : Int)) (k : Nat) : orac PP GL XX HH NN (k + 3) 11 [A.c (w4 (mi x)), A.c (ii B)] [] = some ([Res.c (bo (rightPa_0 x B))], []) := by
  rcases Bool.eq_false_or_eq_true (inB (IntKind.wrap IntKind.i64 (B - 1))) with h0 | h0
  · exact (orac_fn (show PP.funcs[11]? = some _ from rfl) (show XX 11 = none from rfl) (rs := [Res.c (bo (iandn IntKind.u32 (mi x) (mi (allI B)) == 0))]) (ims' := []) (gs := [G.call [Res.c (bo (inB (IntKind.wrap IntKind.i64 (B - 1))))] [], G.b true, G.b true, G.b true, G.call [Res.c (w4 (mi (allI B)))] [], G.b true, G.b true, G.b true]) (ps := [orac PP GL XX HH NN (k + 2) 27 [A.c (ii (IntKind.wrap IntKind.i64 (B - 1)))] [] = some ([Res.c (bo (inB (IntKind.wrap IntKind.i64 (B - 1))))], []), inB (IntKind.wrap IntKind.i64 (B - (1 : Int))) = true, inB (IntKind.wrap IntKind.i64 (B - (1 : Int))) = true, inB (IntKind.wrap IntKind.i64 (B - (1 : Int))) = true, orac PP GL XX HH NN (k + 2) 13 [A.c (ii B)] [] = some ([Res.c (w4 (mi (allI B)))], []), inB (IntKind.wrap IntKind.i64 (B - (1 : Int))) = true, inB (IntKind.wrap IntKind.i64 (B - (1 : Int))) = true, inB (IntKind.wrap IntKind.i64 (B - (1 : Int))) = true]) (by kernel_rfl) ⟨(thereI _ _), h0, h0, h0, (allPr _ (by first | rfl | assumption | omega | decide | simp_all) _), h0, h0, h0, trivial⟩).trans (by rw [show rightPa_0 x B = (iandn IntKind.u32 (mi x) (mi (allI B)) == 0) from (ct h0 rfl)])
  · exact (orac_fn (show PP.funcs[11]? = some _ from rfl) (show XX 11 = none from rfl) (rs := [Res.c (bo false)]) (ims' := []) (gs := [G.call [Res.c (bo (inB (IntKind.wrap IntKind.i64 (B - 1))))] [], G.b false, G.b false, G.b false, G.b false, G.b false, G.b false]) (ps := [orac PP GL XX HH NN (k + 2) 27 [A.c (ii (IntKind.wrap IntKind.i64 (B - 1)))] [] = some ([Res.c (bo (inB (IntKind.wrap IntKind.i64 (B - 1))))], []), inB (IntKind.wrap IntKind.i64 (B - (1 : Int))) = false, inB (IntKind.wrap IntKind.i64 (B - (1 : Int))) = false, inB (IntKind.wrap IntKind.i64 (B - (1 : Int))) = false, inB (IntKind.wrap IntKind.i64 (B - (1 : Int))) = false, inB (IntKind.wrap IntKind.i64 (B - (1 : Int))) = false, inB (IntKind.wrap IntKind.i64 (B - (1 : Int))) = false]) (by kernel_rfl) ⟨(thereI _ _), h0, h0, h0, h0, h0, h0, trivial⟩).trans (by rw [show rightPa_0 x B = (false) from (cf h0 rfl)])
theorem wrapB (B : Int) (hb : -9223372036854775808 ≤ B ∧ B ≤ 9223372036854775807) : inB (IntKind.wrap .i64 (B - 1)) = (decide (1 ≤ B) && decide (B ≤ 32)) := by
  by_cases hm : B = -9223372036854775808
  · subst hm; decide
  · rw [wrap_i64 (by omega) (by omega)]
    unfold inB
    rw [Bool.eq_iff_iff]
    simp
    omega
theorem rightP (x : BitVec 32) (B : Int) (hb : -9223372036854775808 ≤ B ∧ B ≤ 9223372036854775807) (k : Nat) : orac PP GL XX HH NN (k + 3) 11 [.c (w4 (mi x)), .c (ii B)] [] = some ([.c (bo (rightI x B))], []) := by
  have := rightPa x B hb k
  have e : rightPa_0 x B = rightI x B := by
    unfold rightPa_0 rightI
    rw [wrapB B hb, iandn_mi, show (0 : Int) = mi 0#32 from rfl, mi_beq]
    cases decide (1 ≤ B) <;> cases decide (B ≤ 32) <;> rfl
  rwa [e] at this
abbrev fm (f : Int) : Int := if 0 > f then 0 else f
abbrev shE (x : BitVec 32) (f : Int) : Int := IntKind.wrap .u32 (Int.fdiv (mi x) (2 ^ min (Int.toNat (if 0 > f then 0 else f)) 32) * 2 ^ min (Int.toNat (if 0 > f then 0 else f)) 32)
def shB (x : BitVec 32) (f : Int) : BitVec 32 := (x >>> f.toNat) <<< f.toNat
theorem shE_eq (x : BitVec 32) (f : Int) (h : decide (f ≥ 32) = false) : shE x f = mi (shB x f) := by
  have h' : f < 32 := by simpa using h
  unfold shE shB
  have e0 : (if 0 > f then 0 else f).toNat = f.toNat := by split <;> omega
  rw [e0, show min f.toNat 32 = f.toNat by omega]
  have e1 : Int.fdiv (mi x) (2 ^ f.toNat) = mi (x >>> f.toNat) := by
    simp only [mi, BitVec.toNat_ushiftRight, Nat.shiftRight_eq_div_pow]
    rw [Int.fdiv_eq_ediv_of_nonneg _ (Int.le_of_lt (Int.pow_pos (by omega)))]
    simp
  rw [e1]
  simp only [mi, BitVec.toNat_shiftLeft, Nat.shiftLeft_eq]
  rw [show ((x >>> f.toNat).toNat : Int) * 2 ^ f.toNat = (((x >>> f.toNat).toNat * 2 ^ f.toNat : Nat) : Int) by simp, wrap_u32_nat]
theorem tzAt (x : BitVec 32) (f : Int) (h1 : decide (f ≥ 32) = false) (h2 : (shE x f == 0) = false) (k : Nat) : orac PP GL XX HH NN (k + 1) 26 [.c (w4 (shE x f))] [] = some ([.c (ii (low (shB x f) : Int))], []) := by
  rw [shE_eq x f h1] at h2 ⊢
  exact tzL _ h2 k
def nextPa_0 (x : BitVec 32) (f : Int) : Int := bif decide (f ≥ 32) then 0 else bif IntKind.wrap IntKind.u32 (Int.fdiv (mi x) (2 ^ min (Int.toNat (if 0 > f then 0 else f)) 32) * 2 ^ min (Int.toNat (if 0 > f then 0 else f)) 32) == 0 then 0 else (↑(low (shB x f)) : Int)
def nextPa_1 (x : BitVec 32) (f : Int) : Bool := bif decide (f ≥ 32) then false else bif IntKind.wrap IntKind.u32 (Int.fdiv (mi x) (2 ^ min (Int.toNat (if 0 > f then 0 else f)) 32) * 2 ^ min (Int.toNat (if 0 > f then 0 else f)) 32) == 0 then false else true
theorem nextPa (x : BitVec 32) (f : Int) (hf : (0 : Nat) ≤ Int.toNat (if (0 : Int) > f then (0 : Int) else f)) (hg : (0 : Int) ≤ if (0 : Int) > f then (0 : Int) else f) (k : Nat) : orac PP GL XX HH NN (k + 2) 7 [A.c (w4 (mi x)), A.c (ii f)] [] = some ([Res.c (ii (nextPa_0 x f)), Res.c (bo (nextPa_1 x f))], []) := by
  rcases Bool.eq_false_or_eq_true (decide (f ≥ 32)) with h0 | h0
  · exact (orac_fn (show PP.funcs[7]? = some _ from rfl) (show XX 7 = none from rfl) (rs := [Res.c (ii 0), Res.c (bo false)]) (ims' := []) (gs := [G.b true]) (ps := [decide (f ≥ (32 : Int)) = true]) (by kernel_rfl) ⟨h0, trivial⟩).trans (by rw [show nextPa_0 x f = (0) from (ct h0 rfl), show nextPa_1 x f = (false) from (ct h0 rfl)])
  · rcases Bool.eq_false_or_eq_true (IntKind.wrap IntKind.u32 (Int.fdiv (mi x) (2 ^ min (Int.toNat (if 0 > f then 0 else f)) 32) * 2 ^ min (Int.toNat (if 0 > f then 0 else f)) 32) == 0) with h1 | h1
    · exact (orac_fn (show PP.funcs[7]? = some _ from rfl) (show XX 7 = none from rfl) (rs := [Res.c (ii 0), Res.c (bo false)]) (ims' := []) (gs := [G.b false, G.ok, G.ok, G.b true]) (ps := [decide (f ≥ (32 : Int)) = false, (0 : Int) ≤ if (0 : Int) > f then (0 : Int) else f, (0 : Int) ≤ if (0 : Int) > f then (0 : Int) else f, (IntKind.wrap IntKind.u32 (Int.fdiv (mi x) ((2 : Int) ^ min (Int.toNat (if (0 : Int) > f then (0 : Int) else f)) (32 : Nat)) * (2 : Int) ^ min (Int.toNat (if (0 : Int) > f then (0 : Int) else f)) (32 : Nat)) == (0 : Int)) = true]) (by kernel_rfl) ⟨h0, (by first | rfl | assumption | omega | decide | simp_all), (by first | rfl | assumption | omega | decide | simp_all), h1, trivial⟩).trans (by rw [show nextPa_0 x f = (0) from (cf h0 (ct h1 rfl)), show nextPa_1 x f = (false) from (cf h0 (ct h1 rfl))])
    · exact (orac_fn (show PP.funcs[7]? = some _ from rfl) (show XX 7 = none from rfl) (rs := [Res.c (ii (↑(low (shB x f)) : Int)), Res.c (bo true)]) (ims' := []) (gs := [G.b false, G.ok, G.ok, G.b false, G.call [Res.c (ii (↑(low (shB x f)) : Int))] []]) (ps := [decide (f ≥ (32 : Int)) = false, (0 : Int) ≤ if (0 : Int) > f then (0 : Int) else f, (0 : Int) ≤ if (0 : Int) > f then (0 : Int) else f, (IntKind.wrap IntKind.u32 (Int.fdiv (mi x) ((2 : Int) ^ min (Int.toNat (if (0 : Int) > f then (0 : Int) else f)) (32 : Nat)) * (2 : Int) ^ min (Int.toNat (if (0 : Int) > f then (0 : Int) else f)) (32 : Nat)) == (0 : Int)) = false, orac PP GL XX HH NN (k + 1) 26 [A.c (w4 (IntKind.wrap IntKind.u32 (Int.fdiv (mi x) (2 ^ min (Int.toNat (if 0 > f then 0 else f)) 32) * 2 ^ min (Int.toNat (if 0 > f then 0 else f)) 32)))] [] = some ([Res.c (ii (↑(low (shB x f)) : Int))], [])]) (by kernel_rfl) ⟨h0, (by first | rfl | assumption | omega | decide | simp_all), (by first | rfl | assumption | omega | decide | simp_all), h1, (tzAt x f h0 h1 _), trivial⟩).trans (by rw [show nextPa_0 x f = ((↑(low (shB x f)) : Int)) from (cf h0 (cf h1 rfl)), show nextPa_1 x f = (true) from (cf h0 (cf h1 rfl))])
def S18 (c0 : Int) (c1 : List (List C)) : St := St.mk [tc (w4 c0), T.hole, T.k (K.v (V.own 1 c1 (Tk.tok 0))), T.hole, T.hole, T.hole, T.hole, T.hole, T.hole, T.hole, T.hole, T.hole, T.hole, T.hole, T.hole] [] [List.length c1]
def b18_s0 (m : BitVec 32) (c : List (List C)) : St := St.mk [tc (w4 (mi m)), T.hole, T.k (K.v (V.own 1 c (Tk.tok 0))), tc (w4 (mi m)), tc (bo (mi m != 0)), T.hole, T.hole, T.hole, T.hole, T.hole, T.hole, T.hole, T.hole, T.hole, T.hole] [] [List.length c]
theorem b18_0 (m : BitVec 32) (c : List (List C)) (k : Nat) (h0 : (mi m == 0) = true) : OutIs (EE (k + 1)) (HH 18) NN (LB PP 18 1) (S18 (mi m) c) (Ext.exit 0) (b18_s0 m c) :=
  out_of (gs := [G.b false]) (ps := [(mi m != (0 : Int)) = false]) (by kernel_rfl) ⟨(congrArg not h0), trivial⟩
theorem b18_1 (m : BitVec 32) (c : List (List C)) (hc : List.length c ≤ (32 : Nat)) (k : Nat) (h0 : (mi m == 0) = false) : NextIs (EE (k + 1)) (HH 18) NN (LB PP 18 1) 0 1 (S18 (mi m) c) (S18 (iand IntKind.u32 (mi m) (IntKind.wrap IntKind.u32 (mi m - 1))) (c ++ [[ii (↑(low m) : Int)]])) :=
  next_of (gs := [G.b true, G.call [Res.c (ii (↑(low m) : Int))] [], G.app true]) (ps := [(mi m != (0 : Int)) = true, orac PP GL XX HH NN (k + 1) 26 [A.c (w4 (mi m))] [] = some ([Res.c (ii (↑(low m) : Int))], []), [[ii (↑(low m) : Int)]] ≠ [], List.length c + List.length [[ii (↑(low m) : Int)]] ≤ most, List.length c = List.length c]) (by kernel_rfl) ⟨(congrArg not h0), (tzL _ h0 _), (List.cons_ne_nil _ _), (by show _ ≤ (1073741824 : Nat); simp only [List.length_cons, List.length_nil, List.length_map, List.length_append]; omega), (by first | rfl | assumption | omega | decide | simp_all), trivial⟩
end Go.Dm
