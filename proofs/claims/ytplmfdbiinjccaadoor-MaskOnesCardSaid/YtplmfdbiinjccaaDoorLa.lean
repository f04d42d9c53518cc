/-
  A part of the proofs over this seat: what its functions make of data (the file in which the theorems stand says what is proved).
-/
import Derived.Test.YtplmfdbiinjccaaDoorLk
namespace Go.Dm
open Go
def Spow (n : Int) (c0 : Int) (c1 : Int) : St := St.mk [tc (ii n), T.hole, T.hole, tc (w4 c0), tc (ii c1), T.hole, T.hole, T.hole, T.hole, T.hole, T.hole, T.hole, T.hole] [] []
theorem bpow_0 (n : Nat) (i : Nat) (p : Int) (k : Nat) (h0 : (decide ((↑i : Int) < (↑n : Int))) = true) : NextIs (EE (k + 1)) (HH 28) NN (LB PP 28 3) 0 0 (Spow (↑n : Int) p (↑i : Int)) (Spow (↑n : Int) (IntKind.wrap IntKind.u32 (2 * p)) (IntKind.wrap IntKind.i64 ((↑i : Int) + 1))) :=
  next_of (gs := [G.b true]) (ps := [decide ((↑i : Int) < (↑n : Int)) = true]) (by kernel_rfl) ⟨h0, trivial⟩
def bpow_s1 (n : Nat) (i : Nat) (p : Int) : St := St.mk [tc (ii (↑n : Int)), T.hole, T.hole, tc (w4 p), tc (ii (↑i : Int)), tc (ii (↑i : Int)), tc (ii (↑n : Int)), tc (bo (decide ((↑i : Int) < (↑n : Int)))), T.hole, T.hole, T.hole, T.hole, T.hole] [] []
theorem bpow_1 (n : Nat) (i : Nat) (p : Int) (k : Nat) (h0 : (decide ((↑i : Int) < (↑n : Int))) = false) : OutIs (EE (k + 1)) (HH 28) NN (LB PP 28 3) (Spow (↑n : Int) p (↑i : Int)) (Ext.exit 0) (bpow_s1 n i p) :=
  out_of (gs := [G.b false]) (ps := [decide ((↑i : Int) < (↑n : Int)) = false]) (by kernel_rfl) ⟨h0, trivial⟩
theorem Lpow (n : Nat) (hn : n ≤ 31) (s : St) (hs : s.head (HH 28 3) = Spow n 1 0) (k : Nat) : LoopIs (EE (k + 1)) (HH 28) NN (LB PP 28 3) s (.exit 0) (bpow_s1 n n (2 ^ n)) := by
  refine loop_of (nv := 0) (nt := 0) (fun i => Spow n (2 ^ i) (i : Nat)) n (by rw [show firstRegion (LB PP 28 3) = 3 by kernel_rfl]; exact hs) (by kernel_rfl) (by kernel_rfl) (fun i hi => ?_) ?_ (by unfold NN; omega)
  · have := bpow_0 n i (2 ^ i) k (by simp; exact hi)
    have h2 := two_pow_le (i := i + 1) (by omega)
    have e : (2 : Int) ^ (i + 1) = 2 * 2 ^ i := by rw [Int.pow_succ, Int.mul_comm]
    rw [w64 hi (by omega)] at this
    have ew : IntKind.wrap .u32 (2 * 2 ^ i) = 2 ^ (i + 1) := by
      rw [← e]
      unfold IntKind.wrap
      simp [IntKind.signed, IntKind.bits]
      omega
    rw [ew] at this
    exact this
  · exact bpow_1 n n (2 ^ n) k (by simp)
theorem pow (n : Nat) (hn : n ≤ (31 : Nat)) (k : Nat) : orac PP GL XX HH NN (k + 2) 28 [A.c (ii (↑n : Int))] [] = some ([Res.c (w4 (2 ^ n))], []) := by
  exact (orac_fn (show PP.funcs[28]? = some _ from rfl) (show XX 28 = none from rfl) (rs := [Res.c (w4 (2 ^ n))]) (ims' := []) (gs := [G.loop (Ext.exit 0) (St.mk [tc (ii (↑n : Int)), T.hole, T.hole, tc (w4 (2 ^ n)), tc (ii (↑n : Int)), tc (ii (↑n : Int)), tc (ii (↑n : Int)), tc (bo (decide ((↑n : Int) < (↑n : Int)))), T.hole, T.hole, T.hole, T.hole, T.hole] [] [])]) (ps := [LoopIs (Env.mk PP (orac PP GL XX HH NN (k + (1 : Nat))) GL) (HH (28 : Nat)) NN (LB PP (28 : Nat) (3 : Nat)) (St.mk [tc (ii (↑n : Int)), T.skip, tc (w4 (0 : Int)), tc (w4 (1 : Int)), tc (ii (0 : Int)), T.skip, T.skip, T.skip, T.skip, T.skip, T.skip, T.skip, T.skip] [] []) (Ext.exit (0 : Nat)) (St.mk [tc (ii (↑n : Int)), T.hole, T.hole, tc (w4 ((2 : Int) ^ n)), tc (ii (↑n : Int)), tc (ii (↑n : Int)), tc (ii (↑n : Int)), tc (bo (decide ((↑n : Int) < (↑n : Int)))), T.hole, T.hole, T.hole, T.hole, T.hole] [] [])]) (by kernel_rfl) ⟨(Lpow _ (by first | rfl | assumption | omega | decide | simp_all) _ (by kernel_rfl) _), trivial⟩)
theorem has3a (m : Int) (i : Nat) (hi : i ≤ (31 : Nat)) (hz : (2 : Int) ^ i ≠ (0 : Int)) (h1 : decide ((↑i : Int) ≥ (0 : Int)) = true) (h2 : decide ((↑i : Int) < (32 : Int)) = true) (k : Nat) : orac PP GL XX HH NN (k + 3) 10 [A.c (w4 m), A.c (ii (↑i : Int))] [] = some ([Res.c (bo (Int.tmod (IntKind.wrap IntKind.u32 (Int.tdiv m (2 ^ i))) 2 == 1))], []) := by
  exact (orac_fn (show PP.funcs[10]? = some _ from rfl) (show XX 10 = none from rfl) (rs := [Res.c (bo (Int.tmod (IntKind.wrap IntKind.u32 (Int.tdiv m (2 ^ i))) 2 == 1))]) (ims' := []) (gs := [G.b true, G.b true, G.b true, G.b true, G.b true, G.b true, G.call [Res.c (w4 (2 ^ i))] [], G.b true, G.ok, G.b true, G.ok, G.b true, G.b true]) (ps := [true = true, true = true, true = true, decide ((↑i : Int) < (32 : Int)) = true, decide ((↑i : Int) < (32 : Int)) = true, decide ((↑i : Int) < (32 : Int)) = true, orac PP GL XX HH NN (k + 2) 28 [A.c (ii (↑i : Int))] [] = some ([Res.c (w4 (2 ^ i))], []), decide ((↑i : Int) < (32 : Int)) = true, (2 : Int) ^ i ≠ (0 : Int), decide ((↑i : Int) < (32 : Int)) = true, (2 : Int) ≠ (0 : Int), decide ((↑i : Int) < (32 : Int)) = true, decide ((↑i : Int) < (32 : Int)) = true]) (by kernel_rfl) ⟨rfl, rfl, (by first | rfl | assumption | omega | decide | simp_all), h2, h2, h2, (pow _ (by first | rfl | assumption | omega | decide | simp_all) _), h2, (by first | rfl | assumption | omega | decide | simp_all), h2, (by first | rfl | assumption | omega | decide | simp_all), h2, h2, trivial⟩)
theorem has3b (m : Int) (i : Int) (h1 : decide (i ≥ (0 : Int)) = false) (k : Nat) : orac PP GL XX HH NN (k + 3) 10 [A.c (w4 m), A.c (ii i)] [] = some ([Res.c (bo false)], []) := by
  exact (orac_fn (show PP.funcs[10]? = some _ from rfl) (show XX 10 = none from rfl) (rs := [Res.c (bo false)]) (ims' := []) (gs := [G.b false, G.b false, G.b false, G.b false, G.b false, G.b false, G.b false, G.b false, G.b false, G.b false]) (ps := [decide (i ≥ (0 : Int)) = false, decide (i ≥ (0 : Int)) = false, decide (i ≥ (0 : Int)) = false, false = false, false = false, false = false, false = false, false = false, false = false, false = false]) (by kernel_rfl) ⟨h1, h1, h1, rfl, rfl, rfl, rfl, rfl, rfl, (by first | rfl | assumption | omega | decide | simp_all), trivial⟩)
theorem has3c (m : Int) (i : Int) (h1 : decide (i ≥ (0 : Int)) = true) (h2 : decide (i < (32 : Int)) = false) (k : Nat) : orac PP GL XX HH NN (k + 3) 10 [A.c (w4 m), A.c (ii i)] [] = some ([Res.c (bo false)], []) := by
  exact (orac_fn (show PP.funcs[10]? = some _ from rfl) (show XX 10 = none from rfl) (rs := [Res.c (bo false)]) (ims' := []) (gs := [G.b true, G.b true, G.b true, G.b false, G.b false, G.b false, G.b false, G.b false, G.b false, G.b false]) (ps := [decide (i ≥ (0 : Int)) = true, decide (i ≥ (0 : Int)) = true, decide (i ≥ (0 : Int)) = true, decide (i < (32 : Int)) = false, decide (i < (32 : Int)) = false, decide (i < (32 : Int)) = false, decide (i < (32 : Int)) = false, decide (i < (32 : Int)) = false, decide (i < (32 : Int)) = false, decide (i < (32 : Int)) = false]) (by kernel_rfl) ⟨h1, h1, h1, h2, h2, h2, h2, h2, h2, h2, trivial⟩)
theorem has3 (x : BitVec 32) (i : Int) (k : Nat) : orac PP GL XX HH NN (k + 3) 10 [.c (w4 (mi x)), .c (ii i)] [] = some ([.c (bo (hasI x i))], []) := by
  unfold hasI inB
  by_cases h1 : 0 ≤ i
  · by_cases h2 : i < 32
    · have h := two_pow_le (i := i.toNat) (by omega)
      have := has3a (mi x) i.toNat (by omega) (by omega) (decide_eq_true (by omega)) (decide_eq_true (by omega)) k
      rw [Int.toNat_of_nonneg h1] at this
      rw [decide_eq_true h1, decide_eq_true h2]
      have e := inM_bv x i.toNat
      unfold inM at e
      rw [e] at this
      exact this
    · rw [decide_eq_false h2, Bool.and_false, Bool.false_and]
      exact has3c (mi x) i (decide_eq_true h1) (decide_eq_false h2) k
  · rw [decide_eq_false h1, Bool.false_and, Bool.false_and]
    exact has3b (mi x) i (decide_eq_false h1) k
theorem powI (x : Int) (h : inB x = true) (k : Nat) : orac PP GL XX HH NN (k + 2) 28 [.c (ii x)] [] = some ([.c (w4 (mi (bitI x)))], []) := by
  unfold bitI
  rw [h]
  unfold inB at h
  simp only [Bool.and_eq_true, decide_eq_true_eq] at h
  have := pow x.toNat (by omega) k
  rw [Int.toNat_of_nonneg h.1, tp_mi (by omega)] at this
  exact this
def S19 (x : BitVec 32) (c0 : List (List C)) (c1 : Int) : St := St.mk [tc (w4 (mi x)), T.hole, T.hole, T.k (K.v (V.own 1 c0 (Tk.tok 0))), tc (ii c1), T.hole, T.hole, T.hole, T.hole, T.hole, T.hole, T.hole, T.hole, T.hole, T.hole, T.hole, T.hole] [] [List.length c0]
theorem b19_0 (x : BitVec 32) (c : List (List C)) (i : Nat) (hc : List.length c ≤ (32 : Nat)) (k : Nat) (h0 : (decide ((↑i : Int) < 32)) = true) (h1 : (hasI x (↑i : Int)) = true) : NextIs (EE (k + 3)) (HH 19) NN (LB PP 19 3) 0 1 (S19 x c (↑i : Int)) (S19 x (c ++ [[ii (↑i : Int)]]) (IntKind.wrap IntKind.i64 ((↑i : Int) + 1))) :=
  next_of (gs := [G.b true, G.call [Res.c (bo (hasI x (↑i : Int)))] [], G.b true, G.app true]) (ps := [decide ((↑i : Int) < (32 : Int)) = true, orac PP GL XX HH NN (k + 3) 10 [A.c (w4 (mi x)), A.c (ii (↑i : Int))] [] = some ([Res.c (bo (hasI x (↑i : Int)))], []), hasI x (↑i : Int) = true, [[ii (↑i : Int)]] ≠ [], List.length c + List.length [[ii (↑i : Int)]] ≤ most, List.length c = List.length c]) (by kernel_rfl) ⟨h0, (has3 _ _ _), h1, (List.cons_ne_nil _ _), (by show _ ≤ (1073741824 : Nat); simp only [List.length_cons, List.length_nil, List.length_map, List.length_append]; omega), (by first | rfl | assumption | omega | decide | simp_all), trivial⟩
theorem b19_1 (x : BitVec 32) (c : List (List C)) (i : Nat) (k : Nat) (h0 : (decide ((↑i : Int) < 32)) = true) (h1 : (hasI x (↑i : Int)) = false) : NextIs (EE (k + 3)) (HH 19) NN (LB PP 19 3) 0 1 (S19 x c (↑i : Int)) (S19 x c (IntKind.wrap IntKind.i64 ((↑i : Int) + 1))) :=
  next_of (gs := [G.b true, G.call [Res.c (bo (hasI x (↑i : Int)))] [], G.b false]) (ps := [decide ((↑i : Int) < (32 : Int)) = true, orac PP GL XX HH NN (k + 3) 10 [A.c (w4 (mi x)), A.c (ii (↑i : Int))] [] = some ([Res.c (bo (hasI x (↑i : Int)))], []), hasI x (↑i : Int) = false]) (by kernel_rfl) ⟨h0, (has3 _ _ _), h1, trivial⟩
def b19_s2 (x : BitVec 32) (c : List (List C)) (i : Nat) : St := St.mk [tc (w4 (mi x)), T.hole, T.hole, T.k (K.v (V.own 1 c (Tk.tok 0))), tc (ii (↑i : Int)), tc (ii (↑i : Int)), tc (bo (decide ((↑i : Int) < 32))), T.hole, T.hole, T.hole, T.hole, T.hole, T.hole, T.hole, T.hole, T.hole, T.hole] [] [List.length c]
theorem b19_2 (x : BitVec 32) (c : List (List C)) (i : Nat) (k : Nat) (h0 : (decide ((↑i : Int) < 32)) = false) : OutIs (EE (k + 3)) (HH 19) NN (LB PP 19 3) (S19 x c (↑i : Int)) (Ext.exit 0) (b19_s2 x c i) :=
  out_of (gs := [G.b false]) (ps := [decide ((↑i : Int) < (32 : Int)) = false]) (by kernel_rfl) ⟨h0, trivial⟩
theorem hasI_nat (x : BitVec 32) {i : Nat} (h : i < 32) : hasI x (i : Int) = x.getLsbD i := by
  unfold hasI inB
  rw [decide_eq_true (by omega : (0 : Int) ≤ i), decide_eq_true (by omega : (i : Int) < 32)]
  simp
theorem L19 (x : BitVec 32) (s : St) (hs : s.head (HH 19 3) = S19 x [] 0) (k : Nat) : LoopIs (EE (k + 3)) (HH 19) NN (LB PP 19 3) s (.exit 0) (b19_s2 x (is (listI x)) 32) := by
  rw [← lsI_32]
  refine loop_of (nv := 0) (nt := 1) (fun i => S19 x (is (lsI x i)) (i : Nat)) 32 (by rw [show firstRegion (LB PP 19 3) = 3 by kernel_rfl]; exact hs) (by kernel_rfl) (by kernel_rfl) (fun i hi => ?_) ?_ (by unfold NN; omega)
  · have hlen : (is (lsI x i)).length ≤ 32 := by rw [is_len]; exact Nat.le_trans (lsI_len x i) (by omega)
    have hd : decide ((i : Int) < 32) = true := by simp; omega
    have e1 := w64 hi (by omega)
    have hbit := hasI_nat x hi
    show NextIs _ _ _ _ _ _ (S19 x (is (lsI x i)) (i : Nat)) (S19 x (is (lsI x (i + 1))) ((i + 1 : Nat) : Int))
    rw [lsI_succ]
    cases hb : x.getLsbD i with
    | true =>
      rw [hb] at hbit
      have := b19_0 x (is (lsI x i)) i hlen k hd hbit
      rw [e1] at this
      simpa [is] using this
    | false =>
      rw [hb] at hbit
      have := b19_1 x (is (lsI x i)) i k hd hbit
      rw [e1] at this
      exact this
  · exact b19_2 x (is (lsI x 32)) 32 k (by decide)
theorem list3 (x : BitVec 32) (k : Nat) : orac PP GL XX HH NN (k + 4) 19 [A.c (w4 (mi x))] [] = some ([Res.top 1 (is (listI x))], []) := by
  exact (orac_fn (show PP.funcs[19]? = some _ from rfl) (show XX 19 = none from rfl) (rs := [Res.top 1 (is (listI x))]) (ims' := []) (gs := [G.loop (Ext.exit 0) (St.mk [tc (w4 (mi x)), T.hole, T.hole, T.k (K.v (V.own 1 (is (listI x)) (Tk.tok 0))), tc (ii 32), tc (ii 32), tc (bo false), T.hole, T.hole, T.hole, T.hole, T.hole, T.hole, T.hole, T.hole, T.hole, T.hole] [] [List.length (is (listI x))])]) (ps := [LoopIs (Env.mk PP (orac PP GL XX HH NN (k + (3 : Nat))) GL) (HH (19 : Nat)) NN (LB PP (19 : Nat) (3 : Nat)) (St.mk [tc (w4 (mi x)), T.skip, T.k (K.v (V.own (0 : Nat) [] Tk.exact)), T.k (K.v (V.own (0 : Nat) [] Tk.exact)), tc (ii (0 : Int)), T.skip, T.skip, T.skip, T.skip, T.skip, T.skip, T.skip, T.skip, T.skip, T.skip, T.skip, T.skip] [] []) (Ext.exit (0 : Nat)) (St.mk [tc (w4 (mi x)), T.hole, T.hole, T.k (K.v (V.own (1 : Nat) (is (listI x)) (Tk.tok (0 : Nat)))), tc (ii (32 : Int)), tc (ii (32 : Int)), tc (bo false), T.hole, T.hole, T.hole, T.hole, T.hole, T.hole, T.hole, T.hole, T.hole, T.hole] [] [List.length (is (listI x))]), List.length (is (listI x)) = List.length (is (listI x))]) (by kernel_rfl) ⟨(L19 _ _ (by kernel_rfl) _), (by first | rfl | assumption | omega | decide | simp_all), trivial⟩)
theorem count3 (x : BitVec 32) (k : Nat) : orac PP GL XX HH NN (k + 5) 16 [A.c (w4 (mi x))] [] = some ([Res.c (ii (↑(List.length (is (listI x))) : Int))], []) := by
  exact (orac_fn (show PP.funcs[16]? = some _ from rfl) (show XX 16 = none from rfl) (rs := [Res.c (ii (↑(List.length (is (listI x))) : Int))]) (ims' := []) (gs := [G.call [Res.top 1 (is (listI x))] []]) (ps := [orac PP GL XX HH NN (k + 4) 19 [A.c (w4 (mi x))] [] = some ([Res.top 1 (is (listI x))], [])]) (by kernel_rfl) ⟨(list3 _ _), trivial⟩)
theorem inB_of {x : Int} (h1 : decide (x ≥ 0) = true) (h2 : decide (x < 32) = true) : inB x = true := by
  simp only [decide_eq_true_eq] at h1 h2
  unfold inB
  rw [decide_eq_true (by omega : (0 : Int) ≤ x), decide_eq_true h2]
  rfl
theorem inB_no {x : Int} (h : decide (x ≥ 0) = false ∨ decide (x < 32) = false) : inB x = false := by
  unfold inB
  rcases h with h | h
  · rw [show decide (0 ≤ x) = false from h, Bool.false_and]
  · rw [h, Bool.and_false]
theorem powI2 (x : Int) (h1 : decide (x ≥ 0) = true) (h2 : decide (x < 32) = true) (k : Nat) : orac PP GL XX HH NN (k + 2) 28 [.c (ii x)] [] = some ([.c (w4 (mi (bitI x)))], []) := powI x (inB_of h1 h2) k
theorem powH (m : BitVec 32) (x : Int) (h : hasI m x = true) (k : Nat) : orac PP GL XX HH NN (k + 2) 28 [.c (ii x)] [] = some ([.c (w4 (mi (bitI x)))], []) := powI x (by unfold hasI at h; simp only [Bool.and_eq_true] at h; exact h.1) k
def S21 (l : List Int) (c0 : Int) (c1 : Int) : St := St.mk [tc (w4 c0), tc (C.slice 1 (is l)), T.hole, T.hole, T.hole, tc (ii c1), T.hole, T.hole, T.hole, T.hole, T.hole, T.hole, T.hole, T.hole, T.hole, T.hole, T.hole, T.hole, T.hole, T.hole, T.hole, T.hole, T.hole, T.hole, T.hole, T.hole, T.hole, T.hole, T.hole, T.hole, T.hole, T.hole, T.hole, T.hole, T.hole, T.hole, T.hole, T.hole, T.hole, T.hole, T.hole] [] []
theorem b21_0 (l : List Int) (m : BitVec 32) (i : Nat) (x : Int) (hx : (is l)[i]? = some [ii x]) (k : Nat) (h0 : (decide ((↑i : Int) < (↑(List.length (is l)) : Int))) = true) (h1 : (decide (x ≥ 0)) = true) (h2 : (decide (x < 32)) = true) (h3 : (hasI m x) = true) : NextIs (EE (k + 3)) (HH 21) NN (LB PP 21 2) 0 0 (S21 l (mi m) (↑i : Int)) (S21 l (mi m) (IntKind.wrap IntKind.i64 ((↑i : Int) + 1))) :=
  next_of (gs := [G.b true, G.idx i [ii x], G.b true, G.b true, G.b true, G.idx i [ii x], G.b true, G.b true, G.b true, G.b true, G.b true, G.b true, G.b true, G.idx i [ii x], G.b true, G.b true, G.call [Res.c (bo (hasI m x))] [], G.b true, G.b true, G.b false]) (ps := [decide ((↑i : Int) < (↑(List.length (is l)) : Int)) = true, (↑i : Int) = (↑i : Int), (is l)[i]? = some [ii x], decide (x ≥ (0 : Int)) = true, decide (x ≥ (0 : Int)) = true, decide (x ≥ (0 : Int)) = true, (↑i : Int) = (↑i : Int), (is l)[i]? = some [ii x], decide (x ≥ (0 : Int)) = true, decide (x ≥ (0 : Int)) = true, decide (x ≥ (0 : Int)) = true, decide (x < (32 : Int)) = true, decide (x < (32 : Int)) = true, decide (x < (32 : Int)) = true, decide (x < (32 : Int)) = true, (↑i : Int) = (↑i : Int), (is l)[i]? = some [ii x], decide (x < (32 : Int)) = true, decide (x < (32 : Int)) = true, orac PP GL XX HH NN (k + 3) 10 [A.c (w4 (mi m)), A.c (ii x)] [] = some ([Res.c (bo (hasI m x))], []), decide (x < (32 : Int)) = true, decide (x < (32 : Int)) = true, (!hasI m x) = false]) (by kernel_rfl) ⟨h0, rfl, hx, h1, h1, h1, rfl, hx, h1, h1, h1, h2, h2, h2, h2, rfl, hx, h2, h2, (has3 _ _ _), h2, h2, (congrArg not h3), trivial⟩
theorem b21_1 (l : List Int) (m : BitVec 32) (i : Nat) (x : Int) (hx : (is l)[i]? = some [ii x]) (k : Nat) (h0 : (decide ((↑i : Int) < (↑(List.length (is l)) : Int))) = true) (h1 : (decide (x ≥ 0)) = true) (h2 : (decide (x < 32)) = true) (h3 : (hasI m x) = false) : NextIs (EE (k + 3)) (HH 21) NN (LB PP 21 2) 0 0 (S21 l (mi m) (↑i : Int)) (S21 l (IntKind.wrap IntKind.u32 (mi m + mi (bitI x))) (IntKind.wrap IntKind.i64 ((↑i : Int) + 1))) :=
  next_of (gs := [G.b true, G.idx i [ii x], G.b true, G.b true, G.b true, G.idx i [ii x], G.b true, G.b true, G.b true, G.b true, G.b true, G.b true, G.b true, G.idx i [ii x], G.b true, G.b true, G.call [Res.c (bo (hasI m x))] [], G.b true, G.b true, G.b true, G.idx i [ii x], G.call [Res.c (w4 (mi (bitI x)))] []]) (ps := [decide ((↑i : Int) < (↑(List.length (is l)) : Int)) = true, (↑i : Int) = (↑i : Int), (is l)[i]? = some [ii x], decide (x ≥ (0 : Int)) = true, decide (x ≥ (0 : Int)) = true, decide (x ≥ (0 : Int)) = true, (↑i : Int) = (↑i : Int), (is l)[i]? = some [ii x], decide (x ≥ (0 : Int)) = true, decide (x ≥ (0 : Int)) = true, decide (x ≥ (0 : Int)) = true, decide (x < (32 : Int)) = true, decide (x < (32 : Int)) = true, decide (x < (32 : Int)) = true, decide (x < (32 : Int)) = true, (↑i : Int) = (↑i : Int), (is l)[i]? = some [ii x], decide (x < (32 : Int)) = true, decide (x < (32 : Int)) = true, orac PP GL XX HH NN (k + 3) 10 [A.c (w4 (mi m)), A.c (ii x)] [] = some ([Res.c (bo (hasI m x))], []), decide (x < (32 : Int)) = true, decide (x < (32 : Int)) = true, (!hasI m x) = true, (↑i : Int) = (↑i : Int), (is l)[i]? = some [ii x], orac PP GL XX HH NN (k + 3) 28 [A.c (ii x)] [] = some ([Res.c (w4 (mi (bitI x)))], [])]) (by kernel_rfl) ⟨h0, rfl, hx, h1, h1, h1, rfl, hx, h1, h1, h1, h2, h2, h2, h2, rfl, hx, h2, h2, (has3 _ _ _), h2, h2, (congrArg not h3), rfl, hx, (powI2 _ h1 h2 _), trivial⟩
theorem b21_2 (l : List Int) (m : BitVec 32) (i : Nat) (x : Int) (hx : (is l)[i]? = some [ii x]) (k : Nat) (h0 : (decide ((↑i : Int) < (↑(List.length (is l)) : Int))) = true) (h1 : (decide (x ≥ 0)) = true) (h2 : (decide (x < 32)) = false) : NextIs (EE (k + 3)) (HH 21) NN (LB PP 21 2) 0 0 (S21 l (mi m) (↑i : Int)) (S21 l (mi m) (IntKind.wrap IntKind.i64 ((↑i : Int) + 1))) :=
  next_of (gs := [G.b true, G.idx i [ii x], G.b true, G.b true, G.b true, G.idx i [ii x], G.b true, G.b true, G.b true, G.b false, G.b false, G.b false, G.b false, G.b false, G.b false, G.b false, G.b false, G.b false]) (ps := [decide ((↑i : Int) < (↑(List.length (is l)) : Int)) = true, (↑i : Int) = (↑i : Int), (is l)[i]? = some [ii x], decide (x ≥ (0 : Int)) = true, decide (x ≥ (0 : Int)) = true, decide (x ≥ (0 : Int)) = true, (↑i : Int) = (↑i : Int), (is l)[i]? = some [ii x], decide (x ≥ (0 : Int)) = true, decide (x ≥ (0 : Int)) = true, decide (x ≥ (0 : Int)) = true, decide (x < (32 : Int)) = false, decide (x < (32 : Int)) = false, decide (x < (32 : Int)) = false, decide (x < (32 : Int)) = false, decide (x < (32 : Int)) = false, decide (x < (32 : Int)) = false, decide (x < (32 : Int)) = false, decide (x < (32 : Int)) = false, false = false]) (by kernel_rfl) ⟨h0, rfl, hx, h1, h1, h1, rfl, hx, h1, h1, h1, h2, h2, h2, h2, h2, h2, h2, h2, rfl, trivial⟩
theorem b21_3 (l : List Int) (m : BitVec 32) (i : Nat) (x : Int) (hx : (is l)[i]? = some [ii x]) (k : Nat) (h0 : (decide ((↑i : Int) < (↑(List.length (is l)) : Int))) = true) (h1 : (decide (x ≥ 0)) = false) : NextIs (EE (k + 3)) (HH 21) NN (LB PP 21 2) 0 0 (S21 l (mi m) (↑i : Int)) (S21 l (mi m) (IntKind.wrap IntKind.i64 ((↑i : Int) + 1))) :=
  next_of (gs := [G.b true, G.idx i [ii x], G.b false, G.b false, G.b false, G.b false, G.b false, G.b false, G.b false, G.b false, G.b false, G.b false, G.b false, G.b false, G.b false, G.b false, G.b false]) (ps := [decide ((↑i : Int) < (↑(List.length (is l)) : Int)) = true, (↑i : Int) = (↑i : Int), (is l)[i]? = some [ii x], decide (x ≥ (0 : Int)) = false, decide (x ≥ (0 : Int)) = false, decide (x ≥ (0 : Int)) = false, decide (x ≥ (0 : Int)) = false, decide (x ≥ (0 : Int)) = false, decide (x ≥ (0 : Int)) = false, false = false, false = false, false = false, false = false, false = false, false = false, false = false, false = false, false = false]) (by kernel_rfl) ⟨h0, rfl, hx, h1, h1, h1, h1, h1, h1, rfl, rfl, rfl, rfl, rfl, rfl, rfl, (by first | rfl | assumption | omega | decide | simp_all), rfl, trivial⟩
def b21_s4 (l : List Int) (m : BitVec 32) (i : Nat) : St := St.mk [tc (w4 (mi m)), tc (C.slice 1 (is l)), T.hole, T.hole, T.hole, tc (ii (↑i : Int)), tc (ii (↑i : Int)), tc (C.slice 1 (is l)), tc (ii (↑(List.length (is l)) : Int)), tc (bo (decide ((↑i : Int) < (↑(List.length (is l)) : Int)))), T.hole, T.hole, T.hole, T.hole, T.hole, T.hole, T.hole, T.hole, T.hole, T.hole, T.hole, T.hole, T.hole, T.hole, T.hole, T.hole, T.hole, T.hole, T.hole, T.hole, T.hole, T.hole, T.hole, T.hole, T.hole, T.hole, T.hole, T.hole, T.hole, T.hole, T.hole] [] []
theorem b21_4 (l : List Int) (m : BitVec 32) (i : Nat) (k : Nat) (h0 : (decide ((↑i : Int) < (↑(List.length (is l)) : Int))) = false) : OutIs (EE (k + 3)) (HH 21) NN (LB PP 21 2) (S21 l (mi m) (↑i : Int)) (Ext.exit 0) (b21_s4 l m i) :=
  out_of (gs := [G.b false]) (ps := [decide ((↑i : Int) < (↑(List.length (is l)) : Int)) = false]) (by kernel_rfl) ⟨h0, trivial⟩
def S23 (l : List Int) (c0 : Int) (c1 : Int) : St := St.mk [tc (w4 c0), tc (C.slice 1 (is l)), T.hole, T.hole, T.hole, tc (ii c1), T.hole, T.hole, T.hole, T.hole, T.hole, T.hole, T.hole, T.hole, T.hole, T.hole, T.hole, T.hole, T.hole, T.hole, T.hole, T.hole, T.hole, T.hole, T.hole, T.hole] [] []
theorem b23_0 (l : List Int) (m : BitVec 32) (i : Nat) (x : Int) (hx : (is l)[i]? = some [ii x]) (k : Nat) (h0 : (decide ((↑i : Int) < (↑(List.length (is l)) : Int))) = true) (h1 : (hasI m x) = true) : NextIs (EE (k + 3)) (HH 23) NN (LB PP 23 2) 0 0 (S23 l (mi m) (↑i : Int)) (S23 l (IntKind.wrap IntKind.u32 (mi m - mi (bitI x))) (IntKind.wrap IntKind.i64 ((↑i : Int) + 1))) :=
  next_of (gs := [G.b true, G.idx i [ii x], G.call [Res.c (bo (hasI m x))] [], G.b true, G.idx i [ii x], G.call [Res.c (w4 (mi (bitI x)))] []]) (ps := [decide ((↑i : Int) < (↑(List.length (is l)) : Int)) = true, (↑i : Int) = (↑i : Int), (is l)[i]? = some [ii x], orac PP GL XX HH NN (k + 3) 10 [A.c (w4 (mi m)), A.c (ii x)] [] = some ([Res.c (bo (hasI m x))], []), hasI m x = true, (↑i : Int) = (↑i : Int), (is l)[i]? = some [ii x], orac PP GL XX HH NN (k + 3) 28 [A.c (ii x)] [] = some ([Res.c (w4 (mi (bitI x)))], [])]) (by kernel_rfl) ⟨h0, rfl, hx, (has3 _ _ _), h1, rfl, hx, (powH m _ h1 _), trivial⟩
theorem b23_1 (l : List Int) (m : BitVec 32) (i : Nat) (x : Int) (hx : (is l)[i]? = some [ii x]) (k : Nat) (h0 : (decide ((↑i : Int) < (↑(List.length (is l)) : Int))) = true) (h1 : (hasI m x) = false) : NextIs (EE (k + 3)) (HH 23) NN (LB PP 23 2) 0 0 (S23 l (mi m) (↑i : Int)) (S23 l (mi m) (IntKind.wrap IntKind.i64 ((↑i : Int) + 1))) :=
  next_of (gs := [G.b true, G.idx i [ii x], G.call [Res.c (bo (hasI m x))] [], G.b false]) (ps := [decide ((↑i : Int) < (↑(List.length (is l)) : Int)) = true, (↑i : Int) = (↑i : Int), (is l)[i]? = some [ii x], orac PP GL XX HH NN (k + 3) 10 [A.c (w4 (mi m)), A.c (ii x)] [] = some ([Res.c (bo (hasI m x))], []), hasI m x = false]) (by kernel_rfl) ⟨h0, rfl, hx, (has3 _ _ _), h1, trivial⟩
def b23_s2 (l : List Int) (m : BitVec 32) (i : Nat) : St := St.mk [tc (w4 (mi m)), tc (C.slice 1 (is l)), T.hole, T.hole, T.hole, tc (ii (↑i : Int)), tc (ii (↑i : Int)), tc (C.slice 1 (is l)), tc (ii (↑(List.length (is l)) : Int)), tc (bo (decide ((↑i : Int) < (↑(List.length (is l)) : Int)))), T.hole, T.hole, T.hole, T.hole, T.hole, T.hole, T.hole, T.hole, T.hole, T.hole, T.hole, T.hole, T.hole, T.hole, T.hole, T.hole] [] []
theorem b23_2 (l : List Int) (m : BitVec 32) (i : Nat) (k : Nat) (h0 : (decide ((↑i : Int) < (↑(List.length (is l)) : Int))) = false) : OutIs (EE (k + 3)) (HH 23) NN (LB PP 23 2) (S23 l (mi m) (↑i : Int)) (Ext.exit 0) (b23_s2 l m i) :=
  out_of (gs := [G.b false]) (ps := [decide ((↑i : Int) < (↑(List.length (is l)) : Int)) = false]) (by kernel_rfl) ⟨h0, trivial⟩
theorem bitI_in {x : Int} (h : inB x = true) : bitI x = BitVec.twoPow 32 x.toNat ∧ x.toNat < 32 ∧ (2 : Int) ^ x.toNat = mi (bitI x) := by
  unfold bitI
  rw [h]
  unfold inB at h
  simp only [Bool.and_eq_true, decide_eq_true_eq] at h
  exact ⟨rfl, by omega, tp_mi (by omega)⟩
theorem bitI_out {x : Int} (h : inB x = false) : bitI x = 0#32 := by
  unfold bitI; rw [h]; rfl
theorem or_bit {m : BitVec 32} {x : Int} (h : hasI m x = true) : m ||| bitI x = m := by
  unfold hasI at h
  simp only [Bool.and_eq_true] at h
  obtain ⟨e, hlt, _⟩ := bitI_in h.1
  rw [e]
  apply BitVec.eq_of_getLsbD_eq
  intro j hj
  simp only [BitVec.getLsbD_or, BitVec.getLsbD_twoPow, hj, decide_true, Bool.true_and]
  by_cases hji : x.toNat = j
  · rw [← hji, h.2]; simp
  · simp [hji]
theorem andn_bit {m : BitVec 32} {x : Int} (h : hasI m x = false) : m &&& ~~~bitI x = m := by
  unfold hasI at h
  cases hb : inB x with
  | false => rw [bitI_out hb]; show m &&& BitVec.allOnes 32 = m; exact BitVec.and_allOnes
  | true =>
    rw [hb, Bool.true_and] at h
    obtain ⟨e, hlt, _⟩ := bitI_in hb
    rw [e]
    apply BitVec.eq_of_getLsbD_eq
    intro j hj
    simp only [BitVec.getLsbD_and, BitVec.getLsbD_not, BitVec.getLsbD_twoPow, hj, decide_true, Bool.true_and]
    by_cases hji : x.toNat = j
    · rw [← hji, h]; simp
    · simp [hji]
theorem L21 (x : BitVec 32) (l : List Int) (hl : l.length < 9223372036854775808) (s : St) (hs : s.head (HH 21 2) = S21 l (mi x) 0) (k : Nat) : LoopIs (EE (k + 3)) (HH 21) NN (LB PP 21 2) s (.exit 0) (b21_s4 l (setI x l) l.length) := by
  refine fold_loop (E := EE (k + 3)) (H := HH 21) (n := NN) (b := LB PP 21 2) (s := s) 2 (by kernel_rfl) (fun (m : BitVec 32) (i : Nat) => S21 l (mi m) (i : Nat)) (fun _ _ => True) l
    (fun m x => m ||| bitI x) x (nv := 0) (nt := 0) (e := .exit 0) (t := fun m => b21_s4 l m l.length) hs (by kernel_rfl) (by kernel_rfl) trivial (fun m i y hy _ => ⟨?_, trivial⟩) (fun _ => ?_) (by unfold NN; omega)
  · have hi := (List.getElem?_eq_some_iff.1 hy).1
    have hd : decide ((i : Int) < ((is l).length : Int)) = true := by rw [is_len]; simp; exact hi
    have e1 := w64 hi hl
    cases h1 : decide (y ≥ 0) with
    | false =>
      have := b21_3 l m i y (is_get hy) k hd h1
      rw [e1] at this
      rw [bitI_out (inB_no (.inl h1)), BitVec.or_zero]
      exact this
    | true =>
      cases h2 : decide (y < 32) with
      | false =>
        have := b21_2 l m i y (is_get hy) k hd h1 h2
        rw [e1] at this
        rw [bitI_out (inB_no (.inr h2)), BitVec.or_zero]
        exact this
      | true =>
        cases hb : hasI m y with
        | true =>
          have := b21_0 l m i y (is_get hy) k hd h1 h2 hb
          rw [e1] at this
          rw [or_bit hb]
          exact this
        | false =>
          have := b21_1 l m i y (is_get hy) k hd h1 h2 hb
          have hin := inB_of h1 h2
          obtain ⟨eb, hlt, ep⟩ := bitI_in hin
          unfold hasI at hb
          rw [hin, Bool.true_and] at hb
          rw [e1, ← ep, add_bit hlt hb, ← eb] at this
          exact this
  · exact b21_4 l _ l.length k (by rw [is_len]; simp)
theorem set3 (x : BitVec 32) (l : List Int) (hl : List.length l < (9223372036854775808 : Nat)) (k : Nat) : orac PP GL XX HH NN (k + 4) 21 [A.c (w4 (mi x)), A.c (C.slice 1 (is l))] [] = some ([Res.c (w4 (mi (setI x l)))], []) := by
  exact (orac_fn (show PP.funcs[21]? = some _ from rfl) (show XX 21 = none from rfl) (rs := [Res.c (w4 (mi (setI x l)))]) (ims' := []) (gs := [G.loop (Ext.exit 0) (St.mk [tc (w4 (mi (setI x l))), tc (C.slice 1 (is l)), T.hole, T.hole, T.hole, tc (ii (↑(List.length l) : Int)), tc (ii (↑(List.length l) : Int)), tc (C.slice 1 (is l)), tc (ii (↑(List.length (is l)) : Int)), tc (bo (decide ((↑(List.length l) : Int) < (↑(List.length (is l)) : Int)))), T.hole, T.hole, T.hole, T.hole, T.hole, T.hole, T.hole, T.hole, T.hole, T.hole, T.hole, T.hole, T.hole, T.hole, T.hole, T.hole, T.hole, T.hole, T.hole, T.hole, T.hole, T.hole, T.hole, T.hole, T.hole, T.hole, T.hole, T.hole, T.hole, T.hole, T.hole] [] [])]) (ps := [LoopIs (Env.mk PP (orac PP GL XX HH NN (k + (3 : Nat))) GL) (HH (21 : Nat)) NN (LB PP (21 : Nat) (2 : Nat)) (St.mk [tc (w4 (mi x)), tc (C.slice (1 : Nat) (is l)), T.skip, T.skip, tc (w4 (0 : Int)), tc (ii (0 : Int)), T.skip, T.skip, T.skip, T.skip, T.skip, T.skip, T.skip, T.skip, T.skip, T.skip, T.skip, T.skip, T.skip, T.skip, T.skip, T.skip, T.skip, T.skip, T.skip, T.skip, T.skip, T.skip, T.skip, T.skip, T.skip, T.skip, T.skip, T.skip, T.skip, T.skip, T.skip, T.skip, T.skip, T.skip, T.skip] [] []) (Ext.exit (0 : Nat)) (St.mk [tc (w4 (mi (setI x l))), tc (C.slice (1 : Nat) (is l)), T.hole, T.hole, T.hole, tc (ii (↑(List.length l) : Int)), tc (ii (↑(List.length l) : Int)), tc (C.slice (1 : Nat) (is l)), tc (ii (↑(List.length (is l)) : Int)), tc (bo (decide ((↑(List.length l) : Int) < (↑(List.length (is l)) : Int)))), T.hole, T.hole, T.hole, T.hole, T.hole, T.hole, T.hole, T.hole, T.hole, T.hole, T.hole, T.hole, T.hole, T.hole, T.hole, T.hole, T.hole, T.hole, T.hole, T.hole, T.hole, T.hole, T.hole, T.hole, T.hole, T.hole, T.hole, T.hole, T.hole, T.hole, T.hole] [] [])]) (by kernel_rfl) ⟨(L21 _ _ (by first | rfl | assumption | omega | decide | simp_all) _ (by kernel_rfl) _), trivial⟩)
theorem L23 (x : BitVec 32) (l : List Int) (hl : l.length < 9223372036854775808) (s : St) (hs : s.head (HH 23 2) = S23 l (mi x) 0) (k : Nat) : LoopIs (EE (k + 3)) (HH 23) NN (LB PP 23 2) s (.exit 0) (b23_s2 l (clrI x l) l.length) := by
  refine fold_loop (E := EE (k + 3)) (H := HH 23) (n := NN) (b := LB PP 23 2) (s := s) 2 (by kernel_rfl) (fun (m : BitVec 32) (i : Nat) => S23 l (mi m) (i : Nat)) (fun _ _ => True) l
    (fun m x => m &&& ~~~bitI x) x (nv := 0) (nt := 0) (e := .exit 0) (t := fun m => b23_s2 l m l.length) hs (by kernel_rfl) (by kernel_rfl) trivial (fun m i y hy _ => ⟨?_, trivial⟩) (fun _ => ?_) (by unfold NN; omega)
  · have hi := (List.getElem?_eq_some_iff.1 hy).1
    have hd : decide ((i : Int) < ((is l).length : Int)) = true := by rw [is_len]; simp; exact hi
    have e1 := w64 hi hl
    cases hb : hasI m y with
    | false =>
      have := b23_1 l m i y (is_get hy) k hd hb
      rw [e1] at this
      rw [andn_bit hb]
      exact this
    | true =>
      have := b23_0 l m i y (is_get hy) k hd hb
      unfold hasI at hb
      simp only [Bool.and_eq_true] at hb
      obtain ⟨eb, hlt, ep⟩ := bitI_in hb.1
      rw [e1, ← ep, sub_bit hlt hb.2, ← eb] at this
      exact this
  · exact b23_2 l _ l.length k (by rw [is_len]; simp)
theorem clr3 (x : BitVec 32) (l : List Int) (hl : List.length l < (9223372036854775808 : Nat)) (k : Nat) : orac PP GL XX HH NN (k + 4) 23 [A.c (w4 (mi x)), A.c (C.slice 1 (is l))] [] = some ([Res.c (w4 (mi (clrI x l)))], []) := by
  exact (orac_fn (show PP.funcs[23]? = some _ from rfl) (show XX 23 = none from rfl) (rs := [Res.c (w4 (mi (clrI x l)))]) (ims' := []) (gs := [G.loop (Ext.exit 0) (St.mk [tc (w4 (mi (clrI x l))), tc (C.slice 1 (is l)), T.hole, T.hole, T.hole, tc (ii (↑(List.length l) : Int)), tc (ii (↑(List.length l) : Int)), tc (C.slice 1 (is l)), tc (ii (↑(List.length (is l)) : Int)), tc (bo (decide ((↑(List.length l) : Int) < (↑(List.length (is l)) : Int)))), T.hole, T.hole, T.hole, T.hole, T.hole, T.hole, T.hole, T.hole, T.hole, T.hole, T.hole, T.hole, T.hole, T.hole, T.hole, T.hole] [] [])]) (ps := [LoopIs (Env.mk PP (orac PP GL XX HH NN (k + (3 : Nat))) GL) (HH (23 : Nat)) NN (LB PP (23 : Nat) (2 : Nat)) (St.mk [tc (w4 (mi x)), tc (C.slice (1 : Nat) (is l)), T.skip, T.skip, tc (w4 (0 : Int)), tc (ii (0 : Int)), T.skip, T.skip, T.skip, T.skip, T.skip, T.skip, T.skip, T.skip, T.skip, T.skip, T.skip, T.skip, T.skip, T.skip, T.skip, T.skip, T.skip, T.skip, T.skip, T.skip] [] []) (Ext.exit (0 : Nat)) (St.mk [tc (w4 (mi (clrI x l))), tc (C.slice (1 : Nat) (is l)), T.hole, T.hole, T.hole, tc (ii (↑(List.length l) : Int)), tc (ii (↑(List.length l) : Int)), tc (C.slice (1 : Nat) (is l)), tc (ii (↑(List.length (is l)) : Int)), tc (bo (decide ((↑(List.length l) : Int) < (↑(List.length (is l)) : Int)))), T.hole, T.hole, T.hole, T.hole, T.hole, T.hole, T.hole, T.hole, T.hole, T.hole, T.hole, T.hole, T.hole, T.hole, T.hole, T.hole] [] [])]) (by kernel_rfl) ⟨(L23 _ _ (by first | rfl | assumption | omega | decide | simp_all) _ (by kernel_rfl) _), trivial⟩)
end Go.Dm
