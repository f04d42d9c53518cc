/-
  A part of the proofs over this seat: what its functions make of data (the file in which the theorems stand says what is proved).
-/
import Derived.Test.YtlmhcmlbnbgaaaaLk
namespace Go.Dm
open Go
def S45 (m : Int) (c0 : List (List C)) (c1 : Int) : St := St.mk [tc (w4 m), T.hole, T.hole, T.k (K.v (V.own 1 c0 (Tk.tok 0))), tc (ii c1), T.hole, T.hole, T.hole, T.hole, T.hole, T.hole, T.hole, T.hole, T.hole, T.hole, T.hole, T.hole] [] [List.length c0]
abbrev is (l : List Int) : List (List C) := l.map fun x => [ii x]
def S44 (l : List Int) (c0 : Int) (c1 : Int) : St := St.mk [tc (w4 c0), tc (C.slice 1 (is l)), T.hole, T.hole, T.hole, tc (ii c1), T.hole, T.hole, T.hole, T.hole, T.hole, T.hole, T.hole, T.hole, T.hole, T.hole, T.hole, T.hole, T.hole, T.hole, T.hole, T.hole, T.hole, T.hole, T.hole, T.hole, T.hole, T.hole, T.hole, T.hole, T.hole, T.hole, T.hole, T.hole, T.hole, T.hole, T.hole, T.hole, T.hole, T.hole, T.hole] [] []
theorem b45_0 (m : Int) (c : List (List C)) (i : Nat) (hi : i ≤ (31 : Nat)) (hc : List.length c ≤ (32 : Nat)) (k : Nat) (h0 : (decide ((↑i : Int) < 32)) = true) (h1 : (inM m i) = true) : NextIs (EE (k + 3)) (HH 45) NN (LB PP 45 3) 0 1 (S45 m c (↑i : Int)) (S45 m (c ++ [[ii (↑i : Int)]]) (IntKind.wrap IntKind.i64 ((↑i : Int) + 1))) :=
  next_of (gs := [G.b true, G.call [Res.c (bo (inM m i))] [], G.b true, G.app true]) (ps := [decide ((↑i : Int) < (32 : Int)) = true, orac PP GL HH NN (k + 3) 37 [A.c (w4 m), A.c (ii (↑i : Int))] [] = some ([Res.c (bo (inM m i))], []), inM m i = true, [[ii (↑i : Int)]] ≠ [], List.length c + List.length [[ii (↑i : Int)]] ≤ most, List.length c = List.length c]) (by kernel_rfl) ⟨h0, (has3' _ _ (by first | rfl | assumption | omega | decide | simp_all) _), h1, (List.cons_ne_nil _ _), (by show _ ≤ (1073741824 : Nat); simp only [List.length_cons, List.length_nil, List.length_map, List.length_append]; omega), (by first | rfl | assumption | omega | decide | simp_all), trivial⟩
theorem b45_1 (m : Int) (c : List (List C)) (i : Nat) (hi : i ≤ (31 : Nat)) (hc : List.length c ≤ (32 : Nat)) (k : Nat) (h0 : (decide ((↑i : Int) < 32)) = true) (h1 : (inM m i) = false) : NextIs (EE (k + 3)) (HH 45) NN (LB PP 45 3) 0 1 (S45 m c (↑i : Int)) (S45 m c (IntKind.wrap IntKind.i64 ((↑i : Int) + 1))) :=
  next_of (gs := [G.b true, G.call [Res.c (bo (inM m i))] [], G.b false]) (ps := [decide ((↑i : Int) < (32 : Int)) = true, orac PP GL HH NN (k + 3) 37 [A.c (w4 m), A.c (ii (↑i : Int))] [] = some ([Res.c (bo (inM m i))], []), inM m i = false]) (by kernel_rfl) ⟨h0, (has3' _ _ (by first | rfl | assumption | omega | decide | simp_all) _), h1, trivial⟩
def b45_s2 (m : Int) (c : List (List C)) (i : Nat) : St := St.mk [tc (w4 m), T.hole, T.hole, T.k (K.v (V.own 1 c (Tk.tok 0))), tc (ii (↑i : Int)), tc (ii (↑i : Int)), tc (bo (decide ((↑i : Int) < 32))), T.hole, T.hole, T.hole, T.hole, T.hole, T.hole, T.hole, T.hole, T.hole, T.hole] [] [List.length c]
theorem b45_2 (m : Int) (c : List (List C)) (i : Nat) (k : Nat) (h0 : (decide ((↑i : Int) < 32)) = false) : OutIs (EE (k + 3)) (HH 45) NN (LB PP 45 3) (S45 m c (↑i : Int)) (Ext.exit 0) (b45_s2 m c i) :=
  out_of (gs := [G.b false]) (ps := [decide ((↑i : Int) < (32 : Int)) = false]) (by kernel_rfl) ⟨h0, trivial⟩
theorem has3i (m x : Int) (h1 : decide (x ≥ 0) = true) (h2 : decide (x < 32) = true) (k : Nat) : orac PP GL HH NN (k + 3) 37 [.c (w4 m), .c (ii x)] [] = some ([.c (bo (inM m x.toNat))], []) := by
  simp only [decide_eq_true_eq] at h1 h2
  have := has3' m x.toNat (by omega) k
  rwa [Int.toNat_of_nonneg h1] at this
theorem powi (x : Int) (h1 : decide (x ≥ 0) = true) (h2 : decide (x < 32) = true) (k : Nat) : orac PP GL HH NN (k + 2) 46 [.c (ii x)] [] = some ([.c (w4 (2 ^ x.toNat))], []) := by
  simp only [decide_eq_true_eq] at h1 h2
  have := pow x.toNat (by omega) k
  rwa [Int.toNat_of_nonneg h1] at this
theorem b44_0 (l : List Int) (m : Int) (i : Nat) (x : Int) (hx : (is l)[i]? = some [ii x]) (k : Nat) (h0 : (decide ((↑i : Int) < (↑(List.length (is l)) : Int))) = true) (h1 : (decide (x ≥ 0)) = true) (h2 : (decide (x < 32)) = true) (h3 : (inM m (Int.toNat x)) = true) : NextIs (EE (k + 3)) (HH 44) NN (LB PP 44 2) 0 0 (S44 l m (↑i : Int)) (S44 l m (IntKind.wrap IntKind.i64 ((↑i : Int) + 1))) :=
  next_of (gs := [G.b true, G.idx i [ii x], G.b true, G.b true, G.b true, G.idx i [ii x], G.b true, G.b true, G.b true, G.b true, G.b true, G.b true, G.b true, G.idx i [ii x], G.b true, G.b true, G.call [Res.c (bo (inM m (Int.toNat x)))] [], G.b true, G.b true, G.b false]) (ps := [decide ((↑i : Int) < (↑(List.length (is l)) : Int)) = true, (↑i : Int) = (↑i : Int), (is l)[i]? = some [ii x], decide (x ≥ (0 : Int)) = true, decide (x ≥ (0 : Int)) = true, decide (x ≥ (0 : Int)) = true, (↑i : Int) = (↑i : Int), (is l)[i]? = some [ii x], decide (x ≥ (0 : Int)) = true, decide (x ≥ (0 : Int)) = true, decide (x ≥ (0 : Int)) = true, decide (x < (32 : Int)) = true, decide (x < (32 : Int)) = true, decide (x < (32 : Int)) = true, decide (x < (32 : Int)) = true, (↑i : Int) = (↑i : Int), (is l)[i]? = some [ii x], decide (x < (32 : Int)) = true, decide (x < (32 : Int)) = true, orac PP GL HH NN (k + 3) 37 [A.c (w4 m), A.c (ii x)] [] = some ([Res.c (bo (inM m (Int.toNat x)))], []), decide (x < (32 : Int)) = true, decide (x < (32 : Int)) = true, (!inM m (Int.toNat x)) = false]) (by kernel_rfl) ⟨h0, rfl, hx, h1, h1, h1, rfl, hx, h1, h1, h1, h2, h2, h2, h2, rfl, hx, h2, h2, (has3i _ _ h1 h2 _), h2, h2, (congrArg not h3), trivial⟩
theorem b44_1 (l : List Int) (m : Int) (i : Nat) (x : Int) (hx : (is l)[i]? = some [ii x]) (k : Nat) (h0 : (decide ((↑i : Int) < (↑(List.length (is l)) : Int))) = true) (h1 : (decide (x ≥ 0)) = true) (h2 : (decide (x < 32)) = true) (h3 : (inM m (Int.toNat x)) = false) : NextIs (EE (k + 3)) (HH 44) NN (LB PP 44 2) 0 0 (S44 l m (↑i : Int)) (S44 l (IntKind.wrap IntKind.u32 (m + 2 ^ Int.toNat x)) (IntKind.wrap IntKind.i64 ((↑i : Int) + 1))) :=
  next_of (gs := [G.b true, G.idx i [ii x], G.b true, G.b true, G.b true, G.idx i [ii x], G.b true, G.b true, G.b true, G.b true, G.b true, G.b true, G.b true, G.idx i [ii x], G.b true, G.b true, G.call [Res.c (bo (inM m (Int.toNat x)))] [], G.b true, G.b true, G.b true, G.idx i [ii x], G.call [Res.c (w4 (2 ^ Int.toNat x))] []]) (ps := [decide ((↑i : Int) < (↑(List.length (is l)) : Int)) = true, (↑i : Int) = (↑i : Int), (is l)[i]? = some [ii x], decide (x ≥ (0 : Int)) = true, decide (x ≥ (0 : Int)) = true, decide (x ≥ (0 : Int)) = true, (↑i : Int) = (↑i : Int), (is l)[i]? = some [ii x], decide (x ≥ (0 : Int)) = true, decide (x ≥ (0 : Int)) = true, decide (x ≥ (0 : Int)) = true, decide (x < (32 : Int)) = true, decide (x < (32 : Int)) = true, decide (x < (32 : Int)) = true, decide (x < (32 : Int)) = true, (↑i : Int) = (↑i : Int), (is l)[i]? = some [ii x], decide (x < (32 : Int)) = true, decide (x < (32 : Int)) = true, orac PP GL HH NN (k + 3) 37 [A.c (w4 m), A.c (ii x)] [] = some ([Res.c (bo (inM m (Int.toNat x)))], []), decide (x < (32 : Int)) = true, decide (x < (32 : Int)) = true, (!inM m (Int.toNat x)) = true, (↑i : Int) = (↑i : Int), (is l)[i]? = some [ii x], orac PP GL HH NN (k + 3) 46 [A.c (ii x)] [] = some ([Res.c (w4 (2 ^ Int.toNat x))], [])]) (by kernel_rfl) ⟨h0, rfl, hx, h1, h1, h1, rfl, hx, h1, h1, h1, h2, h2, h2, h2, rfl, hx, h2, h2, (has3i _ _ h1 h2 _), h2, h2, (congrArg not h3), rfl, hx, (powi _ h1 h2 _), trivial⟩
theorem b44_2 (l : List Int) (m : Int) (i : Nat) (x : Int) (hx : (is l)[i]? = some [ii x]) (k : Nat) (h0 : (decide ((↑i : Int) < (↑(List.length (is l)) : Int))) = true) (h1 : (decide (x ≥ 0)) = true) (h2 : (decide (x < 32)) = false) : NextIs (EE (k + 3)) (HH 44) NN (LB PP 44 2) 0 0 (S44 l m (↑i : Int)) (S44 l m (IntKind.wrap IntKind.i64 ((↑i : Int) + 1))) :=
  next_of (gs := [G.b true, G.idx i [ii x], G.b true, G.b true, G.b true, G.idx i [ii x], G.b true, G.b true, G.b true, G.b false, G.b false, G.b false, G.b false, G.b false, G.b false, G.b false, G.b false, G.b false]) (ps := [decide ((↑i : Int) < (↑(List.length (is l)) : Int)) = true, (↑i : Int) = (↑i : Int), (is l)[i]? = some [ii x], decide (x ≥ (0 : Int)) = true, decide (x ≥ (0 : Int)) = true, decide (x ≥ (0 : Int)) = true, (↑i : Int) = (↑i : Int), (is l)[i]? = some [ii x], decide (x ≥ (0 : Int)) = true, decide (x ≥ (0 : Int)) = true, decide (x ≥ (0 : Int)) = true, decide (x < (32 : Int)) = false, decide (x < (32 : Int)) = false, decide (x < (32 : Int)) = false, decide (x < (32 : Int)) = false, decide (x < (32 : Int)) = false, decide (x < (32 : Int)) = false, decide (x < (32 : Int)) = false, decide (x < (32 : Int)) = false, false = false]) (by kernel_rfl) ⟨h0, rfl, hx, h1, h1, h1, rfl, hx, h1, h1, h1, h2, h2, h2, h2, h2, h2, h2, h2, rfl, trivial⟩
theorem b44_3 (l : List Int) (m : Int) (i : Nat) (x : Int) (hx : (is l)[i]? = some [ii x]) (k : Nat) (h0 : (decide ((↑i : Int) < (↑(List.length (is l)) : Int))) = true) (h1 : (decide (x ≥ 0)) = false) : NextIs (EE (k + 3)) (HH 44) NN (LB PP 44 2) 0 0 (S44 l m (↑i : Int)) (S44 l m (IntKind.wrap IntKind.i64 ((↑i : Int) + 1))) :=
  next_of (gs := [G.b true, G.idx i [ii x], G.b false, G.b false, G.b false, G.b false, G.b false, G.b false, G.b false, G.b false, G.b false, G.b false, G.b false, G.b false, G.b false, G.b false, G.b false]) (ps := [decide ((↑i : Int) < (↑(List.length (is l)) : Int)) = true, (↑i : Int) = (↑i : Int), (is l)[i]? = some [ii x], decide (x ≥ (0 : Int)) = false, decide (x ≥ (0 : Int)) = false, decide (x ≥ (0 : Int)) = false, decide (x ≥ (0 : Int)) = false, decide (x ≥ (0 : Int)) = false, decide (x ≥ (0 : Int)) = false, false = false, false = false, false = false, false = false, false = false, false = false, false = false, false = false, false = false]) (by kernel_rfl) ⟨h0, rfl, hx, h1, h1, h1, h1, h1, h1, rfl, rfl, rfl, rfl, rfl, rfl, rfl, (by first | rfl | assumption | omega | decide | simp_all), rfl, trivial⟩
def b44_s4 (l : List Int) (m : Int) (i : Nat) : St := St.mk [tc (w4 m), tc (C.slice 1 (is l)), T.hole, T.hole, T.hole, tc (ii (↑i : Int)), tc (ii (↑i : Int)), tc (C.slice 1 (is l)), tc (ii (↑(List.length (is l)) : Int)), tc (bo (decide ((↑i : Int) < (↑(List.length (is l)) : Int)))), T.hole, T.hole, T.hole, T.hole, T.hole, T.hole, T.hole, T.hole, T.hole, T.hole, T.hole, T.hole, T.hole, T.hole, T.hole, T.hole, T.hole, T.hole, T.hole, T.hole, T.hole, T.hole, T.hole, T.hole, T.hole, T.hole, T.hole, T.hole, T.hole, T.hole, T.hole] [] []
theorem b44_4 (l : List Int) (m : Int) (i : Nat) (k : Nat) (h0 : (decide ((↑i : Int) < (↑(List.length (is l)) : Int))) = false) : OutIs (EE (k + 3)) (HH 44) NN (LB PP 44 2) (S44 l m (↑i : Int)) (Ext.exit 0) (b44_s4 l m i) :=
  out_of (gs := [G.b false]) (ps := [decide ((↑i : Int) < (↑(List.length (is l)) : Int)) = false]) (by kernel_rfl) ⟨h0, trivial⟩
theorem is_get {l : List Int} {i : Nat} {x : Int} (h : l[i]? = some x) : (is l)[i]? = some [ii x] := by simp [is, h]
theorem is_len (l : List Int) : (is l).length = l.length := by simp [is]
/-- what is in it -/
def listI (x : BitVec 32) : List Int := (listB x).map fun (i : Nat) => (i : Int)
def lsC (x : BitVec 32) (n : Nat) : List (List C) := is (((List.range n).filter x.getLsbD).map fun (i : Nat) => (i : Int))
theorem lsC_succ (x : BitVec 32) (n : Nat) : lsC x (n + 1) = if x.getLsbD n then lsC x n ++ [[ii (n : Int)]] else lsC x n := by
  unfold lsC
  rw [List.range_succ, List.filter_append]
  cases hb : x.getLsbD n <;> simp [hb, is]
theorem lsC_len (x : BitVec 32) (n : Nat) : (lsC x n).length ≤ n := by
  unfold lsC
  rw [is_len, List.length_map]
  exact Nat.le_trans (List.length_filter_le _ _) (by simp)
theorem lsC_32 (x : BitVec 32) : lsC x 32 = is (listI x) := rfl
theorem L45 (x : BitVec 32) (s : St) (hs : s.head (HH 45 3) = S45 (mi x) [] 0) (k : Nat) : LoopIs (EE (k + 3)) (HH 45) NN (LB PP 45 3) s (.exit 0) (b45_s2 (mi x) (is (listI x)) 32) := by
  rw [← lsC_32]
  refine loop_of (nv := 0) (nt := 1) (fun i => S45 (mi x) (lsC x i) (i : Nat)) 32 (by rw [show firstRegion (LB PP 45 3) = 3 by kernel_rfl]; exact hs) (by kernel_rfl) (by kernel_rfl) (fun i hi => ?_) ?_ (by unfold NN; omega)
  · have hlen : (lsC x i).length ≤ 32 := Nat.le_trans (lsC_len x i) (by omega)
    have hd : decide ((i : Int) < 32) = true := by simp; omega
    have e1 : IntKind.wrap .i64 ((i : Int) + 1) = ((i + 1 : Nat) : Int) := by rw [wrap_i64 (by omega) (by omega)]; simp
    have hbit := inM_bv x i
    show NextIs _ _ _ _ _ _ (S45 (mi x) (lsC x i) (i : Nat)) (S45 (mi x) (lsC x (i + 1)) ((i + 1 : Nat) : Int))
    rw [lsC_succ]
    cases hb : x.getLsbD i with
    | true =>
      rw [hb] at hbit
      have := b45_0 (mi x) (lsC x i) i (by omega) hlen k hd hbit
      rw [e1] at this
      exact this
    | false =>
      rw [hb] at hbit
      have := b45_1 (mi x) (lsC x i) i (by omega) hlen k hd hbit
      rw [e1] at this
      exact this
  · exact b45_2 (mi x) (lsC x 32) 32 k (by decide)
theorem list3 (x : BitVec 32) (k : Nat) : orac PP GL HH NN (k + 4) 45 [A.c (w4 (mi x))] [] = some ([Res.top 1 (is (listI x))], []) := by
  exact (orac_fn (show PP.funcs[45]? = some _ from rfl) (rs := [Res.top 1 (is (listI x))]) (ims' := []) (gs := [G.loop (Ext.exit 0) (St.mk [tc (w4 (mi x)), T.hole, T.hole, T.k (K.v (V.own 1 (is (listI x)) (Tk.tok 0))), tc (ii 32), tc (ii 32), tc (bo false), T.hole, T.hole, T.hole, T.hole, T.hole, T.hole, T.hole, T.hole, T.hole, T.hole] [] [List.length (is (listI x))])]) (ps := [LoopIs (Env.mk PP (orac PP GL HH NN (k + (3 : Nat))) GL) (HH (45 : Nat)) NN (LB PP (45 : Nat) (3 : Nat)) (St.mk [tc (w4 (mi x)), T.skip, T.k (K.v (V.own (0 : Nat) [] Tk.exact)), T.k (K.v (V.own (0 : Nat) [] Tk.exact)), tc (ii (0 : Int)), T.skip, T.skip, T.skip, T.skip, T.skip, T.skip, T.skip, T.skip, T.skip, T.skip, T.skip, T.skip] [] []) (Ext.exit (0 : Nat)) (St.mk [tc (w4 (mi x)), T.hole, T.hole, T.k (K.v (V.own (1 : Nat) (is (listI x)) (Tk.tok (0 : Nat)))), tc (ii (32 : Int)), tc (ii (32 : Int)), tc (bo false), T.hole, T.hole, T.hole, T.hole, T.hole, T.hole, T.hole, T.hole, T.hole, T.hole] [] [List.length (is (listI x))]), List.length (is (listI x)) = List.length (is (listI x))]) (by kernel_rfl) ⟨(L45 _ _ (by kernel_rfl) _), (by first | rfl | assumption | omega | decide | simp_all), trivial⟩)
def setI (m : BitVec 32) (l : List Int) : BitVec 32 := l.foldl (fun m x => if 0 ≤ x ∧ x < 32 then m ||| BitVec.twoPow 32 x.toNat else m) m
theorem w64 {i n : Nat} (h : i < n) (hn : n < 9223372036854775808) : IntKind.wrap .i64 ((i : Int) + 1) = ((i + 1 : Nat) : Int) := by rw [wrap_i64 (by omega) (by omega)]; simp
theorem L44 (x : BitVec 32) (l : List Int) (hl : l.length < 9223372036854775808) (s : St) (hs : s.head (HH 44 2) = S44 l (mi x) 0) (k : Nat) : LoopIs (EE (k + 3)) (HH 44) NN (LB PP 44 2) s (.exit 0) (b44_s4 l (mi (setI x l)) l.length) := by
  refine fold_loop (E := EE (k + 3)) (H := HH 44) (n := NN) (b := LB PP 44 2) (s := s) 2 (by kernel_rfl) (fun (m : BitVec 32) (i : Nat) => S44 l (mi m) (i : Nat)) (fun _ _ => True) l
    (fun m x => if 0 ≤ x ∧ x < 32 then m ||| BitVec.twoPow 32 x.toNat else m) x (nv := 0) (nt := 0) (e := .exit 0) (t := fun m => b44_s4 l (mi m) l.length) hs (by kernel_rfl) (by kernel_rfl) trivial (fun m i y hy _ => ⟨?_, trivial⟩) (fun _ => ?_) (by unfold NN; omega)
  · have hi := (List.getElem?_eq_some_iff.1 hy).1
    have hd : decide ((i : Int) < ((is l).length : Int)) = true := by rw [is_len]; simp; exact hi
    have e1 := w64 hi hl
    by_cases h0 : 0 ≤ y
    · by_cases h1 : y < 32
      · rw [if_pos ⟨h0, h1⟩]
        have hlt : y.toNat < 32 := by omega
        cases hb : m.getLsbD y.toNat with
        | true =>
          have := b44_0 l (mi m) i y (is_get hy) k hd (by simpa using h0) (by simpa using h1) (by rw [inM_bv, hb])
          rw [e1] at this
          have e : m ||| BitVec.twoPow 32 y.toNat = m := by
            apply BitVec.eq_of_getLsbD_eq
            intro j hj
            simp only [BitVec.getLsbD_or, BitVec.getLsbD_twoPow, hj, decide_true, Bool.true_and]
            by_cases hji : y.toNat = j
            · rw [← hji, hb]; simp
            · simp [hji]
          rw [e]
          exact this
        | false =>
          have := b44_1 l (mi m) i y (is_get hy) k hd (by simpa using h0) (by simpa using h1) (by rw [inM_bv, hb])
          rw [e1, add_bit hlt hb] at this
          exact this
      · rw [if_neg (fun h => h1 h.2)]
        have := b44_2 l (mi m) i y (is_get hy) k hd (by simpa using h0) (by simpa using h1)
        rw [e1] at this
        exact this
    · rw [if_neg (fun h => h0 h.1)]
      have := b44_3 l (mi m) i y (is_get hy) k hd (by simpa using h0)
      rw [e1] at this
      exact this
  · exact b44_4 l _ l.length k (by rw [is_len]; simp)
theorem set3 (x : BitVec 32) (l : List Int) (hl : List.length l < (9223372036854775808 : Nat)) (k : Nat) : orac PP GL HH NN (k + 4) 44 [A.c (w4 (mi x)), A.c (C.slice 1 (is l))] [] = some ([Res.c (w4 (mi (setI x l)))], []) := by
  exact (orac_fn (show PP.funcs[44]? = some _ from rfl) (rs := [Res.c (w4 (mi (setI x l)))]) (ims' := []) (gs := [G.loop (Ext.exit 0) (St.mk [tc (w4 (mi (setI x l))), tc (C.slice 1 (is l)), T.hole, T.hole, T.hole, tc (ii (↑(List.length l) : Int)), tc (ii (↑(List.length l) : Int)), tc (C.slice 1 (is l)), tc (ii (↑(List.length (is l)) : Int)), tc (bo (decide ((↑(List.length l) : Int) < (↑(List.length (is l)) : Int)))), T.hole, T.hole, T.hole, T.hole, T.hole, T.hole, T.hole, T.hole, T.hole, T.hole, T.hole, T.hole, T.hole, T.hole, T.hole, T.hole, T.hole, T.hole, T.hole, T.hole, T.hole, T.hole, T.hole, T.hole, T.hole, T.hole, T.hole, T.hole, T.hole, T.hole, T.hole] [] [])]) (ps := [LoopIs (Env.mk PP (orac PP GL HH NN (k + (3 : Nat))) GL) (HH (44 : Nat)) NN (LB PP (44 : Nat) (2 : Nat)) (St.mk [tc (w4 (mi x)), tc (C.slice (1 : Nat) (is l)), T.skip, T.skip, tc (w4 (0 : Int)), tc (ii (0 : Int)), T.skip, T.skip, T.skip, T.skip, T.skip, T.skip, T.skip, T.skip, T.skip, T.skip, T.skip, T.skip, T.skip, T.skip, T.skip, T.skip, T.skip, T.skip, T.skip, T.skip, T.skip, T.skip, T.skip, T.skip, T.skip, T.skip, T.skip, T.skip, T.skip, T.skip, T.skip, T.skip, T.skip, T.skip, T.skip] [] []) (Ext.exit (0 : Nat)) (St.mk [tc (w4 (mi (setI x l))), tc (C.slice (1 : Nat) (is l)), T.hole, T.hole, T.hole, tc (ii (↑(List.length l) : Int)), tc (ii (↑(List.length l) : Int)), tc (C.slice (1 : Nat) (is l)), tc (ii (↑(List.length (is l)) : Int)), tc (bo (decide ((↑(List.length l) : Int) < (↑(List.length (is l)) : Int)))), T.hole, T.hole, T.hole, T.hole, T.hole, T.hole, T.hole, T.hole, T.hole, T.hole, T.hole, T.hole, T.hole, T.hole, T.hole, T.hole, T.hole, T.hole, T.hole, T.hole, T.hole, T.hole, T.hole, T.hole, T.hole, T.hole, T.hole, T.hole, T.hole, T.hole, T.hole] [] [])]) (by kernel_rfl) ⟨(L44 _ _ (by first | rfl | assumption | omega | decide | simp_all) _ (by kernel_rfl) _), trivial⟩)
theorem listI_len (x : BitVec 32) : (listI x).length < 9223372036854775808 := by
  unfold listI listB
  rw [List.length_map]
  exact Nat.lt_of_le_of_lt (List.length_filter_le _ _) (by simp)
theorem setI_listI (x y : BitVec 32) : setI x (listI y) = x ||| y := by
  rw [← setB_listB x y]
  unfold setI listI setB
  rw [List.foldl_map]
  have h : ∀ (l : List Nat) (m : BitVec 32), (∀ i ∈ l, i < 32) → l.foldl (fun m (i : Nat) => if 0 ≤ (i : Int) ∧ (i : Int) < 32 then m ||| BitVec.twoPow 32 (i : Int).toNat else m) m = l.foldl (fun m i => m ||| BitVec.twoPow 32 i) m := by
    intro l
    induction l with
    | nil => intro m _; rfl
    | cons i l ih =>
      intro m h
      have hi := h i (by simp)
      simp only [List.foldl_cons]
      rw [if_pos ⟨by omega, by omega⟩, Int.toNat_natCast]
      exact ih _ (fun j hj => h j (by simp [hj]))
  refine h _ _ (fun i hi => ?_)
  unfold listB at hi
  simp at hi
  exact hi.1
theorem set3L (x y : BitVec 32) (k : Nat) : orac PP GL HH NN (k + 4) 44 [.c (w4 (mi x)), .c (.slice 1 (is (listI y)))] [] = some ([.c (w4 (mi (x ||| y)))], []) := by
  have := set3 x (listI y) (listI_len y) k
  rwa [setI_listI] at this
theorem set3Z (y : BitVec 32) (k : Nat) : orac PP GL HH NN (k + 4) 44 [.c (w4 0), .c (.slice 1 (is (listI y)))] [] = some ([.c (w4 (mi (0#32 ||| y)))], []) := set3L 0#32 y k
theorem union3 (x : BitVec 32) (y : BitVec 32) (k : Nat) : orac PP GL HH NN (k + 6) 33 [A.c (C.slice 1 [[w4 (mi x)], [w4 (mi y)]])] [] = some ([Res.c (w4 (mi (0#32 ||| x ||| y)))], []) := by
  exact (orac_fn (show PP.funcs[33]? = some _ from rfl) (rs := [Res.c (w4 (mi (0#32 ||| x ||| y)))]) (ims' := []) (gs := [G.un, G.b true, G.idx 0 [w4 (mi x)], G.call [Res.top 1 (is (listI x))] [], G.call [Res.c (w4 (mi (0#32 ||| x)))] [], G.b true, G.idx 1 [w4 (mi y)], G.call [Res.top 1 (is (listI y))] [], G.call [Res.c (w4 (mi (0#32 ||| x ||| y)))] [], G.b false]) (ps := [true = true, (0 : Int) = (↑(0 : Nat) : Int), [[w4 (mi x)], [w4 (mi y)]][0]? = some [w4 (mi x)], orac PP GL HH NN (k + 5) 45 [A.c (w4 (mi x))] [] = some ([Res.top 1 (is (listI x))], []), orac PP GL HH NN (k + 5) 44 [A.c (w4 0), A.c (C.slice 1 (is (listI x)))] [] = some ([Res.c (w4 (mi (0#32 ||| x)))], []), true = true, (1 : Int) = (↑(1 : Nat) : Int), [[w4 (mi x)], [w4 (mi y)]][1]? = some [w4 (mi y)], orac PP GL HH NN (k + 5) 45 [A.c (w4 (mi y))] [] = some ([Res.top 1 (is (listI y))], []), orac PP GL HH NN (k + 5) 44 [A.c (w4 (mi (0#32 ||| x))), A.c (C.slice 1 (is (listI y)))] [] = some ([Res.c (w4 (mi (0#32 ||| x ||| y)))], []), false = false]) (by kernel_rfl) ⟨rfl, rfl, rfl, (list3 _ _), (set3Z _ _), rfl, rfl, rfl, (list3 _ _), (set3L _ _ _), rfl, trivial⟩)
end Go.Dm
