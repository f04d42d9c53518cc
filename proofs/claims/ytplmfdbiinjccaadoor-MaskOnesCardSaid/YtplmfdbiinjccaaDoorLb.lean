/-
  A part of the proofs over this seat: what its functions make of data (the file in which the theorems stand says what is proved).
-/
import Derived.Test.YtplmfdbiinjccaaDoorLa
namespace Go.Dm
open Go
theorem set3L (x y : BitVec 32) (k : Nat) : orac PP GL XX HH NN (k + 4) 21 [.c (w4 (mi x)), .c (.slice 1 (is (listI y)))] [] = some ([.c (w4 (mi (x ||| y)))], []) := by
  have := set3 x (listI y) (Nat.lt_of_le_of_lt (listI_len y) (by omega)) k
  rwa [setI_listI] at this
def S25 (l : List (BitVec 32)) (c0 : Int) (c1 : Int) : St := St.mk [tc (C.slice 1 (ms l)), T.hole, T.hole, tc (w4 c0), tc (ii c1), T.hole, T.hole, T.hole, T.hole, T.hole, T.hole, T.hole, T.hole, T.hole, T.hole, T.hole, T.hole, T.hole, T.hole] [] []
theorem b25_0 (l : List (BitVec 32)) (m : BitVec 32) (i : Nat) (x : BitVec 32) (hx : (ms l)[i]? = some [w4 (mi x)]) (k : Nat) (h0 : (decide ((↑i : Int) < (↑(List.length (ms l)) : Int))) = true) : NextIs (EE (k + 5)) (HH 25) NN (LB PP 25 3) 0 0 (S25 l (mi m) (↑i : Int)) (S25 l (mi (m ||| x)) (IntKind.wrap IntKind.i64 ((↑i : Int) + 1))) :=
  next_of (gs := [G.b true, G.idx i [w4 (mi x)], G.call [Res.top 1 (is (listI x))] [], G.call [Res.c (w4 (mi (m ||| x)))] []]) (ps := [decide ((↑i : Int) < (↑(List.length (ms l)) : Int)) = true, (↑i : Int) = (↑i : Int), (ms l)[i]? = some [w4 (mi x)], orac PP GL XX HH NN (k + 5) 19 [A.c (w4 (mi x))] [] = some ([Res.top 1 (is (listI x))], []), orac PP GL XX HH NN (k + 5) 21 [A.c (w4 (mi m)), A.c (C.slice 1 (is (listI x)))] [] = some ([Res.c (w4 (mi (m ||| x)))], [])]) (by kernel_rfl) ⟨h0, rfl, hx, (list3 _ _), (set3L _ _ _), trivial⟩
def b25_s1 (l : List (BitVec 32)) (m : BitVec 32) (i : Nat) : St := St.mk [tc (C.slice 1 (ms l)), T.hole, T.hole, tc (w4 (mi m)), tc (ii (↑i : Int)), tc (ii (↑i : Int)), tc (C.slice 1 (ms l)), tc (ii (↑(List.length (ms l)) : Int)), tc (bo (decide ((↑i : Int) < (↑(List.length (ms l)) : Int)))), T.hole, T.hole, T.hole, T.hole, T.hole, T.hole, T.hole, T.hole, T.hole, T.hole] [] []
theorem b25_1 (l : List (BitVec 32)) (m : BitVec 32) (i : Nat) (k : Nat) (h0 : (decide ((↑i : Int) < (↑(List.length (ms l)) : Int))) = false) : OutIs (EE (k + 5)) (HH 25) NN (LB PP 25 3) (S25 l (mi m) (↑i : Int)) (Ext.exit 0) (b25_s1 l m i) :=
  out_of (gs := [G.b false]) (ps := [decide ((↑i : Int) < (↑(List.length (ms l)) : Int)) = false]) (by kernel_rfl) ⟨h0, trivial⟩
theorem L25 (l : List (BitVec 32)) (hl : l.length < 9223372036854775808) (s : St) (hs : s.head (HH 25 3) = S25 l 0 0) (k : Nat) : LoopIs (EE (k + 5)) (HH 25) NN (LB PP 25 3) s (.exit 0) (b25_s1 l (orI 0#32 l) l.length) := by
  refine fold_loop (E := EE (k + 5)) (H := HH 25) (n := NN) (b := LB PP 25 3) (s := s) 3 (by kernel_rfl) (fun (m : BitVec 32) (i : Nat) => S25 l (mi m) (i : Nat)) (fun _ _ => True) l
    (fun m x => m ||| x) 0#32 (nv := 0) (nt := 0) (e := .exit 0) (t := fun m => b25_s1 l m l.length) hs (by kernel_rfl) (by kernel_rfl) trivial (fun m i y hy _ => ⟨?_, trivial⟩) (fun _ => ?_) (by unfold NN; omega)
  · have hi := (List.getElem?_eq_some_iff.1 hy).1
    have := b25_0 l m i y (ms_get hy) k (by rw [ms_len]; simp; exact hi)
    rw [w64 hi hl] at this
    exact this
  · exact b25_1 l _ l.length k (by rw [ms_len]; simp)
theorem union3 (l : List (BitVec 32)) (hl : List.length l < (9223372036854775808 : Nat)) (k : Nat) : orac PP GL XX HH NN (k + 6) 25 [A.c (C.slice 1 (ms l))] [] = some ([Res.c (w4 (mi (orI (0#32) l)))], []) := by
  exact (orac_fn (show PP.funcs[25]? = some _ from rfl) (show XX 25 = none from rfl) (rs := [Res.c (w4 (mi (orI (0#32) l)))]) (ims' := []) (gs := [G.loop (Ext.exit 0) (St.mk [tc (C.slice 1 (ms l)), T.hole, T.hole, tc (w4 (mi (orI (0#32) l))), tc (ii (↑(List.length l) : Int)), tc (ii (↑(List.length l) : Int)), tc (C.slice 1 (ms l)), tc (ii (↑(List.length (ms l)) : Int)), tc (bo (decide ((↑(List.length l) : Int) < (↑(List.length (ms l)) : Int)))), T.hole, T.hole, T.hole, T.hole, T.hole, T.hole, T.hole, T.hole, T.hole, T.hole] [] [])]) (ps := [LoopIs (Env.mk PP (orac PP GL XX HH NN (k + (5 : Nat))) GL) (HH (25 : Nat)) NN (LB PP (25 : Nat) (3 : Nat)) (St.mk [tc (C.slice (1 : Nat) (ms l)), T.skip, tc (w4 (0 : Int)), tc (w4 (0 : Int)), tc (ii (0 : Int)), T.skip, T.skip, T.skip, T.skip, T.skip, T.skip, T.skip, T.skip, T.skip, T.skip, T.skip, T.skip, T.skip, T.skip] [] []) (Ext.exit (0 : Nat)) (St.mk [tc (C.slice (1 : Nat) (ms l)), T.hole, T.hole, tc (w4 (mi (orI (BitVec.ofNat (32 : Nat) (0 : Nat)) l))), tc (ii (↑(List.length l) : Int)), tc (ii (↑(List.length l) : Int)), tc (C.slice (1 : Nat) (ms l)), tc (ii (↑(List.length (ms l)) : Int)), tc (bo (decide ((↑(List.length l) : Int) < (↑(List.length (ms l)) : Int)))), T.hole, T.hole, T.hole, T.hole, T.hole, T.hole, T.hole, T.hole, T.hole, T.hole] [] [])]) (by kernel_rfl) ⟨(L25 _ (by first | rfl | assumption | omega | decide | simp_all) _ (by kernel_rfl) _), trivial⟩)
def S14 (n : Int) (c0 : Int) (c1 : Int) : St := St.mk [tc (ii n), T.hole, T.hole, tc (w4 c0), tc (ii c1), T.hole, T.hole, T.hole, T.hole, T.hole, T.hole, T.hole, T.hole, T.hole, T.hole, T.hole, T.hole, T.hole, T.hole, T.hole, T.hole] [] []
theorem b14_0 (n : Nat) (m : Int) (i : Nat) (hi : i ≤ (31 : Nat)) (k : Nat) (h0 : (decide ((↑i : Int) < (↑n : Int))) = true) : NextIs (EE (k + 2)) (HH 14) NN (LB PP 14 5) 0 0 (S14 (↑n : Int) m (↑i : Int)) (S14 (↑n : Int) (IntKind.wrap IntKind.u32 (m + 2 ^ i)) (IntKind.wrap IntKind.i64 ((↑i : Int) + 1))) :=
  next_of (gs := [G.b true, G.call [Res.c (w4 (2 ^ i))] []]) (ps := [decide ((↑i : Int) < (↑n : Int)) = true, orac PP GL XX HH NN (k + 2) 28 [A.c (ii (↑i : Int))] [] = some ([Res.c (w4 (2 ^ i))], [])]) (by kernel_rfl) ⟨h0, (pow _ (by first | rfl | assumption | omega | decide | simp_all) _), trivial⟩
def b14_s1 (n : Nat) (m : Int) (i : Nat) : St := St.mk [tc (ii (↑n : Int)), T.hole, T.hole, tc (w4 m), tc (ii (↑i : Int)), T.hole, T.hole, T.hole, T.hole, T.hole, T.hole, tc (ii (↑i : Int)), tc (ii (↑n : Int)), tc (bo (decide ((↑i : Int) < (↑n : Int)))), T.hole, T.hole, T.hole, T.hole, T.hole, T.hole, T.hole] [] []
theorem b14_1 (n : Nat) (m : Int) (i : Nat) (k : Nat) (h0 : (decide ((↑i : Int) < (↑n : Int))) = false) : OutIs (EE (k + 2)) (HH 14) NN (LB PP 14 5) (S14 (↑n : Int) m (↑i : Int)) (Ext.exit 0) (b14_s1 n m i) :=
  out_of (gs := [G.b false]) (ps := [decide ((↑i : Int) < (↑n : Int)) = false]) (by kernel_rfl) ⟨h0, trivial⟩
theorem two_pow_pred {i : Nat} (h : i ≤ 31) : IntKind.wrap .u32 ((2 : Int) ^ i - 1 + 2 ^ i) = 2 ^ (i + 1) - 1 := by
  have h2 := two_pow_le h
  have e : (2 : Int) ^ (i + 1) = 2 * 2 ^ i := by rw [Int.pow_succ, Int.mul_comm]
  have ew : (2 : Int) ^ i - 1 + 2 ^ i = 2 ^ (i + 1) - 1 := by omega
  rw [ew]
  unfold IntKind.wrap
  simp [IntKind.signed, IntKind.bits]
  omega
theorem L14 (n : Nat) (hn : n ≤ 32) (s : St) (hs : s.head (HH 14 5) = S14 n 0 0) (k : Nat) : LoopIs (EE (k + 2)) (HH 14) NN (LB PP 14 5) s (.exit 0) (b14_s1 n (2 ^ n - 1) n) := by
  refine loop_of (nv := 0) (nt := 0) (fun i => S14 n (2 ^ i - 1) (i : Nat)) n (by rw [show firstRegion (LB PP 14 5) = 5 by kernel_rfl]; exact hs) (by kernel_rfl) (by kernel_rfl) (fun i hi => ?_) ?_ (by unfold NN; omega)
  · have := b14_0 n (2 ^ i - 1) i (by omega) k (by simp; exact hi)
    rw [w64 hi (by omega), two_pow_pred (by omega)] at this
    exact this
  · exact b14_1 n (2 ^ n - 1) n k (by simp)
theorem all3a (n : Nat) (hn : n ≤ (32 : Nat)) (h1 : decide ((↑n : Int) < (1 : Int)) = false) (h2 : decide ((↑n : Int) > (32 : Int)) = false) (k : Nat) : orac PP GL XX HH NN (k + 3) 14 [A.c (ii (↑n : Int))] [] = some ([Res.c (w4 (2 ^ n - 1))], []) := by
  exact (orac_fn (show PP.funcs[14]? = some _ from rfl) (show XX 14 = none from rfl) (rs := [Res.c (w4 (2 ^ n - 1))]) (ims' := []) (gs := [G.b false, G.b false, G.b false, G.b false, G.loop (Ext.exit 0) (St.mk [tc (ii (↑n : Int)), T.hole, T.hole, tc (w4 (2 ^ n - 1)), tc (ii (↑n : Int)), T.hole, T.hole, T.hole, T.hole, T.hole, T.hole, tc (ii (↑n : Int)), tc (ii (↑n : Int)), tc (bo (decide ((↑n : Int) < (↑n : Int)))), T.hole, T.hole, T.hole, T.hole, T.hole, T.hole, T.hole] [] [])]) (ps := [decide ((↑n : Int) < (1 : Int)) = false, decide ((↑n : Int) < (1 : Int)) = false, decide ((↑n : Int) < (1 : Int)) = false, decide ((↑n : Int) > (32 : Int)) = false, LoopIs (Env.mk PP (orac PP GL XX HH NN (k + (2 : Nat))) GL) (HH (14 : Nat)) NN (LB PP (14 : Nat) (5 : Nat)) (St.mk [tc (ii (↑n : Int)), T.skip, tc (w4 (0 : Int)), tc (w4 (0 : Int)), tc (ii (0 : Int)), tc (ii (↑n : Int)), tc (bo (decide ((↑n : Int) < (1 : Int)))), tc (bo (decide ((↑n : Int) < (1 : Int)))), tc (ii (↑n : Int)), tc (bo (decide ((↑n : Int) > (32 : Int)))), tc (bo (decide ((↑n : Int) > (32 : Int)))), T.skip, T.skip, T.skip, T.skip, T.skip, T.skip, T.skip, T.skip, T.skip, T.skip] [] []) (Ext.exit (0 : Nat)) (St.mk [tc (ii (↑n : Int)), T.hole, T.hole, tc (w4 ((2 : Int) ^ n - (1 : Int))), tc (ii (↑n : Int)), T.hole, T.hole, T.hole, T.hole, T.hole, T.hole, tc (ii (↑n : Int)), tc (ii (↑n : Int)), tc (bo (decide ((↑n : Int) < (↑n : Int)))), T.hole, T.hole, T.hole, T.hole, T.hole, T.hole, T.hole] [] [])]) (by kernel_rfl) ⟨h1, h1, h1, h2, (L14 _ (by first | rfl | assumption | omega | decide | simp_all) _ (by kernel_rfl) _), trivial⟩)
theorem all3b (B : Int) (h1 : decide (B < (1 : Int)) = true) (k : Nat) : orac PP GL XX HH NN (k + 3) 14 [A.c (ii B)] [] = some ([Res.c (w4 0)], []) := by
  exact (orac_fn (show PP.funcs[14]? = some _ from rfl) (show XX 14 = none from rfl) (rs := [Res.c (w4 0)]) (ims' := []) (gs := [G.b true, G.b true, G.b true, G.b true]) (ps := [decide (B < (1 : Int)) = true, decide (B < (1 : Int)) = true, decide (B < (1 : Int)) = true, true = true]) (by kernel_rfl) ⟨h1, h1, h1, rfl, trivial⟩)
theorem all3c (B : Int) (h1 : decide (B < (1 : Int)) = false) (h2 : decide (B > (32 : Int)) = true) (k : Nat) : orac PP GL XX HH NN (k + 3) 14 [A.c (ii B)] [] = some ([Res.c (w4 0)], []) := by
  exact (orac_fn (show PP.funcs[14]? = some _ from rfl) (show XX 14 = none from rfl) (rs := [Res.c (w4 0)]) (ims' := []) (gs := [G.b false, G.b false, G.b false, G.b true]) (ps := [decide (B < (1 : Int)) = false, decide (B < (1 : Int)) = false, decide (B < (1 : Int)) = false, decide (B > (32 : Int)) = true]) (by kernel_rfl) ⟨h1, h1, h1, h2, trivial⟩)
theorem pow_all {n : Nat} (h : n ≤ 32) : (2 : Int) ^ n - 1 = mi (BitVec.ofNat 32 (2 ^ n - 1)) := by
  simp only [mi, BitVec.toNat_ofNat]
  have h2 : 2 ^ n ≤ 2 ^ 32 := Nat.pow_le_pow_right (by omega) h
  have h3 : 0 < 2 ^ n := Nat.pow_pos (by omega)
  rw [Nat.mod_eq_of_lt (by omega)]
  have e : ((2 ^ n : Nat) : Int) = (2 : Int) ^ n := by simp
  rw [← e]
  omega
theorem all3 (B : Int) (k : Nat) : orac PP GL XX HH NN (k + 3) 14 [.c (ii B)] [] = some ([.c (w4 (mi (allI B)))], []) := by
  unfold allI
  by_cases h1 : B < 1
  · rw [if_neg (by omega)]
    exact all3b B (decide_eq_true h1) k
  · by_cases h2 : B ≤ 32
    · rw [if_pos ⟨by omega, h2⟩, ← pow_all (by omega)]
      have := all3a B.toNat (by omega) (decide_eq_false (by omega)) (decide_eq_false (by omega)) k
      rwa [Int.toNat_of_nonneg (by omega)] at this
    · rw [if_neg (by omega)]
      exact all3c B (decide_eq_false h1) (decide_eq_true (by omega)) k
def S12 (x : BitVec 32) (c0 : Int) : St := St.mk [tc (w4 (mi x)), T.hole, T.hole, T.hole, T.hole, tc (ii c0), T.hole, T.hole, T.hole, T.hole, T.hole, T.hole, T.hole, T.hole, T.hole, T.hole, T.hole, T.hole, T.hole, T.hole] [] []
def b12_s0 (x : BitVec 32) (i : Nat) : St := St.mk [tc (w4 (mi x)), T.hole, T.hole, T.hole, tc (bo false), tc (ii (↑i : Int)), T.hole, T.hole, T.hole, T.hole, T.hole, T.hole, T.hole, tc (ii (↑i : Int)), tc (bo (decide ((↑i : Int) < 32))), T.hole, T.hole, tc (w4 (mi x)), tc (ii (↑i : Int)), tc (bo (hasI x (↑i : Int)))] [] []
theorem b12_0 (x : BitVec 32) (i : Nat) (k : Nat) (h0 : (decide ((↑i : Int) < 32)) = true) (h1 : (hasI x (↑i : Int)) = true) : OutIs (EE (k + 3)) (HH 12) NN (LB PP 12 4) (S12 x (↑i : Int)) (Ext.ret) (b12_s0 x i) :=
  out_of (gs := [G.b true, G.call [Res.c (bo (hasI x (↑i : Int)))] [], G.b true]) (ps := [decide ((↑i : Int) < (32 : Int)) = true, orac PP GL XX HH NN (k + 3) 10 [A.c (w4 (mi x)), A.c (ii (↑i : Int))] [] = some ([Res.c (bo (hasI x (↑i : Int)))], []), hasI x (↑i : Int) = true]) (by kernel_rfl) ⟨h0, (has3 _ _ _), h1, trivial⟩
theorem b12_1 (x : BitVec 32) (i : Nat) (k : Nat) (h0 : (decide ((↑i : Int) < 32)) = true) (h1 : (hasI x (↑i : Int)) = false) : NextIs (EE (k + 3)) (HH 12) NN (LB PP 12 4) 0 0 (S12 x (↑i : Int)) (S12 x (IntKind.wrap IntKind.i64 ((↑i : Int) + 1))) :=
  next_of (gs := [G.b true, G.call [Res.c (bo (hasI x (↑i : Int)))] [], G.b false]) (ps := [decide ((↑i : Int) < (32 : Int)) = true, orac PP GL XX HH NN (k + 3) 10 [A.c (w4 (mi x)), A.c (ii (↑i : Int))] [] = some ([Res.c (bo (hasI x (↑i : Int)))], []), hasI x (↑i : Int) = false]) (by kernel_rfl) ⟨h0, (has3 _ _ _), h1, trivial⟩
def b12_s2 (x : BitVec 32) (i : Nat) : St := St.mk [tc (w4 (mi x)), T.hole, T.hole, T.hole, T.hole, tc (ii (↑i : Int)), T.hole, T.hole, T.hole, T.hole, T.hole, T.hole, T.hole, tc (ii (↑i : Int)), tc (bo (decide ((↑i : Int) < 32))), T.hole, T.hole, T.hole, T.hole, T.hole] [] []
theorem b12_2 (x : BitVec 32) (i : Nat) (k : Nat) (h0 : (decide ((↑i : Int) < 32)) = false) : OutIs (EE (k + 3)) (HH 12) NN (LB PP 12 4) (S12 x (↑i : Int)) (Ext.exit 0) (b12_s2 x i) :=
  out_of (gs := [G.b false]) (ps := [decide ((↑i : Int) < (32 : Int)) = false]) (by kernel_rfl) ⟨h0, trivial⟩
theorem range'_get {B n i y : Nat} (h : (List.range' B n)[i]? = some y) : y = B + i ∧ i < n := by
  obtain ⟨hi, rfl⟩ := List.getElem?_eq_some_iff.1 h
  simp at hi
  simp [hi]
/-- is none from B on in it? -/
def noneI (x : BitVec 32) (B : Nat) : Bool := (List.range' B (32 - B)).all fun i => !x.getLsbD i
theorem step12 (x : BitVec 32) (B : Nat) (hB : B ≤ 32) (k : Nat) (i y : Nat) (hy : (List.range' B (32 - B))[i]? = some y) (hp : x.getLsbD y = false) : NextIs (EE (k + 3)) (HH 12) NN (LB PP 12 4) 0 0 (S12 x ((B + i : Nat) : Int)) (S12 x ((B + (i + 1) : Nat) : Int)) := by
  obtain ⟨rfl, hi⟩ := range'_get hy
  have := b12_1 x (B + i) k (decide_eq_true (by omega)) (by rw [hasI_nat x (by omega)]; exact hp)
  rw [w64 (show B + i < 32 by omega) (by omega)] at this
  exact this
theorem L12_hit (x : BitVec 32) (B : Nat) (hB : B ≤ 32) (hb : noneI x B = false) (s : St) (hs : s.head (HH 12 4) = S12 x B) (k : Nat) : LoopIs (EE (k + 3)) (HH 12) NN (LB PP 12 4) s .ret (b12_s0 x (B + (List.range' B (32 - B)).findIdx x.getLsbD)) := by
  have hany : (List.range' B (32 - B)).any x.getLsbD = true := by
    unfold noneI at hb
    rw [List.all_eq_not_any_not] at hb
    simpa using hb
  have hj := findIdx_lt_of_any hany
  refine find_hit (E := EE (k + 3)) (n := NN) (b := LB PP 12 4) 4 (by kernel_rfl) (fun i => S12 x ((B + i : Nat) : Int)) (List.range' B (32 - B)) x.getLsbD (nv := 0) (nt := 0) (by simpa using hs) (by kernel_rfl) (by kernel_rfl)
    (fun i y hy hp => step12 x B hB k i y hy hp) (fun y hy hp => ?_) hj (by unfold NN; simp; omega)
  obtain ⟨rfl, hi⟩ := range'_get hy
  exact b12_0 x _ k (decide_eq_true (by omega)) (by rw [hasI_nat x (by omega)]; exact hp)
theorem L12_miss (x : BitVec 32) (B : Nat) (hB : B ≤ 32) (hb : noneI x B = true) (s : St) (hs : s.head (HH 12 4) = S12 x B) (k : Nat) : LoopIs (EE (k + 3)) (HH 12) NN (LB PP 12 4) s (.exit 0) (b12_s2 x 32) := by
  refine find_miss (E := EE (k + 3)) (n := NN) (b := LB PP 12 4) 4 (by kernel_rfl) (fun i => S12 x ((B + i : Nat) : Int)) (List.range' B (32 - B)) x.getLsbD (nv := 0) (nt := 0) (by simpa using hs) (by kernel_rfl) (by kernel_rfl)
    (fun i y hy hp => step12 x B hB k i y hy hp) ?_ hb (by unfold NN; simp; omega)
  rw [List.length_range', show B + (32 - B) = 32 by omega]
  exact b12_2 x 32 k (by decide)
theorem right3a (x : BitVec 32) (B : Nat) (hB : B ≤ (32 : Nat)) (h1 : decide ((↑B : Int) < (1 : Int)) = false) (h2 : decide ((↑B : Int) > (32 : Int)) = false) (hb : noneI x B = true) (k : Nat) : orac PP GL XX HH NN (k + 4) 12 [A.c (w4 (mi x)), A.c (ii (↑B : Int))] [] = some ([Res.c (bo true)], []) := by
  exact (orac_fn (show PP.funcs[12]? = some _ from rfl) (show XX 12 = none from rfl) (rs := [Res.c (bo true)]) (ims' := []) (gs := [G.b false, G.b false, G.b false, G.b false, G.loop (Ext.exit 0) (St.mk [tc (w4 (mi x)), T.hole, T.hole, T.hole, T.hole, tc (ii 32), T.hole, T.hole, T.hole, T.hole, T.hole, T.hole, T.hole, tc (ii 32), tc (bo false), T.hole, T.hole, T.hole, T.hole, T.hole] [] [])]) (ps := [decide ((↑B : Int) < (1 : Int)) = false, decide ((↑B : Int) < (1 : Int)) = false, decide ((↑B : Int) < (1 : Int)) = false, decide ((↑B : Int) > (32 : Int)) = false, LoopIs (Env.mk PP (orac PP GL XX HH NN (k + (3 : Nat))) GL) (HH (12 : Nat)) NN (LB PP (12 : Nat) (4 : Nat)) (St.mk [tc (w4 (mi x)), tc (ii (↑B : Int)), T.skip, T.skip, tc (bo false), tc (ii (↑B : Int)), tc (ii (↑B : Int)), tc (bo (decide ((↑B : Int) < (1 : Int)))), tc (bo (decide ((↑B : Int) < (1 : Int)))), tc (ii (↑B : Int)), tc (bo (decide ((↑B : Int) > (32 : Int)))), tc (bo (decide ((↑B : Int) > (32 : Int)))), tc (ii (↑B : Int)), T.skip, T.skip, T.skip, T.skip, T.skip, T.skip, T.skip] [] []) (Ext.exit (0 : Nat)) (St.mk [tc (w4 (mi x)), T.hole, T.hole, T.hole, T.hole, tc (ii (32 : Int)), T.hole, T.hole, T.hole, T.hole, T.hole, T.hole, T.hole, tc (ii (32 : Int)), tc (bo false), T.hole, T.hole, T.hole, T.hole, T.hole] [] [])]) (by kernel_rfl) ⟨h1, h1, h1, h2, (L12_miss _ _ (by first | rfl | assumption | omega | decide | simp_all) hb _ (by kernel_rfl) _), trivial⟩)
theorem right3b (x : BitVec 32) (B : Nat) (hB : B ≤ (32 : Nat)) (h1 : decide ((↑B : Int) < (1 : Int)) = false) (h2 : decide ((↑B : Int) > (32 : Int)) = false) (hb : noneI x B = false) (k : Nat) : orac PP GL XX HH NN (k + 4) 12 [A.c (w4 (mi x)), A.c (ii (↑B : Int))] [] = some ([Res.c (bo false)], []) := by
  exact (orac_fn (show PP.funcs[12]? = some _ from rfl) (show XX 12 = none from rfl) (rs := [Res.c (bo false)]) (ims' := []) (gs := [G.b false, G.b false, G.b false, G.b false, G.loop Ext.ret (St.mk [tc (w4 (mi x)), T.hole, T.hole, T.hole, tc (bo false), tc (ii (↑(B + List.findIdx (BitVec.getLsbD x) (List.range' B (32 - B))) : Int)), T.hole, T.hole, T.hole, T.hole, T.hole, T.hole, T.hole, tc (ii (↑(B + List.findIdx (BitVec.getLsbD x) (List.range' B (32 - B))) : Int)), tc (bo (decide ((↑(B + List.findIdx (BitVec.getLsbD x) (List.range' B (32 - B))) : Int) < 32))), T.hole, T.hole, tc (w4 (mi x)), tc (ii (↑(B + List.findIdx (BitVec.getLsbD x) (List.range' B (32 - B))) : Int)), tc (bo (hasI x (↑(B + List.findIdx (BitVec.getLsbD x) (List.range' B (32 - B))) : Int)))] [] [])]) (ps := [decide ((↑B : Int) < (1 : Int)) = false, decide ((↑B : Int) < (1 : Int)) = false, decide ((↑B : Int) < (1 : Int)) = false, decide ((↑B : Int) > (32 : Int)) = false, LoopIs (Env.mk PP (orac PP GL XX HH NN (k + (3 : Nat))) GL) (HH (12 : Nat)) NN (LB PP (12 : Nat) (4 : Nat)) (St.mk [tc (w4 (mi x)), tc (ii (↑B : Int)), T.skip, T.skip, tc (bo false), tc (ii (↑B : Int)), tc (ii (↑B : Int)), tc (bo (decide ((↑B : Int) < (1 : Int)))), tc (bo (decide ((↑B : Int) < (1 : Int)))), tc (ii (↑B : Int)), tc (bo (decide ((↑B : Int) > (32 : Int)))), tc (bo (decide ((↑B : Int) > (32 : Int)))), tc (ii (↑B : Int)), T.skip, T.skip, T.skip, T.skip, T.skip, T.skip, T.skip] [] []) Ext.ret (St.mk [tc (w4 (mi x)), T.hole, T.hole, T.hole, tc (bo false), tc (ii (↑(B + List.findIdx (BitVec.getLsbD x) (List.range' B ((32 : Nat) - B))) : Int)), T.hole, T.hole, T.hole, T.hole, T.hole, T.hole, T.hole, tc (ii (↑(B + List.findIdx (BitVec.getLsbD x) (List.range' B ((32 : Nat) - B))) : Int)), tc (bo (decide ((↑(B + List.findIdx (BitVec.getLsbD x) (List.range' B ((32 : Nat) - B))) : Int) < (32 : Int)))), T.hole, T.hole, tc (w4 (mi x)), tc (ii (↑(B + List.findIdx (BitVec.getLsbD x) (List.range' B ((32 : Nat) - B))) : Int)), tc (bo (hasI x (↑(B + List.findIdx (BitVec.getLsbD x) (List.range' B ((32 : Nat) - B))) : Int)))] [] [])]) (by kernel_rfl) ⟨h1, h1, h1, h2, (L12_hit _ _ (by first | rfl | assumption | omega | decide | simp_all) hb _ (by kernel_rfl) _), trivial⟩)
theorem right3c (x : BitVec 32) (B : Int) (h1 : decide (B < (1 : Int)) = true) (k : Nat) : orac PP GL XX HH NN (k + 4) 12 [A.c (w4 (mi x)), A.c (ii B)] [] = some ([Res.c (bo false)], []) := by
  exact (orac_fn (show PP.funcs[12]? = some _ from rfl) (show XX 12 = none from rfl) (rs := [Res.c (bo false)]) (ims' := []) (gs := [G.b true, G.b true, G.b true, G.b true]) (ps := [decide (B < (1 : Int)) = true, decide (B < (1 : Int)) = true, decide (B < (1 : Int)) = true, true = true]) (by kernel_rfl) ⟨h1, h1, h1, rfl, trivial⟩)
theorem right3d (x : BitVec 32) (B : Int) (h1 : decide (B < (1 : Int)) = false) (h2 : decide (B > (32 : Int)) = true) (k : Nat) : orac PP GL XX HH NN (k + 4) 12 [A.c (w4 (mi x)), A.c (ii B)] [] = some ([Res.c (bo false)], []) := by
  exact (orac_fn (show PP.funcs[12]? = some _ from rfl) (show XX 12 = none from rfl) (rs := [Res.c (bo false)]) (ims' := []) (gs := [G.b false, G.b false, G.b false, G.b true]) (ps := [decide (B < (1 : Int)) = false, decide (B < (1 : Int)) = false, decide (B < (1 : Int)) = false, decide (B > (32 : Int)) = true]) (by kernel_rfl) ⟨h1, h1, h1, h2, trivial⟩)
theorem allI_bit {n j : Nat} (hn : n ≤ 32) (hj : j < 32) : (BitVec.ofNat 32 (2 ^ n - 1)).getLsbD j = decide (j < n) := by
  rw [BitVec.getLsbD_ofNat, Nat.testBit_two_pow_sub_one]
  simp [hj]
theorem noneI_eq (x : BitVec 32) (n : Nat) (h1 : 1 ≤ n) (h2 : n ≤ 32) : noneI x n = (x &&& ~~~allI n == 0#32) := by
  unfold noneI allI
  rw [if_pos ⟨by omega, by omega⟩, Int.toNat_natCast, Bool.eq_iff_iff, List.all_eq_true, beq_iff_eq]
  constructor
  · intro h
    apply BitVec.eq_of_getLsbD_eq
    intro j hj
    simp only [BitVec.getLsbD_and, BitVec.getLsbD_not, BitVec.getLsbD_zero, hj, decide_true, Bool.true_and, allI_bit h2 hj]
    by_cases hjn : j < n
    · simp [hjn]
    · have := h j (by simp; omega)
      simp at this
      simp [this]
  · intro h j hj
    simp at hj
    have := congrArg (fun b : BitVec 32 => b.getLsbD j) h
    simp only [BitVec.getLsbD_and, BitVec.getLsbD_not, BitVec.getLsbD_zero, allI_bit h2 (show j < 32 by omega)] at this
    rw [decide_eq_false (by omega : ¬ j < n), decide_eq_true (by omega : j < 32)] at this
    simpa using this
theorem right3 (x : BitVec 32) (B : Int) (k : Nat) : orac PP GL XX HH NN (k + 4) 12 [.c (w4 (mi x)), .c (ii B)] [] = some ([.c (bo (rightI x B))], []) := by
  unfold rightI
  by_cases h1 : B < 1
  · rw [decide_eq_false (by omega : ¬ 1 ≤ B), Bool.false_and, Bool.false_and]
    exact right3c x B (decide_eq_true h1) k
  · by_cases h2 : B ≤ 32
    · rw [decide_eq_true (by omega : 1 ≤ B), decide_eq_true h2, Bool.true_and, Bool.true_and]
      obtain ⟨n, rfl⟩ := Int.eq_ofNat_of_zero_le (a := B) (by omega)
      rw [← noneI_eq x n (by omega) (by omega)]
      cases hb : noneI x n with
      | true => exact right3a x n (by omega) (decide_eq_false (by omega)) (decide_eq_false (by omega)) hb k
      | false => exact right3b x n (by omega) (decide_eq_false (by omega)) (decide_eq_false (by omega)) hb k
    · rw [decide_eq_false h2, Bool.and_false, Bool.false_and]
      exact right3d x B (decide_eq_false h1) (decide_eq_true (by omega)) k
def S8 (x : BitVec 32) (f : Int) (c0 : Int) : St := St.mk [tc (w4 (mi x)), tc (ii f), T.hole, T.hole, T.hole, T.hole, tc (ii c0), T.hole, T.hole, T.hole, T.hole, T.hole, T.hole, T.hole, T.hole, T.hole, T.hole, T.hole, T.hole, T.hole] [] []
def b8_s0 (x : BitVec 32) (f : Int) (i : Nat) : St := St.mk [tc (w4 (mi x)), tc (ii f), T.hole, T.hole, tc (ii (↑i : Int)), tc (bo true), tc (ii (↑i : Int)), tc (ii (↑i : Int)), tc (bo (decide ((↑i : Int) < 32))), T.hole, T.hole, tc (ii (↑i : Int)), tc (ii f), tc (bo (decide ((↑i : Int) ≥ f))), tc (bo (decide ((↑i : Int) ≥ f))), tc (w4 (mi x)), tc (ii (↑i : Int)), tc (bo (hasI x (↑i : Int))), tc (bo (hasI x (↑i : Int))), tc (ii (↑i : Int))] [] []
theorem b8_0 (x : BitVec 32) (f : Int) (i : Nat) (k : Nat) (h0 : (decide ((↑i : Int) < 32)) = true) (h1 : (decide ((↑i : Int) ≥ f)) = true) (h2 : (hasI x (↑i : Int)) = true) : OutIs (EE (k + 3)) (HH 8) NN (LB PP 8 2) (S8 x f (↑i : Int)) (Ext.ret) (b8_s0 x f i) :=
  out_of (gs := [G.b true, G.b true, G.b true, G.b true, G.call [Res.c (bo (hasI x (↑i : Int)))] [], G.b true, G.b true]) (ps := [decide ((↑i : Int) < (32 : Int)) = true, decide ((↑i : Int) ≥ f) = true, decide ((↑i : Int) ≥ f) = true, decide ((↑i : Int) ≥ f) = true, orac PP GL XX HH NN (k + 3) 10 [A.c (w4 (mi x)), A.c (ii (↑i : Int))] [] = some ([Res.c (bo (hasI x (↑i : Int)))], []), decide ((↑i : Int) ≥ f) = true, hasI x (↑i : Int) = true]) (by kernel_rfl) ⟨h0, h1, h1, h1, (has3 _ _ _), h1, h2, trivial⟩
theorem b8_1 (x : BitVec 32) (f : Int) (i : Nat) (k : Nat) (h0 : (decide ((↑i : Int) < 32)) = true) (h1 : (decide ((↑i : Int) ≥ f)) = true) (h2 : (hasI x (↑i : Int)) = false) : NextIs (EE (k + 3)) (HH 8) NN (LB PP 8 2) 0 0 (S8 x f (↑i : Int)) (S8 x f (IntKind.wrap IntKind.i64 ((↑i : Int) + 1))) :=
  next_of (gs := [G.b true, G.b true, G.b true, G.b true, G.call [Res.c (bo (hasI x (↑i : Int)))] [], G.b true, G.b false]) (ps := [decide ((↑i : Int) < (32 : Int)) = true, decide ((↑i : Int) ≥ f) = true, decide ((↑i : Int) ≥ f) = true, decide ((↑i : Int) ≥ f) = true, orac PP GL XX HH NN (k + 3) 10 [A.c (w4 (mi x)), A.c (ii (↑i : Int))] [] = some ([Res.c (bo (hasI x (↑i : Int)))], []), decide ((↑i : Int) ≥ f) = true, hasI x (↑i : Int) = false]) (by kernel_rfl) ⟨h0, h1, h1, h1, (has3 _ _ _), h1, h2, trivial⟩
theorem b8_2 (x : BitVec 32) (f : Int) (i : Nat) (k : Nat) (h0 : (decide ((↑i : Int) < 32)) = true) (h1 : (decide ((↑i : Int) ≥ f)) = false) : NextIs (EE (k + 3)) (HH 8) NN (LB PP 8 2) 0 0 (S8 x f (↑i : Int)) (S8 x f (IntKind.wrap IntKind.i64 ((↑i : Int) + 1))) :=
  next_of (gs := [G.b true, G.b false, G.b false, G.b false, G.b false, G.b false]) (ps := [decide ((↑i : Int) < (32 : Int)) = true, decide ((↑i : Int) ≥ f) = false, decide ((↑i : Int) ≥ f) = false, decide ((↑i : Int) ≥ f) = false, decide ((↑i : Int) ≥ f) = false, false = false]) (by kernel_rfl) ⟨h0, h1, h1, h1, h1, rfl, trivial⟩
def b8_s3 (x : BitVec 32) (f : Int) (i : Nat) : St := St.mk [tc (w4 (mi x)), tc (ii f), T.hole, T.hole, T.hole, T.hole, tc (ii (↑i : Int)), tc (ii (↑i : Int)), tc (bo (decide ((↑i : Int) < 32))), T.hole, T.hole, T.hole, T.hole, T.hole, T.hole, T.hole, T.hole, T.hole, T.hole, T.hole] [] []
theorem b8_3 (x : BitVec 32) (f : Int) (i : Nat) (k : Nat) (h0 : (decide ((↑i : Int) < 32)) = false) : OutIs (EE (k + 3)) (HH 8) NN (LB PP 8 2) (S8 x f (↑i : Int)) (Ext.exit 0) (b8_s3 x f i) :=
  out_of (gs := [G.b false]) (ps := [decide ((↑i : Int) < (32 : Int)) = false]) (by kernel_rfl) ⟨h0, trivial⟩
def pN (x : BitVec 32) (f : Int) (i : Nat) : Bool := decide ((i : Int) ≥ f) && x.getLsbD i
theorem range_get {n i y : Nat} (h : (List.range n)[i]? = some y) : y = i ∧ i < n := by
  obtain ⟨hi, rfl⟩ := List.getElem?_eq_some_iff.1 h
  simp at hi
  simp [hi]
theorem step8 (x : BitVec 32) (f : Int) (k : Nat) (i y : Nat) (hy : (List.range 32)[i]? = some y) (hp : pN x f y = false) : NextIs (EE (k + 3)) (HH 8) NN (LB PP 8 2) 0 0 (S8 x f (i : Nat)) (S8 x f ((i + 1 : Nat) : Int)) := by
  obtain ⟨rfl, hi⟩ := range_get hy
  have e := w64 hi (show 32 < 9223372036854775808 by omega)
  unfold pN at hp
  cases h1 : decide ((y : Int) ≥ f) with
  | false =>
    have := b8_2 x f y k (decide_eq_true (by omega)) h1
    rwa [e] at this
  | true =>
    rw [h1, Bool.true_and] at hp
    have := b8_1 x f y k (decide_eq_true (by omega)) h1 (by rw [hasI_nat x hi]; exact hp)
    rwa [e] at this
theorem L8_hit (x : BitVec 32) (f : Int) (hb : (List.range 32).any (pN x f) = true) (s : St) (hs : s.head (HH 8 2) = S8 x f 0) (k : Nat) : LoopIs (EE (k + 3)) (HH 8) NN (LB PP 8 2) s .ret (b8_s0 x f ((List.range 32).findIdx (pN x f))) := by
  refine find_hit (E := EE (k + 3)) (n := NN) (b := LB PP 8 2) 2 (by kernel_rfl) (fun i => S8 x f (i : Nat)) (List.range 32) (pN x f) (nv := 0) (nt := 0) hs (by kernel_rfl) (by kernel_rfl)
    (fun i y hy hp => step8 x f k i y hy hp) (fun y hy hp => ?_) (findIdx_lt_of_any hb) (by rw [List.length_range]; unfold NN; omega)
  obtain ⟨e, hi⟩ := range_get hy
  rw [e] at hp
  unfold pN at hp
  simp only [Bool.and_eq_true] at hp
  exact b8_0 x f _ k (decide_eq_true (by omega)) hp.1 (by rw [hasI_nat x hi]; exact hp.2)
theorem L8_miss (x : BitVec 32) (f : Int) (hb : (List.range 32).any (pN x f) = false) (s : St) (hs : s.head (HH 8 2) = S8 x f 0) (k : Nat) : LoopIs (EE (k + 3)) (HH 8) NN (LB PP 8 2) s (.exit 0) (b8_s3 x f 32) := by
  refine find_miss (E := EE (k + 3)) (n := NN) (b := LB PP 8 2) 2 (by kernel_rfl) (fun i => S8 x f (i : Nat)) (List.range 32) (pN x f) (nv := 0) (nt := 0) hs (by kernel_rfl) (by kernel_rfl)
    (fun i y hy hp => step8 x f k i y hy hp) ?_ (all_of_any hb) (by rw [List.length_range]; unfold NN; omega)
  rw [List.length_range]
  exact b8_3 x f 32 k (by decide)
theorem next3a (x : BitVec 32) (f : Int) (hb : List.any (List.range (32 : Nat)) (pN x f) = true) (k : Nat) : orac PP GL XX HH NN (k + 4) 8 [A.c (w4 (mi x)), A.c (ii f)] [] = some ([Res.c (ii (↑(List.findIdx (pN x f) (List.range 32)) : Int)), Res.c (bo true)], []) := by
  exact (orac_fn (show PP.funcs[8]? = some _ from rfl) (show XX 8 = none from rfl) (rs := [Res.c (ii (↑(List.findIdx (pN x f) (List.range 32)) : Int)), Res.c (bo true)]) (ims' := []) (gs := [G.loop Ext.ret (St.mk [tc (w4 (mi x)), tc (ii f), T.hole, T.hole, tc (ii (↑(List.findIdx (pN x f) (List.range 32)) : Int)), tc (bo true), tc (ii (↑(List.findIdx (pN x f) (List.range 32)) : Int)), tc (ii (↑(List.findIdx (pN x f) (List.range 32)) : Int)), tc (bo (decide ((↑(List.findIdx (pN x f) (List.range 32)) : Int) < 32))), T.hole, T.hole, tc (ii (↑(List.findIdx (pN x f) (List.range 32)) : Int)), tc (ii f), tc (bo (decide ((↑(List.findIdx (pN x f) (List.range 32)) : Int) ≥ f))), tc (bo (decide ((↑(List.findIdx (pN x f) (List.range 32)) : Int) ≥ f))), tc (w4 (mi x)), tc (ii (↑(List.findIdx (pN x f) (List.range 32)) : Int)), tc (bo (hasI x (↑(List.findIdx (pN x f) (List.range 32)) : Int))), tc (bo (hasI x (↑(List.findIdx (pN x f) (List.range 32)) : Int))), tc (ii (↑(List.findIdx (pN x f) (List.range 32)) : Int))] [] [])]) (ps := [LoopIs (Env.mk PP (orac PP GL XX HH NN (k + (3 : Nat))) GL) (HH (8 : Nat)) NN (LB PP (8 : Nat) (2 : Nat)) (St.mk [tc (w4 (mi x)), tc (ii f), T.skip, T.skip, tc (ii (0 : Int)), tc (bo false), tc (ii (0 : Int)), T.skip, T.skip, T.skip, T.skip, T.skip, T.skip, T.skip, T.skip, T.skip, T.skip, T.skip, T.skip, T.skip] [] []) Ext.ret (St.mk [tc (w4 (mi x)), tc (ii f), T.hole, T.hole, tc (ii (↑(List.findIdx (pN x f) (List.range (32 : Nat))) : Int)), tc (bo true), tc (ii (↑(List.findIdx (pN x f) (List.range (32 : Nat))) : Int)), tc (ii (↑(List.findIdx (pN x f) (List.range (32 : Nat))) : Int)), tc (bo (decide ((↑(List.findIdx (pN x f) (List.range (32 : Nat))) : Int) < (32 : Int)))), T.hole, T.hole, tc (ii (↑(List.findIdx (pN x f) (List.range (32 : Nat))) : Int)), tc (ii f), tc (bo (decide ((↑(List.findIdx (pN x f) (List.range (32 : Nat))) : Int) ≥ f))), tc (bo (decide ((↑(List.findIdx (pN x f) (List.range (32 : Nat))) : Int) ≥ f))), tc (w4 (mi x)), tc (ii (↑(List.findIdx (pN x f) (List.range (32 : Nat))) : Int)), tc (bo (hasI x (↑(List.findIdx (pN x f) (List.range (32 : Nat))) : Int))), tc (bo (hasI x (↑(List.findIdx (pN x f) (List.range (32 : Nat))) : Int))), tc (ii (↑(List.findIdx (pN x f) (List.range (32 : Nat))) : Int))] [] [])]) (by kernel_rfl) ⟨(L8_hit _ _ hb _ (by kernel_rfl) _), trivial⟩)
theorem next3b (x : BitVec 32) (f : Int) (hb : List.any (List.range (32 : Nat)) (pN x f) = false) (k : Nat) : orac PP GL XX HH NN (k + 4) 8 [A.c (w4 (mi x)), A.c (ii f)] [] = some ([Res.c (ii 0), Res.c (bo false)], []) := by
  exact (orac_fn (show PP.funcs[8]? = some _ from rfl) (show XX 8 = none from rfl) (rs := [Res.c (ii 0), Res.c (bo false)]) (ims' := []) (gs := [G.loop (Ext.exit 0) (St.mk [tc (w4 (mi x)), tc (ii f), T.hole, T.hole, T.hole, T.hole, tc (ii 32), tc (ii 32), tc (bo false), T.hole, T.hole, T.hole, T.hole, T.hole, T.hole, T.hole, T.hole, T.hole, T.hole, T.hole] [] [])]) (ps := [LoopIs (Env.mk PP (orac PP GL XX HH NN (k + (3 : Nat))) GL) (HH (8 : Nat)) NN (LB PP (8 : Nat) (2 : Nat)) (St.mk [tc (w4 (mi x)), tc (ii f), T.skip, T.skip, tc (ii (0 : Int)), tc (bo false), tc (ii (0 : Int)), T.skip, T.skip, T.skip, T.skip, T.skip, T.skip, T.skip, T.skip, T.skip, T.skip, T.skip, T.skip, T.skip] [] []) (Ext.exit (0 : Nat)) (St.mk [tc (w4 (mi x)), tc (ii f), T.hole, T.hole, T.hole, T.hole, tc (ii (32 : Int)), tc (ii (32 : Int)), tc (bo false), T.hole, T.hole, T.hole, T.hole, T.hole, T.hole, T.hole, T.hole, T.hole, T.hole, T.hole] [] [])]) (by kernel_rfl) ⟨(L8_miss _ _ hb _ (by kernel_rfl) _), trivial⟩)
theorem nextI_eq (x : BitVec 32) (f : Int) : nextI x f = if (List.range 32).any (pN x f) then some (((List.range 32).findIdx (pN x f) : Nat) : Int) else none := by
  have e : nextI x f = ((List.range 32).find? (pN x f)).map fun (i : Nat) => (i : Int) := by
    unfold nextI listI listB
    rw [List.find?_map, List.find?_filter]
    congr 2
    funext i
    unfold pN
    simp only [Function.comp, Bool.decide_and, Bool.decide_eq_true, ge_iff_le]
    rw [Bool.and_comm]
  rw [e]
  cases hb : (List.range 32).any (pN x f) with
  | true =>
    have hj := findIdx_lt_of_any hb
    rw [List.find?_eq_getElem?_findIdx, List.getElem?_eq_getElem hj]
    simp
  | false =>
    have h := all_of_any hb
    rw [List.find?_eq_none.2 (fun i hi => by have := List.all_eq_true.1 h i hi; simpa using this)]
    rfl
theorem next3 (x : BitVec 32) (f : Int) (k : Nat) : orac PP GL XX HH NN (k + 4) 8 [.c (w4 (mi x)), .c (ii f)] [] = some ([.c (ii ((nextI x f).getD 0)), .c (bo (nextI x f).isSome)], []) := by
  rw [nextI_eq]
  cases hb : (List.range 32).any (pN x f) with
  | true => exact next3a x f hb k
  | false => exact next3b x f hb k
def S17 (a : List Int) (b : List Int) (c0 : Int) : St := St.mk [tc (C.slice 1 (is a)), tc (C.slice 1 (is b)), T.hole, T.hole, T.hole, tc (ii c0), T.hole, T.hole, T.hole, T.hole, T.hole, T.hole, T.hole, T.hole, T.hole, T.hole, T.hole, T.hole, T.hole, T.hole, T.hole, T.hole, T.hole, T.hole, T.hole, T.hole] [] []
theorem b17_0 (a : List Int) (b : List Int) (i : Nat) (x : Int) (y : Int) (hx : (is a)[i]? = some [ii x]) (hy : (is b)[i]? = some [ii y]) (k : Nat) (h0 : (decide ((↑i : Int) < (↑(List.length (is a)) : Int))) = true) (h1 : (x == y) = true) : NextIs (EE (k + 1)) (HH 17) NN (LB PP 17 4) 0 0 (S17 a b (↑i : Int)) (S17 a b (IntKind.wrap IntKind.i64 ((↑i : Int) + 1))) :=
  next_of (gs := [G.b true, G.idx i [ii x], G.idx i [ii y], G.b false]) (ps := [decide ((↑i : Int) < (↑(List.length (is a)) : Int)) = true, (↑i : Int) = (↑i : Int), (is a)[i]? = some [ii x], (↑i : Int) = (↑i : Int), (is b)[i]? = some [ii y], (x != y) = false]) (by kernel_rfl) ⟨h0, rfl, hx, rfl, hy, (congrArg not h1), trivial⟩
def b17_s1 (a : List Int) (b : List Int) (i : Nat) (x : Int) (y : Int) : St := St.mk [tc (C.slice 1 (is a)), tc (C.slice 1 (is b)), T.hole, T.hole, tc (bo false), tc (ii (↑i : Int)), T.hole, T.hole, T.hole, T.hole, T.hole, tc (ii (↑i : Int)), tc (C.slice 1 (is a)), tc (ii (↑(List.length (is a)) : Int)), tc (bo (decide ((↑i : Int) < (↑(List.length (is a)) : Int)))), T.hole, T.hole, tc (C.slice 1 (is a)), tc (ii (↑i : Int)), tc (C.rptr [ii x]), tc (ii x), tc (C.slice 1 (is b)), tc (ii (↑i : Int)), tc (C.rptr [ii y]), tc (ii y), tc (bo (x != y))] [] []
theorem b17_1 (a : List Int) (b : List Int) (i : Nat) (x : Int) (y : Int) (hx : (is a)[i]? = some [ii x]) (hy : (is b)[i]? = some [ii y]) (k : Nat) (h0 : (decide ((↑i : Int) < (↑(List.length (is a)) : Int))) = true) (h1 : (x == y) = false) : OutIs (EE (k + 1)) (HH 17) NN (LB PP 17 4) (S17 a b (↑i : Int)) (Ext.ret) (b17_s1 a b i x y) :=
  out_of (gs := [G.b true, G.idx i [ii x], G.idx i [ii y], G.b true]) (ps := [decide ((↑i : Int) < (↑(List.length (is a)) : Int)) = true, (↑i : Int) = (↑i : Int), (is a)[i]? = some [ii x], (↑i : Int) = (↑i : Int), (is b)[i]? = some [ii y], (x != y) = true]) (by kernel_rfl) ⟨h0, rfl, hx, rfl, hy, (congrArg not h1), trivial⟩
def b17_s2 (a : List Int) (b : List Int) (i : Nat) : St := St.mk [tc (C.slice 1 (is a)), tc (C.slice 1 (is b)), T.hole, T.hole, T.hole, tc (ii (↑i : Int)), T.hole, T.hole, T.hole, T.hole, T.hole, tc (ii (↑i : Int)), tc (C.slice 1 (is a)), tc (ii (↑(List.length (is a)) : Int)), tc (bo (decide ((↑i : Int) < (↑(List.length (is a)) : Int)))), T.hole, T.hole, T.hole, T.hole, T.hole, T.hole, T.hole, T.hole, T.hole, T.hole, T.hole] [] []
theorem b17_2 (a : List Int) (b : List Int) (i : Nat) (k : Nat) (h0 : (decide ((↑i : Int) < (↑(List.length (is a)) : Int))) = false) : OutIs (EE (k + 1)) (HH 17) NN (LB PP 17 4) (S17 a b (↑i : Int)) (Ext.exit 0) (b17_s2 a b i) :=
  out_of (gs := [G.b false]) (ps := [decide ((↑i : Int) < (↑(List.length (is a)) : Int)) = false]) (by kernel_rfl) ⟨h0, trivial⟩
theorem zip_get {a b : List Int} {i : Nat} {p : Int × Int} (h : (a.zip b)[i]? = some p) : a[i]? = some p.1 ∧ b[i]? = some p.2 := by
  rw [List.getElem?_zip_eq_some] at h
  exact h
theorem L17_hit (a b : List Int) (hl : a.length = b.length) (ha : a.length < 9223372036854775808) (j : Nat) (hj : (a.zip b).findIdx (fun p => !(p.1 == p.2)) = j) (x y : Int) (hx : a[j]? = some x) (hy : b[j]? = some y) (hne : (x == y) = false) (s : St) (hs : s.head (HH 17 4) = S17 a b 0) (k : Nat) :
    LoopIs (EE (k + 1)) (HH 17) NN (LB PP 17 4) s .ret (b17_s1 a b j x y) := by
  have hlz : (a.zip b).length = a.length := by simp [hl]
  have hi := (List.getElem?_eq_some_iff.1 hx).1
  subst hj
  refine find_hit (E := EE (k + 1)) (n := NN) (b := LB PP 17 4) 4 (by kernel_rfl) (fun i => S17 a b (i : Nat)) (a.zip b) (fun p => !(p.1 == p.2)) (nv := 0) (nt := 0) hs (by kernel_rfl) (by kernel_rfl)
    (fun i p hy hp => ?_) (fun p hy' hp => ?_) (by omega) (by rw [hlz]; unfold NN; omega)
  · obtain ⟨h1, h2⟩ := zip_get hy
    have hi := (List.getElem?_eq_some_iff.1 h1).1
    have := b17_0 a b i p.1 p.2 (is_get h1) (is_get h2) k (by rw [is_len]; exact decide_eq_true (by omega)) (by simpa using hp)
    rwa [w64 hi ha] at this
  · exact b17_1 a b _ _ _ (is_get hx) (is_get hy) k (by rw [is_len]; exact decide_eq_true (by omega)) hne
theorem L17_miss (a b : List Int) (hl : a.length = b.length) (ha : a.length < 9223372036854775808) (hb : (a.zip b).any (fun p => !(p.1 == p.2)) = false) (s : St) (hs : s.head (HH 17 4) = S17 a b 0) (k : Nat) :
    LoopIs (EE (k + 1)) (HH 17) NN (LB PP 17 4) s (.exit 0) (b17_s2 a b a.length) := by
  have hlz : (a.zip b).length = a.length := by simp [hl]
  refine find_miss (E := EE (k + 1)) (n := NN) (b := LB PP 17 4) 4 (by kernel_rfl) (fun i => S17 a b (i : Nat)) (a.zip b) (fun p => !(p.1 == p.2)) (nv := 0) (nt := 0) hs (by kernel_rfl) (by kernel_rfl)
    (fun i p hy hp => ?_) ?_ (all_of_any hb) (by rw [hlz]; unfold NN; omega)
  · obtain ⟨h1, h2⟩ := zip_get hy
    have hi := (List.getElem?_eq_some_iff.1 h1).1
    have := b17_0 a b i p.1 p.2 (is_get h1) (is_get h2) k (by rw [is_len]; exact decide_eq_true (by omega)) (by simpa using hp)
    rwa [w64 hi ha] at this
  · rw [hlz]
    exact b17_2 a b a.length k (by rw [is_len]; exact decide_eq_false (by omega))
theorem same3a (a : List Int) (b : List Int) (hl : List.length a = List.length b) (ha : List.length a < (9223372036854775808 : Nat)) (he : ((↑(List.length (is a)) : Int) == (↑(List.length (is b)) : Int)) = true) (hb : (List.any (List.zip a b) fun p => !Prod.fst p == Prod.snd p) = false) (k : Nat) : orac PP GL XX HH NN (k + 2) 17 [A.c (C.slice 1 (is a)), A.c (C.slice 1 (is b))] [] = some ([Res.c (bo true)], []) := by
  exact (orac_fn (show PP.funcs[17]? = some _ from rfl) (show XX 17 = none from rfl) (rs := [Res.c (bo true)]) (ims' := []) (gs := [G.b false, G.loop (Ext.exit 0) (St.mk [tc (C.slice 1 (is a)), tc (C.slice 1 (is b)), T.hole, T.hole, T.hole, tc (ii (↑(List.length a) : Int)), T.hole, T.hole, T.hole, T.hole, T.hole, tc (ii (↑(List.length a) : Int)), tc (C.slice 1 (is a)), tc (ii (↑(List.length (is a)) : Int)), tc (bo (decide ((↑(List.length a) : Int) < (↑(List.length (is a)) : Int)))), T.hole, T.hole, T.hole, T.hole, T.hole, T.hole, T.hole, T.hole, T.hole, T.hole, T.hole] [] [])]) (ps := [((↑(List.length (is a)) : Int) != (↑(List.length (is b)) : Int)) = false, LoopIs (Env.mk PP (orac PP GL XX HH NN (k + (1 : Nat))) GL) (HH (17 : Nat)) NN (LB PP (17 : Nat) (4 : Nat)) (St.mk [tc (C.slice (1 : Nat) (is a)), tc (C.slice (1 : Nat) (is b)), T.skip, T.skip, tc (bo false), tc (ii (0 : Int)), tc (C.slice (1 : Nat) (is a)), tc (ii (↑(List.length (is a)) : Int)), tc (C.slice (1 : Nat) (is b)), tc (ii (↑(List.length (is b)) : Int)), tc (bo ((↑(List.length (is a)) : Int) != (↑(List.length (is b)) : Int))), T.skip, T.skip, T.skip, T.skip, T.skip, T.skip, T.skip, T.skip, T.skip, T.skip, T.skip, T.skip, T.skip, T.skip, T.skip] [] []) (Ext.exit (0 : Nat)) (St.mk [tc (C.slice (1 : Nat) (is a)), tc (C.slice (1 : Nat) (is b)), T.hole, T.hole, T.hole, tc (ii (↑(List.length a) : Int)), T.hole, T.hole, T.hole, T.hole, T.hole, tc (ii (↑(List.length a) : Int)), tc (C.slice (1 : Nat) (is a)), tc (ii (↑(List.length (is a)) : Int)), tc (bo (decide ((↑(List.length a) : Int) < (↑(List.length (is a)) : Int)))), T.hole, T.hole, T.hole, T.hole, T.hole, T.hole, T.hole, T.hole, T.hole, T.hole, T.hole] [] [])]) (by kernel_rfl) ⟨(congrArg not he), (L17_miss _ _ (by first | rfl | assumption | omega | decide | simp_all) (by first | rfl | assumption | omega | decide | simp_all) hb _ (by kernel_rfl) _), trivial⟩)
theorem same3b (a : List Int) (b : List Int) (hl : List.length a = List.length b) (ha : List.length a < (9223372036854775808 : Nat)) (he : ((↑(List.length (is a)) : Int) == (↑(List.length (is b)) : Int)) = true) (j : Nat) (hj : List.findIdx (fun p => !Prod.fst p == Prod.snd p) (List.zip a b) = j) (x : Int) (y : Int) (hx : a[j]? = some x) (hy : b[j]? = some y) (hne : (x == y) = false) (k : Nat) : orac PP GL XX HH NN (k + 2) 17 [A.c (C.slice 1 (is a)), A.c (C.slice 1 (is b))] [] = some ([Res.c (bo false)], []) := by
  exact (orac_fn (show PP.funcs[17]? = some _ from rfl) (show XX 17 = none from rfl) (rs := [Res.c (bo false)]) (ims' := []) (gs := [G.b false, G.loop Ext.ret (St.mk [tc (C.slice 1 (is a)), tc (C.slice 1 (is b)), T.hole, T.hole, tc (bo false), tc (ii (↑j : Int)), T.hole, T.hole, T.hole, T.hole, T.hole, tc (ii (↑j : Int)), tc (C.slice 1 (is a)), tc (ii (↑(List.length (is a)) : Int)), tc (bo (decide ((↑j : Int) < (↑(List.length (is a)) : Int)))), T.hole, T.hole, tc (C.slice 1 (is a)), tc (ii (↑j : Int)), tc (C.rptr [ii x]), tc (ii x), tc (C.slice 1 (is b)), tc (ii (↑j : Int)), tc (C.rptr [ii y]), tc (ii y), tc (bo (x != y))] [] [])]) (ps := [((↑(List.length (is a)) : Int) != (↑(List.length (is b)) : Int)) = false, LoopIs (Env.mk PP (orac PP GL XX HH NN (k + (1 : Nat))) GL) (HH (17 : Nat)) NN (LB PP (17 : Nat) (4 : Nat)) (St.mk [tc (C.slice (1 : Nat) (is a)), tc (C.slice (1 : Nat) (is b)), T.skip, T.skip, tc (bo false), tc (ii (0 : Int)), tc (C.slice (1 : Nat) (is a)), tc (ii (↑(List.length (is a)) : Int)), tc (C.slice (1 : Nat) (is b)), tc (ii (↑(List.length (is b)) : Int)), tc (bo ((↑(List.length (is a)) : Int) != (↑(List.length (is b)) : Int))), T.skip, T.skip, T.skip, T.skip, T.skip, T.skip, T.skip, T.skip, T.skip, T.skip, T.skip, T.skip, T.skip, T.skip, T.skip] [] []) Ext.ret (St.mk [tc (C.slice (1 : Nat) (is a)), tc (C.slice (1 : Nat) (is b)), T.hole, T.hole, tc (bo false), tc (ii (↑j : Int)), T.hole, T.hole, T.hole, T.hole, T.hole, tc (ii (↑j : Int)), tc (C.slice (1 : Nat) (is a)), tc (ii (↑(List.length (is a)) : Int)), tc (bo (decide ((↑j : Int) < (↑(List.length (is a)) : Int)))), T.hole, T.hole, tc (C.slice (1 : Nat) (is a)), tc (ii (↑j : Int)), tc (C.rptr [ii x]), tc (ii x), tc (C.slice (1 : Nat) (is b)), tc (ii (↑j : Int)), tc (C.rptr [ii y]), tc (ii y), tc (bo (x != y))] [] [])]) (by kernel_rfl) ⟨(congrArg not he), (L17_hit a b hl ha j hj x y hx hy hne _ (by kernel_rfl) _), trivial⟩)
theorem same3c (a : List Int) (b : List Int) (he : ((↑(List.length (is a)) : Int) == (↑(List.length (is b)) : Int)) = false) (k : Nat) : orac PP GL XX HH NN (k + 2) 17 [A.c (C.slice 1 (is a)), A.c (C.slice 1 (is b))] [] = some ([Res.c (bo false)], []) := by
  exact (orac_fn (show PP.funcs[17]? = some _ from rfl) (show XX 17 = none from rfl) (rs := [Res.c (bo false)]) (ims' := []) (gs := [G.b true]) (ps := [((↑(List.length (is a)) : Int) != (↑(List.length (is b)) : Int)) = true]) (by kernel_rfl) ⟨(congrArg not he), trivial⟩)
theorem zip_all : ∀ {a b : List Int}, a.length = b.length → (a.zip b).any (fun p => !(p.1 == p.2)) = !(a == b)
  | [], [], _ => rfl
  | x :: a, y :: b, h => by
    have := zip_all (a := a) (b := b) (by simpa using h)
    simp only [List.zip_cons_cons, List.any_cons, this]
    show (!(x == y) || !(a == b)) = !((x == y) && (a == b))
    cases x == y <;> rfl
  | [], _ :: _, h => by simp at h
  | _ :: _, [], h => by simp at h
theorem same3 (a b : List Int) (ha : a.length < 9223372036854775808) (k : Nat) : orac PP GL XX HH NN (k + 2) 17 [.c (.slice 1 (is a)), .c (.slice 1 (is b))] [] = some ([.c (bo (a == b))], []) := by
  by_cases hl : a.length = b.length
  · have he : ((↑(is a).length : Int) == ↑(is b).length) = true := by rw [is_len, is_len, hl]; simp
    have hz := zip_all hl
    cases hb : a == b with
    | true => rw [hb] at hz; exact same3a a b hl ha he hz k
    | false =>
      rw [hb] at hz
      have hlz : (a.zip b).length = a.length := by simp [hl]
      have hj := findIdx_lt_of_any hz
      have hx := List.getElem?_eq_getElem hj
      obtain ⟨h1, h2⟩ := zip_get hx
      have hp := List.findIdx_getElem (w := hj)
      exact same3b a b hl ha he _ rfl _ _ h1 h2 (by simpa using hp) k
  · have he : ((↑(is a).length : Int) == ↑(is b).length) = false := by rw [is_len, is_len]; simp; omega
    have hb : (a == b) = false := by
      rw [beq_eq_false_iff_ne]; intro h; exact hl (by rw [h])
    rw [hb]
    exact same3c a b he k
end Go.Dm
