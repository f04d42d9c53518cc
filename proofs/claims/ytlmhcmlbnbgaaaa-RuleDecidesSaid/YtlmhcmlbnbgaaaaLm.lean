/-
  A part of the proofs over this seat: what its functions make of data (the file in which the theorems stand says what is proved).
-/
import Derived.Test.YtlmhcmlbnbgaaaaLh
namespace Go.Dm
open Go
theorem wrap_u32 {x : Int} (h1 : 0 ≤ x) (h2 : x < 4294967296) : IntKind.wrap .u32 x = x := by
  unfold IntKind.wrap
  simp [IntKind.signed, IntKind.bits]
  omega
def Spow (n p i : Int) : St := ⟨[tc (ii n), .skip, tc (w4 0), tc (w4 p), tc (ii i)] ++ List.replicate 8 .hole, [], []⟩
theorem bpow_0 (n : Nat) (i : Nat) (p : Int) (k : Nat) (h0 : (decide ((↑i : Int) < (↑n : Int))) = true) : NextIs (EE (k + 1)) (HH 46) NN (LB PP 46 3) 0 0 (Spow (↑n : Int) p (↑i : Int)) (Spow (↑n : Int) (IntKind.wrap IntKind.u32 (2 * p)) (IntKind.wrap IntKind.i64 ((↑i : Int) + 1))) :=
  next_of (gs := [G.b true]) (ps := [decide ((↑i : Int) < (↑n : Int)) = true]) (by kernel_rfl) ⟨h0, trivial⟩
def bpow_s1 (n : Nat) (i : Nat) (p : Int) : St := St.mk [tc (ii (↑n : Int)), T.skip, tc (w4 0), tc (w4 p), tc (ii (↑i : Int)), tc (ii (↑i : Int)), tc (ii (↑n : Int)), tc (bo (decide ((↑i : Int) < (↑n : Int)))), T.hole, T.hole, T.hole, T.hole, T.hole] [] []
theorem bpow_1 (n : Nat) (i : Nat) (p : Int) (k : Nat) (h0 : (decide ((↑i : Int) < (↑n : Int))) = false) : OutIs (EE (k + 1)) (HH 46) NN (LB PP 46 3) (Spow (↑n : Int) p (↑i : Int)) (Ext.exit 0) (bpow_s1 n i p) :=
  out_of (gs := [G.b false]) (ps := [decide ((↑i : Int) < (↑n : Int)) = false]) (by kernel_rfl) ⟨h0, trivial⟩
theorem two_pow_le {i : Nat} (h : i ≤ 31) : (2 : Int) ^ i ≤ 2147483648 ∧ 0 < (2 : Int) ^ i := by
  have h1 : (2 : Nat) ^ i ≤ 2 ^ 31 := Nat.pow_le_pow_right (by omega) h
  have h2 : 0 < (2 : Nat) ^ i := Nat.pow_pos (by omega)
  have e : ((2 ^ i : Nat) : Int) = (2 : Int) ^ i := by simp
  rw [← e]
  omega
def Tpow (n : Int) : St := ⟨[tc (ii n), .skip, tc (w4 0), tc (w4 1), tc (ii 0)] ++ List.replicate 8 .skip, [], []⟩
theorem Lpow (n : Nat) (hn : n ≤ 31) (k : Nat) : LoopIs (EE (k + 1)) (HH 46) NN (LB PP 46 3) (Tpow n) (.exit 0) (bpow_s1 n n (2 ^ n)) := by
  refine loop_of (nv := 0) (nt := 0) (fun i => Spow n (2 ^ i) (i : Nat)) n (by kernel_rfl) (by kernel_rfl) (by kernel_rfl) (fun i hi => ?_) ?_ (by unfold NN; omega)
  · have := bpow_0 n i (2 ^ i) k (by simp; exact hi)
    have h2 := two_pow_le (i := i + 1) (by omega)
    have e : (2 : Int) ^ (i + 1) = 2 * 2 ^ i := by rw [Int.pow_succ, Int.mul_comm]
    rw [wrap_i64 (by omega) (by omega), wrap_u32 (by omega) (by omega), ← e] at this
    exact this
  · exact bpow_1 n n (2 ^ n) k (by simp)
theorem pow (n : Nat) (hn : n ≤ (31 : Nat)) (k : Nat) : orac PP GL HH NN (k + 2) 46 [A.c (ii (↑n : Int))] [] = some ([Res.c (w4 (2 ^ n))], []) := by
  exact (orac_fn (show PP.funcs[46]? = some _ from rfl) (rs := [Res.c (w4 (2 ^ n))]) (ims' := []) (gs := [G.loop (Ext.exit 0) (St.mk [tc (ii (↑n : Int)), T.skip, tc (w4 0), tc (w4 (2 ^ n)), tc (ii (↑n : Int)), tc (ii (↑n : Int)), tc (ii (↑n : Int)), tc (bo (decide ((↑n : Int) < (↑n : Int)))), T.hole, T.hole, T.hole, T.hole, T.hole] [] [])]) (ps := [LoopIs (Env.mk PP (orac PP GL HH NN (k + (1 : Nat))) GL) (HH (46 : Nat)) NN (LB PP (46 : Nat) (3 : Nat)) (St.mk [tc (ii (↑n : Int)), T.skip, tc (w4 (0 : Int)), tc (w4 (1 : Int)), tc (ii (0 : Int)), T.skip, T.skip, T.skip, T.skip, T.skip, T.skip, T.skip, T.skip] [] []) (Ext.exit (0 : Nat)) (St.mk [tc (ii (↑n : Int)), T.skip, tc (w4 (0 : Int)), tc (w4 ((2 : Int) ^ n)), tc (ii (↑n : Int)), tc (ii (↑n : Int)), tc (ii (↑n : Int)), tc (bo (decide ((↑n : Int) < (↑n : Int)))), T.hole, T.hole, T.hole, T.hole, T.hole] [] [])]) (by kernel_rfl) ⟨(Lpow _ (by first | rfl | assumption | omega | decide | simp_all) _), trivial⟩)
theorem has3 (m : Int) (i : Nat) (hi : i ≤ (31 : Nat)) (hz : (2 : Int) ^ i ≠ (0 : Int)) (h1 : decide ((↑i : Int) ≥ (0 : Int)) = true) (h2 : decide ((↑i : Int) < (32 : Int)) = true) (k : Nat) : orac PP GL HH NN (k + 3) 37 [A.c (w4 m), A.c (ii (↑i : Int))] [] = some ([Res.c (bo (Int.tmod (IntKind.wrap IntKind.u32 (Int.tdiv m (2 ^ i))) 2 == 1))], []) := by
  exact (orac_fn (show PP.funcs[37]? = some _ from rfl) (rs := [Res.c (bo (Int.tmod (IntKind.wrap IntKind.u32 (Int.tdiv m (2 ^ i))) 2 == 1))]) (ims' := []) (gs := [G.b true, G.b true, G.b true, G.b true, G.b true, G.b true, G.call [Res.c (w4 (2 ^ i))] [], G.b true, G.ok, G.b true, G.ok, G.b true, G.b true]) (ps := [true = true, true = true, true = true, decide ((↑i : Int) < (32 : Int)) = true, decide ((↑i : Int) < (32 : Int)) = true, decide ((↑i : Int) < (32 : Int)) = true, orac PP GL HH NN (k + 2) 46 [A.c (ii (↑i : Int))] [] = some ([Res.c (w4 (2 ^ i))], []), decide ((↑i : Int) < (32 : Int)) = true, (2 : Int) ^ i ≠ (0 : Int), decide ((↑i : Int) < (32 : Int)) = true, (2 : Int) ≠ (0 : Int), decide ((↑i : Int) < (32 : Int)) = true, decide ((↑i : Int) < (32 : Int)) = true]) (by kernel_rfl) ⟨rfl, rfl, (by first | rfl | assumption | omega | decide | simp_all), h2, h2, h2, (pow _ (by first | rfl | assumption | omega | decide | simp_all) _), h2, (by first | rfl | assumption | omega | decide | simp_all), h2, (by first | rfl | assumption | omega | decide | simp_all), h2, h2, trivial⟩)

/-- is one in it? -/
def inM (m : Int) (i : Nat) : Bool := (IntKind.wrap .u32 (m.tdiv (2 ^ i))).tmod 2 == 1
theorem has3' (m : Int) (i : Nat) (hi : i ≤ 31) (k : Nat) : orac PP GL HH NN (k + 3) 37 [.c (w4 m), .c (ii (i : Int))] [] = some ([.c (bo (inM m i))], []) := by
  have h := two_pow_le hi
  exact has3 m i hi (by omega) (by simp) (by simp; omega) k
def Srt (m B i : Int) : St := ⟨[tc (w4 m), tc (ii B), .skip, .skip, tc (bo false), tc (ii i)] ++ List.replicate 14 .hole, [], []⟩
def brt_s0 (m : Int) (B : Int) (i : Nat) : St := St.mk [tc (w4 m), tc (ii B), T.skip, T.skip, tc (bo false), tc (ii (↑i : Int)), T.hole, T.hole, T.hole, T.hole, T.hole, T.hole, T.hole, tc (ii (↑i : Int)), tc (bo (decide ((↑i : Int) < 32))), T.hole, T.hole, tc (w4 m), tc (ii (↑i : Int)), tc (bo (inM m i))] [] []
theorem brt_0 (m : Int) (B : Int) (i : Nat) (hi : i ≤ (31 : Nat)) (k : Nat) (h0 : (decide ((↑i : Int) < 32)) = true) (h1 : (inM m i) = true) : OutIs (EE (k + 3)) (HH 20) NN (LB PP 20 4) (Srt m B (↑i : Int)) (Ext.ret) (brt_s0 m B i) :=
  out_of (gs := [G.b true, G.call [Res.c (bo (inM m i))] [], G.b true]) (ps := [decide ((↑i : Int) < (32 : Int)) = true, orac PP GL HH NN (k + 3) 37 [A.c (w4 m), A.c (ii (↑i : Int))] [] = some ([Res.c (bo (inM m i))], []), inM m i = true]) (by kernel_rfl) ⟨h0, (has3' _ _ (by first | rfl | assumption | omega | decide | simp_all) _), h1, trivial⟩
theorem brt_1 (m : Int) (B : Int) (i : Nat) (hi : i ≤ (31 : Nat)) (k : Nat) (h0 : (decide ((↑i : Int) < 32)) = true) (h1 : (inM m i) = false) : NextIs (EE (k + 3)) (HH 20) NN (LB PP 20 4) 0 0 (Srt m B (↑i : Int)) (Srt m B (IntKind.wrap IntKind.i64 ((↑i : Int) + 1))) :=
  next_of (gs := [G.b true, G.call [Res.c (bo (inM m i))] [], G.b false]) (ps := [decide ((↑i : Int) < (32 : Int)) = true, orac PP GL HH NN (k + 3) 37 [A.c (w4 m), A.c (ii (↑i : Int))] [] = some ([Res.c (bo (inM m i))], []), inM m i = false]) (by kernel_rfl) ⟨h0, (has3' _ _ (by first | rfl | assumption | omega | decide | simp_all) _), h1, trivial⟩
def brt_s2 (m : Int) (B : Int) (i : Nat) : St := St.mk [tc (w4 m), tc (ii B), T.skip, T.skip, tc (bo false), tc (ii (↑i : Int)), T.hole, T.hole, T.hole, T.hole, T.hole, T.hole, T.hole, tc (ii (↑i : Int)), tc (bo (decide ((↑i : Int) < 32))), T.hole, T.hole, T.hole, T.hole, T.hole] [] []
theorem brt_2 (m : Int) (B : Int) (i : Nat) (k : Nat) (h0 : (decide ((↑i : Int) < 32)) = false) : OutIs (EE (k + 3)) (HH 20) NN (LB PP 20 4) (Srt m B (↑i : Int)) (Ext.exit 0) (brt_s2 m B i) :=
  out_of (gs := [G.b false]) (ps := [decide ((↑i : Int) < (32 : Int)) = false]) (by kernel_rfl) ⟨h0, trivial⟩

/-- the first from B on (31 at most) that is in it -/
def firstIn (m : Int) : Nat → Nat → Nat
  | 0, i => i
  | n + 1, i => if inM m i then i else firstIn m n (i + 1)
theorem firstIn_ge (m : Int) : ∀ n i, i ≤ firstIn m n i ∧ firstIn m n i ≤ i + n ∧ (∀ j, i ≤ j → j < firstIn m n i → inM m j = false) ∧ (firstIn m n i < i + n → inM m (firstIn m n i) = true)
  | 0, i => ⟨Nat.le_refl _, Nat.le_refl _, fun j h1 h2 => by simp only [firstIn] at h2; omega, fun h => by simp only [firstIn] at h; omega⟩
  | n + 1, i => by
    simp only [firstIn]
    split
    · rename_i h; exact ⟨Nat.le_refl _, by omega, fun j h1 h2 => by omega, fun _ => h⟩
    · rename_i h
      obtain ⟨h1, h2, h3, h4⟩ := firstIn_ge m n (i + 1)
      refine ⟨by omega, by omega, fun j g1 g2 => ?_, fun g => h4 (by omega)⟩
      rcases Nat.eq_or_lt_of_le g1 with rfl | g1
      · simpa using h
      · exact h3 j g1 g2
def Trt (m B : Int) : St := ⟨[tc (w4 m), tc (ii B), .skip, .skip, tc (bo false), tc (ii B), tc (ii B), tc (bo (decide (B < 1))), tc (bo (decide (B < 1))), tc (ii B), tc (bo (decide (B > 32))), tc (bo (decide (B > 32))), tc (ii B)] ++ List.replicate 7 .skip, [], []⟩
theorem Lrt_step (m : Int) (B : Nat) (k : Nat) (i : Nat) (hi : B + i < firstIn m (32 - B) B) (hB : B ≤ 32) : NextIs (EE (k + 3)) (HH 20) NN (LB PP 20 4) 0 0 (Srt m B ((B + i : Nat) : Int)) (Srt m B ((B + (i + 1) : Nat) : Int)) := by
  obtain ⟨h1, h2, h3, h4⟩ := firstIn_ge m (32 - B) B
  have := brt_1 m B (B + i) (by omega) k (by simp; omega) (h3 _ (by omega) hi)
  rw [wrap_i64 (by omega) (by omega)] at this
  exact this
theorem Lrt_hit (m : Int) (B : Nat) (hB : B ≤ 32) (hq : firstIn m (32 - B) B < 32) (k : Nat) : LoopIs (EE (k + 3)) (HH 20) NN (LB PP 20 4) (Trt m B) .ret (brt_s0 m B (firstIn m (32 - B) B)) := by
  obtain ⟨h1, h2, h3, h4⟩ := firstIn_ge m (32 - B) B
  have e : B + (firstIn m (32 - B) B - B) = firstIn m (32 - B) B := by omega
  refine loop_of (nv := 0) (nt := 0) (fun i => Srt m B ((B + i : Nat) : Int)) (firstIn m (32 - B) B - B) (by kernel_rfl) (by kernel_rfl) (by kernel_rfl) (fun i hi => Lrt_step m B k i (by omega) hB) ?_ (by unfold NN; omega)
  rw [e]
  exact brt_0 m B _ (by omega) k (by simp; omega) (h4 (by omega))
theorem Lrt_miss (m : Int) (B : Nat) (hB : B ≤ 32) (hq : firstIn m (32 - B) B = 32) (k : Nat) : LoopIs (EE (k + 3)) (HH 20) NN (LB PP 20 4) (Trt m B) (.exit 0) (brt_s2 m B 32) := by
  refine loop_of (nv := 0) (nt := 0) (fun i => Srt m B ((B + i : Nat) : Int)) (32 - B) (by kernel_rfl) (by kernel_rfl) (by kernel_rfl) (fun i hi => Lrt_step m B k i (by omega) hB) ?_ (by unfold NN; omega)
  rw [show B + (32 - B) = 32 by omega]
  exact brt_2 m B 32 k (by simp)
theorem rt_hit (m : Int) (B : Nat) (hB : B ≤ (32 : Nat)) (hq : firstIn m ((32 : Nat) - B) B < (32 : Nat)) (h1 : decide ((↑B : Int) < (1 : Int)) = false) (h2 : decide ((↑B : Int) > (32 : Int)) = false) (k : Nat) : orac PP GL HH NN (k + 4) 20 [A.c (w4 m), A.c (ii (↑B : Int))] [] = some ([Res.c (bo false)], []) := by
  exact (orac_fn (show PP.funcs[20]? = some _ from rfl) (rs := [Res.c (bo false)]) (ims' := []) (gs := [G.b false, G.b false, G.b false, G.b false, G.loop Ext.ret (St.mk [tc (w4 m), tc (ii (↑B : Int)), T.skip, T.skip, tc (bo false), tc (ii (↑(firstIn m (32 - B) B) : Int)), T.hole, T.hole, T.hole, T.hole, T.hole, T.hole, T.hole, tc (ii (↑(firstIn m (32 - B) B) : Int)), tc (bo (decide ((↑(firstIn m (32 - B) B) : Int) < 32))), T.hole, T.hole, tc (w4 m), tc (ii (↑(firstIn m (32 - B) B) : Int)), tc (bo (inM m (firstIn m (32 - B) B)))] [] [])]) (ps := [decide ((↑B : Int) < (1 : Int)) = false, decide ((↑B : Int) < (1 : Int)) = false, decide ((↑B : Int) < (1 : Int)) = false, decide ((↑B : Int) > (32 : Int)) = false, LoopIs (Env.mk PP (orac PP GL HH NN (k + (3 : Nat))) GL) (HH (20 : Nat)) NN (LB PP (20 : Nat) (4 : Nat)) (St.mk [tc (w4 m), tc (ii (↑B : Int)), T.skip, T.skip, tc (bo false), tc (ii (↑B : Int)), tc (ii (↑B : Int)), tc (bo (decide ((↑B : Int) < (1 : Int)))), tc (bo (decide ((↑B : Int) < (1 : Int)))), tc (ii (↑B : Int)), tc (bo (decide ((↑B : Int) > (32 : Int)))), tc (bo (decide ((↑B : Int) > (32 : Int)))), tc (ii (↑B : Int)), T.skip, T.skip, T.skip, T.skip, T.skip, T.skip, T.skip] [] []) Ext.ret (St.mk [tc (w4 m), tc (ii (↑B : Int)), T.skip, T.skip, tc (bo false), tc (ii (↑(firstIn m ((32 : Nat) - B) B) : Int)), T.hole, T.hole, T.hole, T.hole, T.hole, T.hole, T.hole, tc (ii (↑(firstIn m ((32 : Nat) - B) B) : Int)), tc (bo (decide ((↑(firstIn m ((32 : Nat) - B) B) : Int) < (32 : Int)))), T.hole, T.hole, tc (w4 m), tc (ii (↑(firstIn m ((32 : Nat) - B) B) : Int)), tc (bo (inM m (firstIn m ((32 : Nat) - B) B)))] [] [])]) (by kernel_rfl) ⟨h1, h1, h1, h2, (Lrt_hit _ _ (by first | rfl | assumption | omega | decide | simp_all) (by first | rfl | assumption | omega | decide | simp_all) _), trivial⟩)
theorem rt_miss (m : Int) (B : Nat) (hB : B ≤ (32 : Nat)) (hq : firstIn m ((32 : Nat) - B) B = (32 : Nat)) (h1 : decide ((↑B : Int) < (1 : Int)) = false) (h2 : decide ((↑B : Int) > (32 : Int)) = false) (k : Nat) : orac PP GL HH NN (k + 4) 20 [A.c (w4 m), A.c (ii (↑B : Int))] [] = some ([Res.c (bo true)], []) := by
  exact (orac_fn (show PP.funcs[20]? = some _ from rfl) (rs := [Res.c (bo true)]) (ims' := []) (gs := [G.b false, G.b false, G.b false, G.b false, G.loop (Ext.exit 0) (St.mk [tc (w4 m), tc (ii (↑B : Int)), T.skip, T.skip, tc (bo false), tc (ii 32), T.hole, T.hole, T.hole, T.hole, T.hole, T.hole, T.hole, tc (ii 32), tc (bo false), T.hole, T.hole, T.hole, T.hole, T.hole] [] [])]) (ps := [decide ((↑B : Int) < (1 : Int)) = false, decide ((↑B : Int) < (1 : Int)) = false, decide ((↑B : Int) < (1 : Int)) = false, decide ((↑B : Int) > (32 : Int)) = false, LoopIs (Env.mk PP (orac PP GL HH NN (k + (3 : Nat))) GL) (HH (20 : Nat)) NN (LB PP (20 : Nat) (4 : Nat)) (St.mk [tc (w4 m), tc (ii (↑B : Int)), T.skip, T.skip, tc (bo false), tc (ii (↑B : Int)), tc (ii (↑B : Int)), tc (bo (decide ((↑B : Int) < (1 : Int)))), tc (bo (decide ((↑B : Int) < (1 : Int)))), tc (ii (↑B : Int)), tc (bo (decide ((↑B : Int) > (32 : Int)))), tc (bo (decide ((↑B : Int) > (32 : Int)))), tc (ii (↑B : Int)), T.skip, T.skip, T.skip, T.skip, T.skip, T.skip, T.skip] [] []) (Ext.exit (0 : Nat)) (St.mk [tc (w4 m), tc (ii (↑B : Int)), T.skip, T.skip, tc (bo false), tc (ii (32 : Int)), T.hole, T.hole, T.hole, T.hole, T.hole, T.hole, T.hole, tc (ii (32 : Int)), tc (bo false), T.hole, T.hole, T.hole, T.hole, T.hole] [] [])]) (by kernel_rfl) ⟨h1, h1, h1, h2, (Lrt_miss _ _ (by first | rfl | assumption | omega | decide | simp_all) (by first | rfl | assumption | omega | decide | simp_all) _), trivial⟩)
theorem rt_lo (m : Int) (B : Int) (h1 : decide (B < (1 : Int)) = true) (k : Nat) : orac PP GL HH NN (k + 4) 20 [A.c (w4 m), A.c (ii B)] [] = some ([Res.c (bo false)], []) := by
  exact (orac_fn (show PP.funcs[20]? = some _ from rfl) (rs := [Res.c (bo false)]) (ims' := []) (gs := [G.b true, G.b true, G.b true, G.b true]) (ps := [decide (B < (1 : Int)) = true, decide (B < (1 : Int)) = true, decide (B < (1 : Int)) = true, true = true]) (by kernel_rfl) ⟨h1, h1, h1, rfl, trivial⟩)
theorem rt_hi (m : Int) (B : Int) (h1 : decide (B < (1 : Int)) = false) (h2 : decide (B > (32 : Int)) = true) (k : Nat) : orac PP GL HH NN (k + 4) 20 [A.c (w4 m), A.c (ii B)] [] = some ([Res.c (bo false)], []) := by
  exact (orac_fn (show PP.funcs[20]? = some _ from rfl) (rs := [Res.c (bo false)]) (ims' := []) (gs := [G.b false, G.b false, G.b false, G.b true]) (ps := [decide (B < (1 : Int)) = false, decide (B < (1 : Int)) = false, decide (B < (1 : Int)) = false, decide (B > (32 : Int)) = true]) (by kernel_rfl) ⟨h1, h1, h1, h2, trivial⟩)
/-- may it be? -/
def rtS (m B : Int) : Bool := if 1 ≤ B ∧ B ≤ 32 then decide (firstIn m (32 - B.toNat) B.toNat = 32) else false
theorem rt3 (m B : Int) (k : Nat) : orac PP GL HH NN (k + 4) 20 [.c (w4 m), .c (ii B)] [] = some ([.c (bo (rtS m B))], []) := by
  unfold rtS
  split
  · rename_i h
    obtain ⟨n, rfl⟩ := Int.eq_ofNat_of_zero_le (a := B) (by omega)
    simp only [Int.toNat_natCast]
    have hn : n ≤ 32 := by omega
    obtain ⟨g1, g2, _, _⟩ := firstIn_ge m (32 - n) n
    by_cases hq : firstIn m (32 - n) n = 32
    · rw [decide_eq_true hq]; exact rt_miss m n hn hq (by simp; omega) (by simp; omega) k
    · rw [decide_eq_false hq]; exact rt_hit m n hn (by omega) (by simp; omega) (by simp; omega) k
  · rename_i h
    by_cases h1 : B < 1
    · exact rt_lo m B (by simpa using h1) k
    · exact rt_hi m B (by simpa using h1) (by simp; omega) k
end Go.Dm
