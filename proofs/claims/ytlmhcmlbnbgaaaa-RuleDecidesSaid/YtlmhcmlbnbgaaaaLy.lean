/-
  A part of the proofs over this seat: what its functions make of data (the file in which the theorems stand says what is proved).
-/
import Derived.Test.YtlmhcmlbnbgaaaaLr
import Derived.Test.YtlmhcmlbnbgaaaaLj
namespace Go.Dm
open Go
def S34 (n : Int) (c0 : Int) (c1 : Int) : St := St.mk [tc (ii n), T.skip, tc (w4 0), tc (w4 c0), tc (ii c1), T.hole, T.hole, T.hole, T.hole, T.hole, T.hole, T.hole, T.hole, T.hole, T.hole, T.hole, T.hole, T.hole, T.hole, T.hole, T.hole] [] []
theorem b34_0 (n : Nat) (m : Int) (i : Nat) (hi : i ≤ (31 : Nat)) (k : Nat) (h0 : (decide ((↑i : Int) < (↑n : Int))) = true) : NextIs (EE (k + 2)) (HH 34) NN (LB PP 34 5) 0 0 (S34 (↑n : Int) m (↑i : Int)) (S34 (↑n : Int) (IntKind.wrap IntKind.u32 (m + 2 ^ i)) (IntKind.wrap IntKind.i64 ((↑i : Int) + 1))) :=
  next_of (gs := [G.b true, G.call [Res.c (w4 (2 ^ i))] []]) (ps := [decide ((↑i : Int) < (↑n : Int)) = true, orac PP GL HH NN (k + 2) 46 [A.c (ii (↑i : Int))] [] = some ([Res.c (w4 (2 ^ i))], [])]) (by kernel_rfl) ⟨h0, (pow _ (by first | rfl | assumption | omega | decide | simp_all) _), trivial⟩
def b34_s1 (n : Nat) (m : Int) (i : Nat) : St := St.mk [tc (ii (↑n : Int)), T.skip, tc (w4 0), tc (w4 m), tc (ii (↑i : Int)), T.hole, T.hole, T.hole, T.hole, T.hole, T.hole, tc (ii (↑i : Int)), tc (ii (↑n : Int)), tc (bo (decide ((↑i : Int) < (↑n : Int)))), T.hole, T.hole, T.hole, T.hole, T.hole, T.hole, T.hole] [] []
theorem b34_1 (n : Nat) (m : Int) (i : Nat) (k : Nat) (h0 : (decide ((↑i : Int) < (↑n : Int))) = false) : OutIs (EE (k + 2)) (HH 34) NN (LB PP 34 5) (S34 (↑n : Int) m (↑i : Int)) (Ext.exit 0) (b34_s1 n m i) :=
  out_of (gs := [G.b false]) (ps := [decide ((↑i : Int) < (↑n : Int)) = false]) (by kernel_rfl) ⟨h0, trivial⟩

theorem two_pow_pred {i : Nat} (h : i ≤ 31) : IntKind.wrap .u32 ((2 : Int) ^ i - 1 + 2 ^ i) = 2 ^ (i + 1) - 1 := by
  have h2 := two_pow_le h
  have e : (2 : Int) ^ (i + 1) = 2 * 2 ^ i := by rw [Int.pow_succ, Int.mul_comm]
  rw [wrap_u32 (by omega) (by omega)]
  omega
theorem L34 (n : Nat) (hn : n ≤ 32) (s : St) (hs : s.head (HH 34 5) = S34 n 0 0) (k : Nat) : LoopIs (EE (k + 2)) (HH 34) NN (LB PP 34 5) s (.exit 0) (b34_s1 n (2 ^ n - 1) n) := by
  refine loop_of (nv := 0) (nt := 0) (fun i => S34 n (2 ^ i - 1) (i : Nat)) n (by rw [show firstRegion (LB PP 34 5) = 5 by kernel_rfl]; exact hs) (by kernel_rfl) (by kernel_rfl) (fun i hi => ?_) ?_ (by unfold NN; omega)
  · have := b34_0 n (2 ^ i - 1) i (by omega) k (by simp; exact hi)
    rw [w64 hi (by omega), two_pow_pred (by omega)] at this
    exact this
  · exact b34_1 n (2 ^ n - 1) n k (by simp)
theorem all3 (n : Nat) (hn : n ≤ (32 : Nat)) (h1 : decide ((↑n : Int) < (1 : Int)) = false) (h2 : decide ((↑n : Int) > (32 : Int)) = false) (k : Nat) : orac PP GL HH NN (k + 3) 34 [A.c (ii (↑n : Int))] [] = some ([Res.c (w4 (2 ^ n - 1))], []) := by
  exact (orac_fn (show PP.funcs[34]? = some _ from rfl) (rs := [Res.c (w4 (2 ^ n - 1))]) (ims' := []) (gs := [G.b false, G.b false, G.b false, G.b false, G.loop (Ext.exit 0) (St.mk [tc (ii (↑n : Int)), T.skip, tc (w4 0), tc (w4 (2 ^ n - 1)), tc (ii (↑n : Int)), T.hole, T.hole, T.hole, T.hole, T.hole, T.hole, tc (ii (↑n : Int)), tc (ii (↑n : Int)), tc (bo (decide ((↑n : Int) < (↑n : Int)))), T.hole, T.hole, T.hole, T.hole, T.hole, T.hole, T.hole] [] [])]) (ps := [decide ((↑n : Int) < (1 : Int)) = false, decide ((↑n : Int) < (1 : Int)) = false, decide ((↑n : Int) < (1 : Int)) = false, decide ((↑n : Int) > (32 : Int)) = false, LoopIs (Env.mk PP (orac PP GL HH NN (k + (2 : Nat))) GL) (HH (34 : Nat)) NN (LB PP (34 : Nat) (5 : Nat)) (St.mk [tc (ii (↑n : Int)), T.skip, tc (w4 (0 : Int)), tc (w4 (0 : Int)), tc (ii (0 : Int)), tc (ii (↑n : Int)), tc (bo (decide ((↑n : Int) < (1 : Int)))), tc (bo (decide ((↑n : Int) < (1 : Int)))), tc (ii (↑n : Int)), tc (bo (decide ((↑n : Int) > (32 : Int)))), tc (bo (decide ((↑n : Int) > (32 : Int)))), T.skip, T.skip, T.skip, T.skip, T.skip, T.skip, T.skip, T.skip, T.skip, T.skip] [] []) (Ext.exit (0 : Nat)) (St.mk [tc (ii (↑n : Int)), T.skip, tc (w4 (0 : Int)), tc (w4 ((2 : Int) ^ n - (1 : Int))), tc (ii (↑n : Int)), T.hole, T.hole, T.hole, T.hole, T.hole, T.hole, tc (ii (↑n : Int)), tc (ii (↑n : Int)), tc (bo (decide ((↑n : Int) < (↑n : Int)))), T.hole, T.hole, T.hole, T.hole, T.hole, T.hole, T.hole] [] [])]) (by kernel_rfl) ⟨h1, h1, h1, h2, (L34 _ (by first | rfl | assumption | omega | decide | simp_all) _ (by kernel_rfl) _), trivial⟩)
theorem all3r (B c : Int) (i w p : Bool) (m : Int) (hr : right10_0 B c i w p m = true) (k : Nat) : orac PP GL HH NN (k + 3) 34 [.c (ii B)] [] = some ([.c (w4 (2 ^ B.toNat - 1))], []) := by
  obtain ⟨h1, h2⟩ := right_B hr
  have := all3 B.toNat (by omega) (by simp; omega) (by simp; omega) k
  rwa [Int.toNat_of_nonneg (by omega)] at this
def bits14_0 (kd : Int) (B : Int) (x : BitVec 32) (y : BitVec 32) : Int := bif kd == 2 then mi (0#32 ||| x ||| y) else bif kd == 3 then 2 ^ Int.toNat B - 1 else 0
theorem bits14 (kd : Int) (s : Int) (B : Int) (c : Int) (b : Int) (o : Int) (q : Int) (i : Bool) (w : Bool) (d : Bool) (p : Bool) (x : BitVec 32) (B' : Int) (c' : Int) (b' : Int) (o' : Int) (q' : Int) (i' : Bool) (w' : Bool) (d' : Bool) (p' : Bool) (y : BitVec 32) (hr : right10_0 B c i w p (mi x) = true) (k : Nat) : orac PP GL HH NN (k + 8) 14 [A.agg [ii kd, ii s], A.agg (hello B c b o q i w d p (mi x)), A.agg (hello B' c' b' o' q' i' w' d' p' (mi y))] [] = some ([Res.c (w4 (bits14_0 kd B x y))], []) := by
  rcases Bool.eq_false_or_eq_true (kd == 2) with h0 | h0
  · exact (orac_fn (show PP.funcs[14]? = some _ from rfl) (rs := [Res.c (w4 (mi (0#32 ||| x ||| y)))]) (ims' := []) (gs := [G.b true, G.call [Res.c (w4 (mi (0#32 ||| x ||| y)))] []]) (ps := [(kd == (2 : Int)) = true, orac PP GL HH NN (k + 7) 33 [A.c (C.slice 1 [[w4 (mi x)], [w4 (mi y)]])] [] = some ([Res.c (w4 (mi (0#32 ||| x ||| y)))], [])]) (by kernel_rfl) ⟨h0, (union3 _ _ _), trivial⟩).trans (by rw [show bits14_0 kd B x y = (mi (0#32 ||| x ||| y)) from (ct h0 rfl)])
  · rcases Bool.eq_false_or_eq_true (kd == 3) with h1 | h1
    · exact (orac_fn (show PP.funcs[14]? = some _ from rfl) (rs := [Res.c (w4 (2 ^ Int.toNat B - 1))]) (ims' := []) (gs := [G.b false, G.b true, G.call [Res.c (w4 (2 ^ Int.toNat B - 1))] []]) (ps := [(kd == (2 : Int)) = false, (kd == (3 : Int)) = true, orac PP GL HH NN (k + 7) 34 [A.c (ii B)] [] = some ([Res.c (w4 (2 ^ Int.toNat B - 1))], [])]) (by kernel_rfl) ⟨h0, h1, (all3r B c i w p (mi x) hr _), trivial⟩).trans (by rw [show bits14_0 kd B x y = (2 ^ Int.toNat B - 1) from (cf h0 (ct h1 rfl))])
    · exact (orac_fn (show PP.funcs[14]? = some _ from rfl) (rs := [Res.c (w4 0)]) (ims' := []) (gs := [G.b false, G.b false]) (ps := [(kd == (2 : Int)) = false, (kd == (3 : Int)) = false]) (by kernel_rfl) ⟨h0, h1, trivial⟩).trans (by rw [show bits14_0 kd B x y = (0) from (cf h0 (cf h1 rfl))])
theorem all32_eq {B c : Int} {i w p : Bool} {m : Int} (hr : right10_0 B c i w p m = true) : all32_0 B = 2 ^ B.toNat - 1 := by
  obtain ⟨h1, h2⟩ := right_B hr
  obtain ⟨n, rfl⟩ := Int.eq_ofNat_of_zero_le (a := B) (by omega)
  unfold all32_0 there_0
  rw [wrap_i64 (by omega) (by omega)]
  rw [decide_eq_true (show (n : Int) - 1 ≥ 0 by omega), decide_eq_true (show (n : Int) - 1 < 32 by omega)]
  simp only [Int.toNat_natCast, cond_true]
  rw [show min n 32 = n by omega]
  rcases Nat.lt_or_ge n 32 with h | h
  · have g := two_pow_le (i := n) (by omega)
    rw [wrap_u32 (x := 1 * 2 ^ n) (by omega) (by omega), wrap_u32 (by omega) (by omega)]
    omega
  · obtain rfl : n = 32 := by omega
    decide
end Go.Dm
