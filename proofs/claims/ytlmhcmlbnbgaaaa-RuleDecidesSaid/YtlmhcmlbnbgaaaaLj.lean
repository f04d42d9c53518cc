/-
  A part of the proofs over this seat: what its functions make of data (the file in which the theorems stand says what is proved).
-/
import Derived.Test.YtlmhcmlbnbgaaaaLe
namespace Go.Dm
open Go
def there_0 (i : Int) : Bool := bif decide (i ≥ 0) then decide (i < 32) else false
theorem there (i : Int) (k : Nat) : orac PP GL HH NN (k + 1) 43 [A.c (ii i)] [] = some ([Res.c (bo (there_0 i))], []) := by
  rcases Bool.eq_false_or_eq_true (decide (i ≥ 0)) with h0 | h0
  · exact (orac_fn (show PP.funcs[43]? = some _ from rfl) (rs := [Res.c (bo (decide (i < 32)))]) (ims' := []) (gs := [G.b true, G.b true, G.b true]) (ps := [decide (i ≥ (0 : Int)) = true, decide (i ≥ (0 : Int)) = true, decide (i ≥ (0 : Int)) = true]) (by kernel_rfl) ⟨h0, h0, h0, trivial⟩).trans (by rw [show there_0 i = (decide (i < 32)) from (ct h0 rfl)])
  · exact (orac_fn (show PP.funcs[43]? = some _ from rfl) (rs := [Res.c (bo false)]) (ims' := []) (gs := [G.b false, G.b false, G.b false]) (ps := [decide (i ≥ (0 : Int)) = false, decide (i ≥ (0 : Int)) = false, decide (i ≥ (0 : Int)) = false]) (by kernel_rfl) ⟨h0, h0, h0, trivial⟩).trans (by rw [show there_0 i = (false) from (cf h0 rfl)])
def all32_0 (B : Int) : Int := bif there_0 (IntKind.wrap IntKind.i64 (B - 1)) then IntKind.wrap IntKind.u32 (IntKind.wrap IntKind.u32 (1 * 2 ^ min (Int.toNat B) 32) - 1) else 0
theorem all32 (B : Int) (hB1 : (1 : Int) ≤ B) (hB2 : B ≤ (32 : Int)) (h1 : there_0 (IntKind.wrap IntKind.i64 (B - (1 : Int))) = true) (k : Nat) : orac PP GL HH NN (k + 2) 32 [A.c (ii B)] [] = some ([Res.c (w4 (all32_0 B))], []) := by
  rcases Bool.eq_false_or_eq_true (there_0 (IntKind.wrap IntKind.i64 (B - 1))) with h0 | h0
  · exact (orac_fn (show PP.funcs[32]? = some _ from rfl) (rs := [Res.c (w4 (IntKind.wrap IntKind.u32 (IntKind.wrap IntKind.u32 (1 * 2 ^ min (Int.toNat B) 32) - 1)))]) (ims' := []) (gs := [G.call [Res.c (bo (there_0 (IntKind.wrap IntKind.i64 (B - 1))))] [], G.b false, G.ok]) (ps := [orac PP GL HH NN (k + 1) 43 [A.c (ii (IntKind.wrap IntKind.i64 (B - 1)))] [] = some ([Res.c (bo (there_0 (IntKind.wrap IntKind.i64 (B - 1))))], []), (!there_0 (IntKind.wrap IntKind.i64 (B - (1 : Int)))) = false, (0 : Int) ≤ B]) (by kernel_rfl) ⟨(there _ _), (congrArg not h0), (by first | rfl | assumption | omega | decide | simp_all), trivial⟩).trans (by rw [show all32_0 B = (IntKind.wrap IntKind.u32 (IntKind.wrap IntKind.u32 (1 * 2 ^ min (Int.toNat B) 32) - 1)) from (ct h0 rfl)])
  · exact (orac_fn (show PP.funcs[32]? = some _ from rfl) (rs := [Res.c (w4 0)]) (ims' := []) (gs := [G.call [Res.c (bo (there_0 (IntKind.wrap IntKind.i64 (B - 1))))] [], G.b true]) (ps := [orac PP GL HH NN (k + 1) 43 [A.c (ii (IntKind.wrap IntKind.i64 (B - 1)))] [] = some ([Res.c (bo (there_0 (IntKind.wrap IntKind.i64 (B - 1))))], []), (!there_0 (IntKind.wrap IntKind.i64 (B - (1 : Int)))) = true]) (by kernel_rfl) ⟨(there _ _), (congrArg not h0), trivial⟩).trans (by rw [show all32_0 B = (0) from (cf h0 rfl)])
theorem right_B {B c : Int} {i w p : Bool} {m : Int} (h : right10_0 B c i w p m = true) : 1 ≤ B ∧ B ≤ 32 := by
  unfold right10_0 at h
  cases h1 : decide (B ≥ 1)
  · rw [h1] at h; cases h
  · cases h2 : decide (B ≤ 32)
    · rw [h1, h2] at h; cases h
    · simp at h1 h2; exact ⟨h1, h2⟩
theorem all32r (B c : Int) (i w p : Bool) (m : Int) (hr : right10_0 B c i w p m = true) (k : Nat) : orac PP GL HH NN (k + 2) 32 [.c (ii B)] [] = some ([Res.c (w4 (all32_0 B))], []) := all32 B (right_B hr).1 (right_B hr).2 (by
  obtain ⟨h1, h2⟩ := right_B hr
  unfold there_0
  rw [wrap_i64 (by omega) (by omega)]
  simp; omega) k
def bits13_0 (kd : Int) (B : Int) (m : Int) (m' : Int) : Int := bif kd == 2 then ior IntKind.u32 (ior IntKind.u32 0 m) m' else bif kd == 3 then all32_0 B else 0
theorem bits13 (kd : Int) (s : Int) (B : Int) (c : Int) (b : Int) (o : Int) (q : Int) (i : Bool) (w : Bool) (d : Bool) (p : Bool) (m : Int) (B' : Int) (c' : Int) (b' : Int) (o' : Int) (q' : Int) (i' : Bool) (w' : Bool) (d' : Bool) (p' : Bool) (m' : Int) (hr : right10_0 B c i w p m = true) (k : Nat) : orac PP GL HH NN (k + 3) 13 [A.agg [ii kd, ii s], A.agg (hello B c b o q i w d p m), A.agg (hello B' c' b' o' q' i' w' d' p' m')] [] = some ([Res.c (w4 (bits13_0 kd B m m'))], []) := by
  rcases Bool.eq_false_or_eq_true (kd == 2) with h0 | h0
  · exact (orac_fn (show PP.funcs[13]? = some _ from rfl) (rs := [Res.c (w4 (ior IntKind.u32 (ior IntKind.u32 0 m) m'))]) (ims' := []) (gs := [G.b true, G.call [Res.c (w4 (ior IntKind.u32 (ior IntKind.u32 0 m) m'))] []]) (ps := [(kd == (2 : Int)) = true, orac PP GL HH NN (k + 2) 31 [A.c (C.slice 1 [[w4 m], [w4 m']])] [] = some ([Res.c (w4 (ior IntKind.u32 (ior IntKind.u32 0 m) m'))], [])]) (by kernel_rfl) ⟨h0, (union2 _ _ _), trivial⟩).trans (by rw [show bits13_0 kd B m m' = (ior IntKind.u32 (ior IntKind.u32 0 m) m') from (ct h0 rfl)])
  · rcases Bool.eq_false_or_eq_true (kd == 3) with h1 | h1
    · exact (orac_fn (show PP.funcs[13]? = some _ from rfl) (rs := [Res.c (w4 (all32_0 B))]) (ims' := []) (gs := [G.b false, G.b true, G.call [Res.c (w4 (all32_0 B))] []]) (ps := [(kd == (2 : Int)) = false, (kd == (3 : Int)) = true, orac PP GL HH NN (k + 2) 32 [A.c (ii B)] [] = some ([Res.c (w4 (all32_0 B))], [])]) (by kernel_rfl) ⟨h0, h1, (all32r B c i w p m hr _), trivial⟩).trans (by rw [show bits13_0 kd B m m' = (all32_0 B) from (cf h0 (ct h1 rfl))])
    · exact (orac_fn (show PP.funcs[13]? = some _ from rfl) (rs := [Res.c (w4 0)]) (ims' := []) (gs := [G.b false, G.b false]) (ps := [(kd == (2 : Int)) = false, (kd == (3 : Int)) = false]) (by kernel_rfl) ⟨h0, h1, trivial⟩).trans (by rw [show bits13_0 kd B m m' = (0) from (cf h0 (cf h1 rfl))])
end Go.Dm
