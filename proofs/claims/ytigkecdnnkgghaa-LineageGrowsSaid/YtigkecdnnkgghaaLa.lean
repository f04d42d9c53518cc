/-
  A part of the proofs over this seat: what its functions make of data (the file in which the theorems stand says what is proved).
-/
import Derived.Test.YtigkecdnnkgghaaLh
namespace Go.Dm
open Go
abbrev us (l : List Int) : List (List C) := l.map fun x => [u x]
theorem us_get {l : List Int} {i : Nat} {x : Int} (h : l[i]? = some x) : (us l)[i]? = some [u x] := by simp [us, h]
theorem us_len (l : List Int) : (us l).length = l.length := by simp [us]
theorem mints_get {l : List Mi} {i : Nat} {x : Mi} (h : l[i]? = some x) : (mints l)[i]? = some [u x.g, u x.p, ii x.n] := by simp [mints, h]
theorem mints_len (l : List Mi) : (mints l).length = l.length := by simp [mints]
/-- what the map says -/
def luk : List (Int × Int) → Int → Int × Bool
  | [], _ => (0, false)
  | (a, b) :: r, g => if g == a then (b, true) else luk r g
theorem look_encM (m : List (Int × Int)) (g : Int) : lookV .u64 g .u64 (encM m) = some (luk m g) := by
  induction m with
  | nil => rfl
  | cons x m ih =>
    obtain ⟨a, b⟩ := x
    simp only [encM, List.map_cons, lookV, luk, and_self, if_true]
    cases g == a with
    | true => rfl
    | false => simpa [encM] using ih
theorem look_pair (m : List (Int × Int)) (g : Int) : lookV .u64 g .u64 (encM m) = some ((luk m g).1, (luk m g).2) := look_encM m g
theorem mapM_mints (l : List Mi) : (mints l).mapM miOf = some l := by
  induction l with
  | nil => rfl
  | cons x l ih =>
    simp only [mints, List.map_cons, List.mapM_cons]
    have : miOf x.cs = some x := rfl
    rw [this]
    simp only [mints] at ih
    rw [ih]
    rfl
theorem parents (l : List Mi) (hl : l.length ≤ 100000) (k : Nat) : orac PP GL XX HH NN (k + 1) 18 [.c (.slice 3 (mints l))] [] = some ([.c (.map (encM (par l)))], []) := by
  rw [orac_tab (h := parTab) rfl]
  unfold parTab
  have : (mints l).length ≤ 1000000 := by rw [mints_len]; omega
  simp only [true_or, true_and, this, if_true, mapM_mints]
  rfl
def S23 (l : List Int) (g : Int) (c0 : Int) : St := St.mk [tc (C.slice 1 (us l)), tc (u g), T.hole, T.hole, T.hole, T.hole, T.hole, tc (ii (↑(List.length (us l)) : Int)), tc (ii c0), T.hole, T.hole, T.hole, T.hole, T.hole, T.hole, T.hole, T.hole, T.hole, T.hole] [] []
def b23_s0 (l : List Int) (g : Int) (i : Nat) (x : Int) : St := St.mk [tc (C.slice 1 (us l)), tc (u g), T.hole, T.hole, tc (ii (↑i : Int)), tc (ii (↑i : Int)), T.hole, tc (ii (↑(List.length (us l)) : Int)), tc (ii (↑i : Int)), tc (bo (decide ((↑i : Int) < (↑(List.length (us l)) : Int)))), tc (ii (↑i : Int)), tc (u g), tc (C.slice 1 (us l)), tc (ii (↑i : Int)), tc (C.rptr [u x]), tc (u x), tc (bo (g == x)), tc (ii (↑i : Int)), T.hole] [] []
theorem b23_0 (l : List Int) (g : Int) (i : Nat) (x : Int) (hx : (us l)[i]? = some [u x]) (k : Nat) (h0 : (decide ((↑i : Int) < (↑(List.length (us l)) : Int))) = true) (h1 : (g == x) = true) : OutIs (EE (k + 1)) (HH 23) NN (LB PP 23 2) (S23 l g (↑i : Int)) (Ext.ret) (b23_s0 l g i x) :=
  out_of (gs := [G.b true, G.idx i [u x], G.b true]) (ps := [decide ((↑i : Int) < (↑(List.length (us l)) : Int)) = true, (↑i : Int) = (↑i : Int), (us l)[i]? = some [u x], (g == x) = true]) (by kernel_rfl) ⟨h0, rfl, hx, h1, trivial⟩
theorem b23_1 (l : List Int) (g : Int) (i : Nat) (x : Int) (hx : (us l)[i]? = some [u x]) (k : Nat) (h0 : (decide ((↑i : Int) < (↑(List.length (us l)) : Int))) = true) (h1 : (g == x) = false) : NextIs (EE (k + 1)) (HH 23) NN (LB PP 23 2) 0 0 (S23 l g (↑i : Int)) (S23 l g (IntKind.wrap IntKind.i64 ((↑i : Int) + 1))) :=
  next_of (gs := [G.b true, G.idx i [u x], G.b false]) (ps := [decide ((↑i : Int) < (↑(List.length (us l)) : Int)) = true, (↑i : Int) = (↑i : Int), (us l)[i]? = some [u x], (g == x) = false]) (by kernel_rfl) ⟨h0, rfl, hx, h1, trivial⟩
def b23_s2 (l : List Int) (g : Int) (i : Nat) : St := St.mk [tc (C.slice 1 (us l)), tc (u g), T.hole, T.hole, T.hole, T.hole, T.hole, tc (ii (↑(List.length (us l)) : Int)), tc (ii (↑i : Int)), tc (bo (decide ((↑i : Int) < (↑(List.length (us l)) : Int)))), T.hole, T.hole, T.hole, T.hole, T.hole, T.hole, T.hole, T.hole, T.hole] [] []
theorem b23_2 (l : List Int) (g : Int) (i : Nat) (k : Nat) (h0 : (decide ((↑i : Int) < (↑(List.length (us l)) : Int))) = false) : OutIs (EE (k + 1)) (HH 23) NN (LB PP 23 2) (S23 l g (↑i : Int)) (Ext.exit 0) (b23_s2 l g i) :=
  out_of (gs := [G.b false]) (ps := [decide ((↑i : Int) < (↑(List.length (us l)) : Int)) = false]) (by kernel_rfl) ⟨h0, trivial⟩
def S20 (l : List Int) (g : Int) (c0 : Int) : St := St.mk [tc (C.slice 1 (us l)), tc (u g), T.hole, T.hole, T.hole, tc (ii c0), T.hole, T.hole, T.hole, T.hole, T.hole, T.hole, T.hole, T.hole, T.hole, T.hole, T.hole, T.hole] [] []
def b20_s0 (l : List Int) (g : Int) (i : Nat) (x : Int) : St := St.mk [tc (C.slice 1 (us l)), tc (u g), T.hole, T.hole, tc (bo true), tc (ii (↑i : Int)), tc (ii (↑i : Int)), tc (C.slice 1 (us l)), tc (ii (↑(List.length (us l)) : Int)), tc (bo (decide ((↑i : Int) < (↑(List.length (us l)) : Int)))), T.hole, T.hole, tc (C.slice 1 (us l)), tc (ii (↑i : Int)), tc (C.rptr [u x]), tc (u x), tc (u g), tc (bo (x == g))] [] []
theorem b20_0 (l : List Int) (g : Int) (i : Nat) (x : Int) (hx : (us l)[i]? = some [u x]) (k : Nat) (h0 : (decide ((↑i : Int) < (↑(List.length (us l)) : Int))) = true) (h1 : (x == g) = true) : OutIs (EE (k + 1)) (HH 20) NN (LB PP 20 2) (S20 l g (↑i : Int)) (Ext.ret) (b20_s0 l g i x) :=
  out_of (gs := [G.b true, G.idx i [u x], G.b true]) (ps := [decide ((↑i : Int) < (↑(List.length (us l)) : Int)) = true, (↑i : Int) = (↑i : Int), (us l)[i]? = some [u x], (x == g) = true]) (by kernel_rfl) ⟨h0, rfl, hx, h1, trivial⟩
theorem b20_1 (l : List Int) (g : Int) (i : Nat) (x : Int) (hx : (us l)[i]? = some [u x]) (k : Nat) (h0 : (decide ((↑i : Int) < (↑(List.length (us l)) : Int))) = true) (h1 : (x == g) = false) : NextIs (EE (k + 1)) (HH 20) NN (LB PP 20 2) 0 0 (S20 l g (↑i : Int)) (S20 l g (IntKind.wrap IntKind.i64 ((↑i : Int) + 1))) :=
  next_of (gs := [G.b true, G.idx i [u x], G.b false]) (ps := [decide ((↑i : Int) < (↑(List.length (us l)) : Int)) = true, (↑i : Int) = (↑i : Int), (us l)[i]? = some [u x], (x == g) = false]) (by kernel_rfl) ⟨h0, rfl, hx, h1, trivial⟩
def b20_s2 (l : List Int) (g : Int) (i : Nat) : St := St.mk [tc (C.slice 1 (us l)), tc (u g), T.hole, T.hole, T.hole, tc (ii (↑i : Int)), tc (ii (↑i : Int)), tc (C.slice 1 (us l)), tc (ii (↑(List.length (us l)) : Int)), tc (bo (decide ((↑i : Int) < (↑(List.length (us l)) : Int)))), T.hole, T.hole, T.hole, T.hole, T.hole, T.hole, T.hole, T.hole] [] []
theorem b20_2 (l : List Int) (g : Int) (i : Nat) (k : Nat) (h0 : (decide ((↑i : Int) < (↑(List.length (us l)) : Int))) = false) : OutIs (EE (k + 1)) (HH 20) NN (LB PP 20 2) (S20 l g (↑i : Int)) (Ext.exit 0) (b20_s2 l g i) :=
  out_of (gs := [G.b false]) (ps := [decide ((↑i : Int) < (↑(List.length (us l)) : Int)) = false]) (by kernel_rfl) ⟨h0, trivial⟩
def S21 (l : List Mi) (g : Int) (c0 : Int) : St := St.mk [tc (C.slice 3 (mints l)), tc (u g), T.hole, T.hole, T.hole, tc (ii c0), T.hole, T.hole, T.hole, T.hole, T.hole, T.hole, T.hole, T.hole, T.hole, T.hole, T.hole, T.hole, T.hole, T.hole, T.hole, T.hole, T.hole, T.hole] [] []
def b21_s0 (l : List Mi) (g : Int) (i : Nat) (x : Mi) : St := St.mk [tc (C.slice 3 (mints l)), tc (u g), T.hole, T.hole, tc (u (Mi.p x)), tc (ii (↑i : Int)), tc (ii (↑i : Int)), tc (C.slice 3 (mints l)), tc (ii (↑(List.length (mints l)) : Int)), tc (bo (decide ((↑i : Int) < (↑(List.length (mints l)) : Int)))), T.hole, T.hole, tc (C.slice 3 (mints l)), tc (ii (↑i : Int)), tc (C.rptr [u (Mi.g x), u (Mi.p x), ii (Mi.n x)]), tc (C.rptr [u (Mi.g x), u (Mi.p x), ii (Mi.n x)]), tc (u (Mi.g x)), tc (u g), tc (bo (Mi.g x == g)), tc (C.slice 3 (mints l)), tc (ii (↑i : Int)), tc (C.rptr [u (Mi.g x), u (Mi.p x), ii (Mi.n x)]), tc (C.rptr [u (Mi.p x), ii (Mi.n x)]), tc (u (Mi.p x))] [] []
theorem b21_0 (l : List Mi) (g : Int) (i : Nat) (x : Mi) (hx : (mints l)[i]? = some [u (Mi.g x), u (Mi.p x), ii (Mi.n x)]) (k : Nat) (h0 : (decide ((↑i : Int) < (↑(List.length (mints l)) : Int))) = true) (h1 : (Mi.g x == g) = true) : OutIs (EE (k + 1)) (HH 21) NN (LB PP 21 2) (S21 l g (↑i : Int)) (Ext.ret) (b21_s0 l g i x) :=
  out_of (gs := [G.b true, G.idx i [u (Mi.g x), u (Mi.p x), ii (Mi.n x)], G.b true, G.idx i [u (Mi.g x), u (Mi.p x), ii (Mi.n x)]]) (ps := [decide ((↑i : Int) < (↑(List.length (mints l)) : Int)) = true, (↑i : Int) = (↑i : Int), (mints l)[i]? = some [u (Mi.g x), u (Mi.p x), ii (Mi.n x)], (Mi.g x == g) = true, (↑i : Int) = (↑i : Int), (mints l)[i]? = some [u (Mi.g x), u (Mi.p x), ii (Mi.n x)]]) (by kernel_rfl) ⟨h0, rfl, hx, h1, rfl, hx, trivial⟩
theorem b21_1 (l : List Mi) (g : Int) (i : Nat) (x : Mi) (hx : (mints l)[i]? = some [u (Mi.g x), u (Mi.p x), ii (Mi.n x)]) (k : Nat) (h0 : (decide ((↑i : Int) < (↑(List.length (mints l)) : Int))) = true) (h1 : (Mi.g x == g) = false) : NextIs (EE (k + 1)) (HH 21) NN (LB PP 21 2) 0 0 (S21 l g (↑i : Int)) (S21 l g (IntKind.wrap IntKind.i64 ((↑i : Int) + 1))) :=
  next_of (gs := [G.b true, G.idx i [u (Mi.g x), u (Mi.p x), ii (Mi.n x)], G.b false]) (ps := [decide ((↑i : Int) < (↑(List.length (mints l)) : Int)) = true, (↑i : Int) = (↑i : Int), (mints l)[i]? = some [u (Mi.g x), u (Mi.p x), ii (Mi.n x)], (Mi.g x == g) = false]) (by kernel_rfl) ⟨h0, rfl, hx, h1, trivial⟩
def b21_s2 (l : List Mi) (g : Int) (i : Nat) : St := St.mk [tc (C.slice 3 (mints l)), tc (u g), T.hole, T.hole, T.hole, tc (ii (↑i : Int)), tc (ii (↑i : Int)), tc (C.slice 3 (mints l)), tc (ii (↑(List.length (mints l)) : Int)), tc (bo (decide ((↑i : Int) < (↑(List.length (mints l)) : Int)))), T.hole, T.hole, T.hole, T.hole, T.hole, T.hole, T.hole, T.hole, T.hole, T.hole, T.hole, T.hole, T.hole, T.hole] [] []
theorem b21_2 (l : List Mi) (g : Int) (i : Nat) (k : Nat) (h0 : (decide ((↑i : Int) < (↑(List.length (mints l)) : Int))) = false) : OutIs (EE (k + 1)) (HH 21) NN (LB PP 21 2) (S21 l g (↑i : Int)) (Ext.exit 0) (b21_s2 l g i) :=
  out_of (gs := [G.b false]) (ps := [decide ((↑i : Int) < (↑(List.length (mints l)) : Int)) = false]) (by kernel_rfl) ⟨h0, trivial⟩
theorem dlt {l : List Int} {i : Nat} (h : i < l.length) : decide ((i : Int) < ((us l).length : Int)) = true := by rw [us_len]; exact decide_eq_true (by omega)
theorem dge {l : List Int} {i : Nat} (h : l.length ≤ i) : decide ((i : Int) < ((us l).length : Int)) = false := by rw [us_len]; exact decide_eq_false (by omega)
theorem mlt {l : List Mi} {i : Nat} (h : i < l.length) : decide ((i : Int) < ((mints l).length : Int)) = true := by rw [mints_len]; exact decide_eq_true (by omega)
theorem mge {l : List Mi} {i : Nat} (h : l.length ≤ i) : decide ((i : Int) < ((mints l).length : Int)) = false := by rw [mints_len]; exact decide_eq_false (by omega)
theorem lt_of_get {α : Type} {l : List α} {i : Nat} {x : α} (h : l[i]? = some x) : i < l.length := (List.getElem?_eq_some_iff.1 h).1
abbrev BIG : Nat := 9223372036854775808
theorem L23_hit (l : List Int) (g : Int) (hl : l.length < BIG) (hb : l.any (g == ·) = true) (x : Int) (hx : l[l.findIdx (g == ·)]? = some x) (s : St) (hs : s.head (HH 23 2) = S23 l g 0) (k : Nat) : LoopIs (EE (k + 1)) (HH 23) NN (LB PP 23 2) s .ret (b23_s0 l g (l.findIdx (g == ·)) x) := by
  refine find_hit (E := EE (k + 1)) (n := NN) (b := LB PP 23 2) 2 (by kernel_rfl) (fun i => S23 l g (i : Nat)) l (g == ·) (nv := 0) (nt := 0) hs (by kernel_rfl) (by kernel_rfl)
    (fun i y hy hp => ?_) (fun y hy hp => ?_) (findIdx_lt_of_any hb) (by unfold NN; unfold BIG at hl; omega)
  · have := b23_1 l g i y (us_get hy) k (dlt (lt_of_get hy)) hp
    rwa [w64 (lt_of_get hy) hl] at this
  · rw [hx] at hy; cases hy
    exact b23_0 l g _ x (us_get hx) k (dlt (lt_of_get hx)) hp
theorem L23_miss (l : List Int) (g : Int) (hl : l.length < BIG) (hb : l.any (g == ·) = false) (s : St) (hs : s.head (HH 23 2) = S23 l g 0) (k : Nat) : LoopIs (EE (k + 1)) (HH 23) NN (LB PP 23 2) s (.exit 0) (b23_s2 l g l.length) := by
  refine find_miss (E := EE (k + 1)) (n := NN) (b := LB PP 23 2) 2 (by kernel_rfl) (fun i => S23 l g (i : Nat)) l (g == ·) (nv := 0) (nt := 0) hs (by kernel_rfl) (by kernel_rfl)
    (fun i y hy hp => ?_) (b23_2 l g l.length k (dge (Nat.le_refl _))) (all_of_any hb) (by unfold NN; unfold BIG at hl; omega)
  have := b23_1 l g i y (us_get hy) k (dlt (lt_of_get hy)) hp
  rwa [w64 (lt_of_get hy) hl] at this
theorem ix_hit (l : List Int) (g : Int) (hl : List.length l < BIG) (hb : (List.any l fun x => g == x) = true) (x : Int) (hx : l[List.findIdx (fun x => g == x) l]? = some x) (k : Nat) : orac PP GL XX HH NN (k + 2) 23 [A.c (C.slice 1 (us l)), A.c (u g)] [] = some ([Res.c (ii (↑(List.findIdx (fun x => g == x) l) : Int))], []) := by
  exact (orac_fn (show PP.funcs[23]? = some _ from rfl) (show XX 23 = none from rfl) (rs := [Res.c (ii (↑(List.findIdx (fun x => g == x) l) : Int))]) (ims' := []) (gs := [G.loop Ext.ret (St.mk [tc (C.slice 1 (us l)), tc (u g), T.hole, T.hole, tc (ii (↑(List.findIdx (fun x => g == x) l) : Int)), tc (ii (↑(List.findIdx (fun x => g == x) l) : Int)), T.hole, tc (ii (↑(List.length (us l)) : Int)), tc (ii (↑(List.findIdx (fun x => g == x) l) : Int)), tc (bo (decide ((↑(List.findIdx (fun x => g == x) l) : Int) < (↑(List.length (us l)) : Int)))), tc (ii (↑(List.findIdx (fun x => g == x) l) : Int)), tc (u g), tc (C.slice 1 (us l)), tc (ii (↑(List.findIdx (fun x => g == x) l) : Int)), tc (C.rptr [u x]), tc (u x), tc (bo (g == x)), tc (ii (↑(List.findIdx (fun x => g == x) l) : Int)), T.hole] [] [])]) (ps := [LoopIs (Env.mk PP (orac PP GL XX HH NN (k + (1 : Nat))) GL) (HH (23 : Nat)) NN (LB PP (23 : Nat) (2 : Nat)) (St.mk [tc (C.slice (1 : Nat) (us l)), tc (u g), T.skip, T.skip, tc (ii (0 : Int)), T.skip, tc (C.slice (1 : Nat) (us l)), tc (ii (↑(List.length (us l)) : Int)), tc (ii (0 : Int)), T.skip, T.skip, T.skip, T.skip, T.skip, T.skip, T.skip, T.skip, T.skip, T.skip] [] []) Ext.ret (St.mk [tc (C.slice (1 : Nat) (us l)), tc (u g), T.hole, T.hole, tc (ii (↑(List.findIdx (fun x => g == x) l) : Int)), tc (ii (↑(List.findIdx (fun x => g == x) l) : Int)), T.hole, tc (ii (↑(List.length (us l)) : Int)), tc (ii (↑(List.findIdx (fun x => g == x) l) : Int)), tc (bo (decide ((↑(List.findIdx (fun x => g == x) l) : Int) < (↑(List.length (us l)) : Int)))), tc (ii (↑(List.findIdx (fun x => g == x) l) : Int)), tc (u g), tc (C.slice (1 : Nat) (us l)), tc (ii (↑(List.findIdx (fun x => g == x) l) : Int)), tc (C.rptr [u x]), tc (u x), tc (bo (g == x)), tc (ii (↑(List.findIdx (fun x => g == x) l) : Int)), T.hole] [] [])]) (by kernel_rfl) ⟨(L23_hit l g hl hb x hx _ (by kernel_rfl) _), trivial⟩)
theorem ix_miss (l : List Int) (g : Int) (hl : List.length l < BIG) (hb : (List.any l fun x => g == x) = false) (k : Nat) : orac PP GL XX HH NN (k + 2) 23 [A.c (C.slice 1 (us l)), A.c (u g)] [] = some ([Res.c (ii (-1))], []) := by
  exact (orac_fn (show PP.funcs[23]? = some _ from rfl) (show XX 23 = none from rfl) (rs := [Res.c (ii (-1))]) (ims' := []) (gs := [G.loop (Ext.exit 0) (St.mk [tc (C.slice 1 (us l)), tc (u g), T.hole, T.hole, T.hole, T.hole, T.hole, tc (ii (↑(List.length (us l)) : Int)), tc (ii (↑(List.length l) : Int)), tc (bo (decide ((↑(List.length l) : Int) < (↑(List.length (us l)) : Int)))), T.hole, T.hole, T.hole, T.hole, T.hole, T.hole, T.hole, T.hole, T.hole] [] [])]) (ps := [LoopIs (Env.mk PP (orac PP GL XX HH NN (k + (1 : Nat))) GL) (HH (23 : Nat)) NN (LB PP (23 : Nat) (2 : Nat)) (St.mk [tc (C.slice (1 : Nat) (us l)), tc (u g), T.skip, T.skip, tc (ii (0 : Int)), T.skip, tc (C.slice (1 : Nat) (us l)), tc (ii (↑(List.length (us l)) : Int)), tc (ii (0 : Int)), T.skip, T.skip, T.skip, T.skip, T.skip, T.skip, T.skip, T.skip, T.skip, T.skip] [] []) (Ext.exit (0 : Nat)) (St.mk [tc (C.slice (1 : Nat) (us l)), tc (u g), T.hole, T.hole, T.hole, T.hole, T.hole, tc (ii (↑(List.length (us l)) : Int)), tc (ii (↑(List.length l) : Int)), tc (bo (decide ((↑(List.length l) : Int) < (↑(List.length (us l)) : Int)))), T.hole, T.hole, T.hole, T.hole, T.hole, T.hole, T.hole, T.hole, T.hole] [] [])]) (by kernel_rfl) ⟨(L23_miss _ _ (by first | rfl | assumption | omega | decide | simp_all) hb _ (by kernel_rfl) _), trivial⟩)
theorem co_hit (l : List Int) (g : Int) (hl : List.length l < BIG) (hb : (List.any l fun x => g == x) = true) (x : Int) (hx : l[List.findIdx (fun x => g == x) l]? = some x) (k : Nat) : orac PP GL XX HH NN (k + 3) 19 [A.c (C.slice 1 (us l)), A.c (u g)] [] = some ([Res.c (bo true)], []) := by
  exact (orac_fn (show PP.funcs[19]? = some _ from rfl) (show XX 19 = none from rfl) (rs := [Res.c (bo true)]) (ims' := []) (gs := [G.call [Res.c (ii (↑(List.findIdx (fun x => g == x) l) : Int))] []]) (ps := [orac PP GL XX HH NN (k + 2) 23 [A.c (C.slice 1 (us l)), A.c (u g)] [] = some ([Res.c (ii (↑(List.findIdx (fun x => g == x) l) : Int))], [])]) (by kernel_rfl) ⟨(ix_hit l g hl hb x hx _), trivial⟩)
theorem co_miss (l : List Int) (g : Int) (hl : List.length l < BIG) (hb : (List.any l fun x => g == x) = false) (k : Nat) : orac PP GL XX HH NN (k + 3) 19 [A.c (C.slice 1 (us l)), A.c (u g)] [] = some ([Res.c (bo false)], []) := by
  exact (orac_fn (show PP.funcs[19]? = some _ from rfl) (show XX 19 = none from rfl) (rs := [Res.c (bo false)]) (ims' := []) (gs := [G.call [Res.c (ii (-1))] []]) (ps := [orac PP GL XX HH NN (k + 2) 23 [A.c (C.slice 1 (us l)), A.c (u g)] [] = some ([Res.c (ii (-1))], [])]) (by kernel_rfl) ⟨(ix_miss _ _ (by first | rfl | assumption | omega | decide | simp_all) hb _), trivial⟩)
theorem any_contains (l : List Int) (g : Int) : l.any (g == ·) = l.contains g := by
  rw [List.contains_eq_any_beq]
theorem contains (l : List Int) (g : Int) (hl : l.length < BIG) (k : Nat) : orac PP GL XX HH NN (k + 3) 19 [.c (.slice 1 (us l)), .c (u g)] [] = some ([.c (bo (l.contains g))], []) := by
  cases hb : l.any (g == ·) with
  | true =>
    have := co_hit l g hl hb _ (List.getElem?_eq_getElem (findIdx_lt_of_any hb)) k
    rw [← any_contains, hb]
    exact this
  | false =>
    rw [← any_contains, hb]
    exact co_miss l g hl hb k
theorem L20_hit (l : List Int) (g : Int) (hl : l.length < BIG) (hb : l.any (· == g) = true) (x : Int) (hx : l[l.findIdx (· == g)]? = some x) (s : St) (hs : s.head (HH 20 2) = S20 l g 0) (k : Nat) : LoopIs (EE (k + 1)) (HH 20) NN (LB PP 20 2) s .ret (b20_s0 l g (l.findIdx (· == g)) x) := by
  refine find_hit (E := EE (k + 1)) (n := NN) (b := LB PP 20 2) 2 (by kernel_rfl) (fun i => S20 l g (i : Nat)) l (· == g) (nv := 0) (nt := 0) hs (by kernel_rfl) (by kernel_rfl)
    (fun i y hy hp => ?_) (fun y hy hp => ?_) (findIdx_lt_of_any hb) (by unfold NN; unfold BIG at hl; omega)
  · have := b20_1 l g i y (us_get hy) k (dlt (lt_of_get hy)) hp
    rwa [w64 (lt_of_get hy) hl] at this
  · rw [hx] at hy; cases hy
    exact b20_0 l g _ x (us_get hx) k (dlt (lt_of_get hx)) hp
theorem L20_miss (l : List Int) (g : Int) (hl : l.length < BIG) (hb : l.any (· == g) = false) (s : St) (hs : s.head (HH 20 2) = S20 l g 0) (k : Nat) : LoopIs (EE (k + 1)) (HH 20) NN (LB PP 20 2) s (.exit 0) (b20_s2 l g l.length) := by
  refine find_miss (E := EE (k + 1)) (n := NN) (b := LB PP 20 2) 2 (by kernel_rfl) (fun i => S20 l g (i : Nat)) l (· == g) (nv := 0) (nt := 0) hs (by kernel_rfl) (by kernel_rfl)
    (fun i y hy hp => ?_) (b20_2 l g l.length k (dge (Nat.le_refl _))) (all_of_any hb) (by unfold NN; unfold BIG at hl; omega)
  have := b20_1 l g i y (us_get hy) k (dlt (lt_of_get hy)) hp
  rwa [w64 (lt_of_get hy) hl] at this
theorem has_hit (l : List Int) (g : Int) (hl : List.length l < BIG) (hb : (List.any l fun x => x == g) = true) (x : Int) (hx : l[List.findIdx (fun x => x == g) l]? = some x) (k : Nat) : orac PP GL XX HH NN (k + 2) 20 [A.c (C.slice 1 (us l)), A.c (u g)] [] = some ([Res.c (bo true)], []) := by
  exact (orac_fn (show PP.funcs[20]? = some _ from rfl) (show XX 20 = none from rfl) (rs := [Res.c (bo true)]) (ims' := []) (gs := [G.loop Ext.ret (St.mk [tc (C.slice 1 (us l)), tc (u g), T.hole, T.hole, tc (bo true), tc (ii (↑(List.findIdx (fun x => x == g) l) : Int)), tc (ii (↑(List.findIdx (fun x => x == g) l) : Int)), tc (C.slice 1 (us l)), tc (ii (↑(List.length (us l)) : Int)), tc (bo (decide ((↑(List.findIdx (fun x => x == g) l) : Int) < (↑(List.length (us l)) : Int)))), T.hole, T.hole, tc (C.slice 1 (us l)), tc (ii (↑(List.findIdx (fun x => x == g) l) : Int)), tc (C.rptr [u x]), tc (u x), tc (u g), tc (bo (x == g))] [] [])]) (ps := [LoopIs (Env.mk PP (orac PP GL XX HH NN (k + (1 : Nat))) GL) (HH (20 : Nat)) NN (LB PP (20 : Nat) (2 : Nat)) (St.mk [tc (C.slice (1 : Nat) (us l)), tc (u g), T.skip, T.skip, tc (bo false), tc (ii (0 : Int)), T.skip, T.skip, T.skip, T.skip, T.skip, T.skip, T.skip, T.skip, T.skip, T.skip, T.skip, T.skip] [] []) Ext.ret (St.mk [tc (C.slice (1 : Nat) (us l)), tc (u g), T.hole, T.hole, tc (bo true), tc (ii (↑(List.findIdx (fun x => x == g) l) : Int)), tc (ii (↑(List.findIdx (fun x => x == g) l) : Int)), tc (C.slice (1 : Nat) (us l)), tc (ii (↑(List.length (us l)) : Int)), tc (bo (decide ((↑(List.findIdx (fun x => x == g) l) : Int) < (↑(List.length (us l)) : Int)))), T.hole, T.hole, tc (C.slice (1 : Nat) (us l)), tc (ii (↑(List.findIdx (fun x => x == g) l) : Int)), tc (C.rptr [u x]), tc (u x), tc (u g), tc (bo (x == g))] [] [])]) (by kernel_rfl) ⟨(L20_hit l g hl hb x hx _ (by kernel_rfl) _), trivial⟩)
theorem has_miss (l : List Int) (g : Int) (hl : List.length l < BIG) (hb : (List.any l fun x => x == g) = false) (k : Nat) : orac PP GL XX HH NN (k + 2) 20 [A.c (C.slice 1 (us l)), A.c (u g)] [] = some ([Res.c (bo false)], []) := by
  exact (orac_fn (show PP.funcs[20]? = some _ from rfl) (show XX 20 = none from rfl) (rs := [Res.c (bo false)]) (ims' := []) (gs := [G.loop (Ext.exit 0) (St.mk [tc (C.slice 1 (us l)), tc (u g), T.hole, T.hole, T.hole, tc (ii (↑(List.length l) : Int)), tc (ii (↑(List.length l) : Int)), tc (C.slice 1 (us l)), tc (ii (↑(List.length (us l)) : Int)), tc (bo (decide ((↑(List.length l) : Int) < (↑(List.length (us l)) : Int)))), T.hole, T.hole, T.hole, T.hole, T.hole, T.hole, T.hole, T.hole] [] [])]) (ps := [LoopIs (Env.mk PP (orac PP GL XX HH NN (k + (1 : Nat))) GL) (HH (20 : Nat)) NN (LB PP (20 : Nat) (2 : Nat)) (St.mk [tc (C.slice (1 : Nat) (us l)), tc (u g), T.skip, T.skip, tc (bo false), tc (ii (0 : Int)), T.skip, T.skip, T.skip, T.skip, T.skip, T.skip, T.skip, T.skip, T.skip, T.skip, T.skip, T.skip] [] []) (Ext.exit (0 : Nat)) (St.mk [tc (C.slice (1 : Nat) (us l)), tc (u g), T.hole, T.hole, T.hole, tc (ii (↑(List.length l) : Int)), tc (ii (↑(List.length l) : Int)), tc (C.slice (1 : Nat) (us l)), tc (ii (↑(List.length (us l)) : Int)), tc (bo (decide ((↑(List.length l) : Int) < (↑(List.length (us l)) : Int)))), T.hole, T.hole, T.hole, T.hole, T.hole, T.hole, T.hole, T.hole] [] [])]) (by kernel_rfl) ⟨(L20_miss _ _ (by first | rfl | assumption | omega | decide | simp_all) hb _ (by kernel_rfl) _), trivial⟩)
theorem any_contains' (l : List Int) (g : Int) : l.any (· == g) = l.contains g := by
  rw [List.contains_eq_any_beq]
  congr 1
  funext x
  exact Bool.beq_comm
theorem has12 (l : List Int) (g : Int) (hl : l.length < BIG) (k : Nat) : orac PP GL XX HH NN (k + 2) 20 [.c (.slice 1 (us l)), .c (u g)] [] = some ([.c (bo (l.contains g))], []) := by
  rw [← any_contains']
  cases hb : l.any (· == g) with
  | true => exact has_hit l g hl hb _ (List.getElem?_eq_getElem (findIdx_lt_of_any hb)) k
  | false => exact has_miss l g hl hb k
/-- the parent, by the first -/
def parL (l : List Mi) (g : Int) : Int := match l.find? (·.g == g) with | some x => x.p | none => 0
theorem L21_hit (l : List Mi) (g : Int) (hl : l.length < BIG) (hb : l.any (·.g == g) = true) (x : Mi) (hx : l[l.findIdx (·.g == g)]? = some x) (s : St) (hs : s.head (HH 21 2) = S21 l g 0) (k : Nat) : LoopIs (EE (k + 1)) (HH 21) NN (LB PP 21 2) s .ret (b21_s0 l g (l.findIdx (·.g == g)) x) := by
  refine find_hit (E := EE (k + 1)) (n := NN) (b := LB PP 21 2) 2 (by kernel_rfl) (fun i => S21 l g (i : Nat)) l (·.g == g) (nv := 0) (nt := 0) hs (by kernel_rfl) (by kernel_rfl)
    (fun i y hy hp => ?_) (fun y hy hp => ?_) (findIdx_lt_of_any hb) (by unfold NN; unfold BIG at hl; omega)
  · have := b21_1 l g i y (mints_get hy) k (mlt (lt_of_get hy)) hp
    rwa [w64 (lt_of_get hy) hl] at this
  · rw [hx] at hy; cases hy
    exact b21_0 l g _ x (mints_get hx) k (mlt (lt_of_get hx)) hp
theorem L21_miss (l : List Mi) (g : Int) (hl : l.length < BIG) (hb : l.any (·.g == g) = false) (s : St) (hs : s.head (HH 21 2) = S21 l g 0) (k : Nat) : LoopIs (EE (k + 1)) (HH 21) NN (LB PP 21 2) s (.exit 0) (b21_s2 l g l.length) := by
  refine find_miss (E := EE (k + 1)) (n := NN) (b := LB PP 21 2) 2 (by kernel_rfl) (fun i => S21 l g (i : Nat)) l (·.g == g) (nv := 0) (nt := 0) hs (by kernel_rfl) (by kernel_rfl)
    (fun i y hy hp => ?_) (b21_2 l g l.length k (mge (Nat.le_refl _))) (all_of_any hb) (by unfold NN; unfold BIG at hl; omega)
  have := b21_1 l g i y (mints_get hy) k (mlt (lt_of_get hy)) hp
  rwa [w64 (lt_of_get hy) hl] at this
theorem par_hit (l : List Mi) (g : Int) (hl : List.length l < BIG) (hb : (List.any l fun x => Mi.g x == g) = true) (x : Mi) (hx : l[List.findIdx (fun x => Mi.g x == g) l]? = some x) (k : Nat) : orac PP GL XX HH NN (k + 2) 21 [A.c (C.slice 3 (mints l)), A.c (u g)] [] = some ([Res.c (u (Mi.p x))], []) := by
  exact (orac_fn (show PP.funcs[21]? = some _ from rfl) (show XX 21 = none from rfl) (rs := [Res.c (u (Mi.p x))]) (ims' := []) (gs := [G.loop Ext.ret (St.mk [tc (C.slice 3 (mints l)), tc (u g), T.hole, T.hole, tc (u (Mi.p x)), tc (ii (↑(List.findIdx (fun x => Mi.g x == g) l) : Int)), tc (ii (↑(List.findIdx (fun x => Mi.g x == g) l) : Int)), tc (C.slice 3 (mints l)), tc (ii (↑(List.length (mints l)) : Int)), tc (bo (decide ((↑(List.findIdx (fun x => Mi.g x == g) l) : Int) < (↑(List.length (mints l)) : Int)))), T.hole, T.hole, tc (C.slice 3 (mints l)), tc (ii (↑(List.findIdx (fun x => Mi.g x == g) l) : Int)), tc (C.rptr [u (Mi.g x), u (Mi.p x), ii (Mi.n x)]), tc (C.rptr [u (Mi.g x), u (Mi.p x), ii (Mi.n x)]), tc (u (Mi.g x)), tc (u g), tc (bo (Mi.g x == g)), tc (C.slice 3 (mints l)), tc (ii (↑(List.findIdx (fun x => Mi.g x == g) l) : Int)), tc (C.rptr [u (Mi.g x), u (Mi.p x), ii (Mi.n x)]), tc (C.rptr [u (Mi.p x), ii (Mi.n x)]), tc (u (Mi.p x))] [] [])]) (ps := [LoopIs (Env.mk PP (orac PP GL XX HH NN (k + (1 : Nat))) GL) (HH (21 : Nat)) NN (LB PP (21 : Nat) (2 : Nat)) (St.mk [tc (C.slice (3 : Nat) (mints l)), tc (u g), T.skip, T.skip, tc (u (0 : Int)), tc (ii (0 : Int)), T.skip, T.skip, T.skip, T.skip, T.skip, T.skip, T.skip, T.skip, T.skip, T.skip, T.skip, T.skip, T.skip, T.skip, T.skip, T.skip, T.skip, T.skip] [] []) Ext.ret (St.mk [tc (C.slice (3 : Nat) (mints l)), tc (u g), T.hole, T.hole, tc (u (Mi.p x)), tc (ii (↑(List.findIdx (fun x => Mi.g x == g) l) : Int)), tc (ii (↑(List.findIdx (fun x => Mi.g x == g) l) : Int)), tc (C.slice (3 : Nat) (mints l)), tc (ii (↑(List.length (mints l)) : Int)), tc (bo (decide ((↑(List.findIdx (fun x => Mi.g x == g) l) : Int) < (↑(List.length (mints l)) : Int)))), T.hole, T.hole, tc (C.slice (3 : Nat) (mints l)), tc (ii (↑(List.findIdx (fun x => Mi.g x == g) l) : Int)), tc (C.rptr [u (Mi.g x), u (Mi.p x), ii (Mi.n x)]), tc (C.rptr [u (Mi.g x), u (Mi.p x), ii (Mi.n x)]), tc (u (Mi.g x)), tc (u g), tc (bo (Mi.g x == g)), tc (C.slice (3 : Nat) (mints l)), tc (ii (↑(List.findIdx (fun x => Mi.g x == g) l) : Int)), tc (C.rptr [u (Mi.g x), u (Mi.p x), ii (Mi.n x)]), tc (C.rptr [u (Mi.p x), ii (Mi.n x)]), tc (u (Mi.p x))] [] [])]) (by kernel_rfl) ⟨(L21_hit l g hl hb x hx _ (by kernel_rfl) _), trivial⟩)
theorem par_miss (l : List Mi) (g : Int) (hl : List.length l < BIG) (hb : (List.any l fun x => Mi.g x == g) = false) (k : Nat) : orac PP GL XX HH NN (k + 2) 21 [A.c (C.slice 3 (mints l)), A.c (u g)] [] = some ([Res.c (u 0)], []) := by
  exact (orac_fn (show PP.funcs[21]? = some _ from rfl) (show XX 21 = none from rfl) (rs := [Res.c (u 0)]) (ims' := []) (gs := [G.loop (Ext.exit 0) (St.mk [tc (C.slice 3 (mints l)), tc (u g), T.hole, T.hole, T.hole, tc (ii (↑(List.length l) : Int)), tc (ii (↑(List.length l) : Int)), tc (C.slice 3 (mints l)), tc (ii (↑(List.length (mints l)) : Int)), tc (bo (decide ((↑(List.length l) : Int) < (↑(List.length (mints l)) : Int)))), T.hole, T.hole, T.hole, T.hole, T.hole, T.hole, T.hole, T.hole, T.hole, T.hole, T.hole, T.hole, T.hole, T.hole] [] [])]) (ps := [LoopIs (Env.mk PP (orac PP GL XX HH NN (k + (1 : Nat))) GL) (HH (21 : Nat)) NN (LB PP (21 : Nat) (2 : Nat)) (St.mk [tc (C.slice (3 : Nat) (mints l)), tc (u g), T.skip, T.skip, tc (u (0 : Int)), tc (ii (0 : Int)), T.skip, T.skip, T.skip, T.skip, T.skip, T.skip, T.skip, T.skip, T.skip, T.skip, T.skip, T.skip, T.skip, T.skip, T.skip, T.skip, T.skip, T.skip] [] []) (Ext.exit (0 : Nat)) (St.mk [tc (C.slice (3 : Nat) (mints l)), tc (u g), T.hole, T.hole, T.hole, tc (ii (↑(List.length l) : Int)), tc (ii (↑(List.length l) : Int)), tc (C.slice (3 : Nat) (mints l)), tc (ii (↑(List.length (mints l)) : Int)), tc (bo (decide ((↑(List.length l) : Int) < (↑(List.length (mints l)) : Int)))), T.hole, T.hole, T.hole, T.hole, T.hole, T.hole, T.hole, T.hole, T.hole, T.hole, T.hole, T.hole, T.hole, T.hole] [] [])]) (by kernel_rfl) ⟨(L21_miss _ _ (by first | rfl | assumption | omega | decide | simp_all) hb _ (by kernel_rfl) _), trivial⟩)
theorem parent (l : List Mi) (g : Int) (hl : l.length < BIG) (k : Nat) : orac PP GL XX HH NN (k + 2) 21 [.c (.slice 3 (mints l)), .c (u g)] [] = some ([.c (u (parL l g))], []) := by
  unfold parL
  rw [List.find?_eq_getElem?_findIdx]
  cases hb : l.any (·.g == g) with
  | true =>
    have hx := List.getElem?_eq_getElem (findIdx_lt_of_any hb)
    rw [hx]
    exact par_hit l g hl hb _ hx k
  | false =>
    have hall := all_of_any hb
    have hn : l[l.findIdx (·.g == g)]? = none := by
      rw [List.getElem?_eq_none_iff]
      rw [List.findIdx_eq_length_of_false]
      · exact Nat.le_refl _
      · intro x hx
        have := List.all_eq_true.1 hall x hx
        simpa using this
    rw [hn]
    exact par_miss l g hl hb k
end Go.Dm
