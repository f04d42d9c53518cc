/-
  A part of the proofs over this seat: what its functions make of data (the file in which the theorems stand says what is proved).
-/
import Derived.Test.YtigkecdnnkgghaaLd
namespace Go.Dm
open Go
theorem take_get {α : Type} {l : List α} {i j : Nat} {y : α} (h : (l.take i)[j]? = some y) : l[j]? = some y ∧ j < i := by
  rw [List.getElem?_take] at h
  split at h
  · exact ⟨h, by assumption⟩
  · cases h
theorem L8i_hit (l : List Mi) (hl : l.length < BIG) (i : Nat) (x : Mi) (hx : (mints l)[i]? = some [u x.g, u x.p, ii x.n]) (hi : i < l.length) (j : Nat) (hj : (l.take i).findIdx (·.g == x.g) = j) (y : Mi) (hy : (l.take i)[j]? = some y) (hyx : (y.g == x.g) = true) (s : St) (hs : s.head (HH 8 7) = S8i l i 0) (k : Nat) :
    LoopIs (EE (k + 1)) (HH 8) NN (LB PP 8 7) s .ret (b8i_s0 l i x j y) := by
  subst hj
  have hlt : (l.take i).length ≤ l.length := by simp; omega
  refine find_hit (E := EE (k + 1)) (n := NN) (b := LB PP 8 7) 7 (by kernel_rfl) (fun j => S8i l i (j : Nat)) (l.take i) (·.g == x.g) (nv := 0) (nt := 0) hs (by kernel_rfl) (by kernel_rfl)
    (fun j z hz hp => ?_) (fun z hz hp => ?_) (lt_of_get hy) (by unfold NN; unfold BIG at hl; omega)
  · obtain ⟨h1, h2⟩ := take_get hz
    have := b8i_1 l i x hx j z (mints_get h1) k (decide_eq_true (by omega)) hp
    rwa [w64 (lt_of_get h1) hl] at this
  · obtain ⟨h1, h2⟩ := take_get hy
    exact b8i_0 l i x hx _ y (mints_get h1) k (decide_eq_true (by omega)) hyx
theorem L8i_miss (l : List Mi) (hl : l.length < BIG) (i : Nat) (x : Mi) (hx : (mints l)[i]? = some [u x.g, u x.p, ii x.n]) (hi : i < l.length) (hb : (l.take i).any (·.g == x.g) = false) (s : St) (hs : s.head (HH 8 7) = S8i l i 0) (k : Nat) :
    LoopIs (EE (k + 1)) (HH 8) NN (LB PP 8 7) s (.exit 2) (b8i_s2 l i i) := by
  have hlt : (l.take i).length = i := by simp; omega
  refine find_miss (E := EE (k + 1)) (n := NN) (b := LB PP 8 7) 7 (by kernel_rfl) (fun j => S8i l i (j : Nat)) (l.take i) (·.g == x.g) (nv := 0) (nt := 0) hs (by kernel_rfl) (by kernel_rfl)
    (fun j z hz hp => ?_) ?_ (all_of_any hb) (by unfold NN; unfold BIG at hl; omega)
  · obtain ⟨h1, h2⟩ := take_get hz
    have := b8i_1 l i x hx j z (mints_get h1) k (decide_eq_true (by omega)) hp
    rwa [w64 (lt_of_get h1) hl] at this
  · rw [hlt]
    exact b8i_2 l i i k (decide_eq_false (by omega))
def b8h_s0 (l : List Mi) (i : Nat) (x : Mi) : St := St.mk [tc (C.slice 3 (mints l)), T.hole, tc (bo false), tc (ii (↑i : Int)), T.hole, tc (ii (↑i : Int)), tc (C.slice 3 (mints l)), tc (ii (↑(List.length (mints l)) : Int)), tc (bo (decide ((↑i : Int) < (↑(List.length (mints l)) : Int)))), T.hole, T.hole, tc (C.slice 3 (mints l)), tc (ii (↑i : Int)), tc (C.rptr [u (Mi.g x), u (Mi.p x), ii (Mi.n x)]), tc (C.rptr [u (Mi.g x), u (Mi.p x), ii (Mi.n x)]), tc (u (Mi.g x)), tc (bo (Mi.g x == 0)), T.hole, T.hole, T.hole, T.hole, T.hole, T.hole, T.hole, T.hole, T.hole, T.hole, T.hole, T.hole, T.hole, T.hole, T.hole, T.hole] [] []
theorem b8h_0 (l : List Mi) (i : Nat) (x : Mi) (hx : (mints l)[i]? = some [u (Mi.g x), u (Mi.p x), ii (Mi.n x)]) (k : Nat) (h0 : (decide ((↑i : Int) < (↑(List.length (mints l)) : Int))) = true) (h1 : (Mi.g x == 0) = true) : OutIs (EE (k + 1)) (HH 8) NN (LB PP 8 2) (S8 l (↑i : Int)) (Ext.ret) (b8h_s0 l i x) :=
  out_of (gs := [G.b true, G.idx i [u (Mi.g x), u (Mi.p x), ii (Mi.n x)], G.b true]) (ps := [decide ((↑i : Int) < (↑(List.length (mints l)) : Int)) = true, (↑i : Int) = (↑i : Int), (mints l)[i]? = some [u (Mi.g x), u (Mi.p x), ii (Mi.n x)], (Mi.g x == (0 : Int)) = true]) (by kernel_rfl) ⟨h0, rfl, hx, h1, trivial⟩
def b8h_s1 (l : List Mi) (i : Nat) (x : Mi) (j : Nat) (y : Mi) : St := St.mk [tc (C.slice 3 (mints l)), T.hole, tc (bo false), tc (ii (↑i : Int)), tc (ii (↑j : Int)), T.hole, T.hole, T.hole, T.hole, T.hole, T.hole, T.hole, T.hole, T.hole, T.hole, T.hole, T.hole, tc (ii (↑j : Int)), tc (ii (↑i : Int)), tc (bo (decide ((↑j : Int) < (↑i : Int)))), T.hole, T.hole, tc (C.slice 3 (mints l)), tc (ii (↑j : Int)), tc (C.rptr [u (Mi.g y), u (Mi.p y), ii (Mi.n y)]), tc (C.rptr [u (Mi.g y), u (Mi.p y), ii (Mi.n y)]), tc (u (Mi.g y)), tc (C.slice 3 (mints l)), tc (ii (↑i : Int)), tc (C.rptr [u (Mi.g x), u (Mi.p x), ii (Mi.n x)]), tc (C.rptr [u (Mi.g x), u (Mi.p x), ii (Mi.n x)]), tc (u (Mi.g x)), tc (bo (Mi.g y == Mi.g x))] [] []
theorem b8h_1 (l : List Mi) (hl : List.length l < BIG) (i : Nat) (x : Mi) (hx : (mints l)[i]? = some [u (Mi.g x), u (Mi.p x), ii (Mi.n x)]) (hi : i < List.length l) (j : Nat) (hj : List.findIdx (fun x_1 => Mi.g x_1 == Mi.g x) (List.take i l) = j) (y : Mi) (hy : (List.take i l)[j]? = some y) (hyx : (Mi.g y == Mi.g x) = true) (k : Nat) (h0 : (decide ((↑i : Int) < (↑(List.length (mints l)) : Int))) = true) (h1 : (Mi.g x == 0) = false) : OutIs (EE (k + 1)) (HH 8) NN (LB PP 8 2) (S8 l (↑i : Int)) (Ext.ret) (b8h_s1 l i x j y) :=
  out_of (gs := [G.b true, G.idx i [u (Mi.g x), u (Mi.p x), ii (Mi.n x)], G.b false, G.loop Ext.ret (St.mk [tc (C.slice 3 (mints l)), T.hole, tc (bo false), tc (ii (↑i : Int)), tc (ii (↑j : Int)), T.hole, T.hole, T.hole, T.hole, T.hole, T.hole, T.hole, T.hole, T.hole, T.hole, T.hole, T.hole, tc (ii (↑j : Int)), tc (ii (↑i : Int)), tc (bo (decide ((↑j : Int) < (↑i : Int)))), T.hole, T.hole, tc (C.slice 3 (mints l)), tc (ii (↑j : Int)), tc (C.rptr [u (Mi.g y), u (Mi.p y), ii (Mi.n y)]), tc (C.rptr [u (Mi.g y), u (Mi.p y), ii (Mi.n y)]), tc (u (Mi.g y)), tc (C.slice 3 (mints l)), tc (ii (↑i : Int)), tc (C.rptr [u (Mi.g x), u (Mi.p x), ii (Mi.n x)]), tc (C.rptr [u (Mi.g x), u (Mi.p x), ii (Mi.n x)]), tc (u (Mi.g x)), tc (bo (Mi.g y == Mi.g x))] [] [])]) (ps := [decide ((↑i : Int) < (↑(List.length (mints l)) : Int)) = true, (↑i : Int) = (↑i : Int), (mints l)[i]? = some [u (Mi.g x), u (Mi.p x), ii (Mi.n x)], (Mi.g x == (0 : Int)) = false, LoopIs (Env.mk PP (orac PP GL XX HH NN (k + (1 : Nat))) GL) (HH (8 : Nat)) NN (LB PP (8 : Nat) (7 : Nat)) (St.mk [tc (C.slice (3 : Nat) (mints l)), T.hole, T.hole, tc (ii (↑i : Int)), tc (ii (0 : Int)), tc (ii (↑i : Int)), tc (C.slice (3 : Nat) (mints l)), tc (ii (↑(List.length (mints l)) : Int)), tc (bo (decide ((↑i : Int) < (↑(List.length (mints l)) : Int)))), T.hole, T.hole, tc (C.slice (3 : Nat) (mints l)), tc (ii (↑i : Int)), tc (C.rptr [u (Mi.g x), u (Mi.p x), ii (Mi.n x)]), tc (C.rptr [u (Mi.g x), u (Mi.p x), ii (Mi.n x)]), tc (u (Mi.g x)), tc (bo (Mi.g x == (0 : Int))), T.hole, T.hole, T.hole, T.hole, T.hole, T.hole, T.hole, T.hole, T.hole, T.hole, T.hole, T.hole, T.hole, T.hole, T.hole, T.hole] [] []) Ext.ret (St.mk [tc (C.slice (3 : Nat) (mints l)), T.hole, tc (bo false), tc (ii (↑i : Int)), tc (ii (↑j : Int)), T.hole, T.hole, T.hole, T.hole, T.hole, T.hole, T.hole, T.hole, T.hole, T.hole, T.hole, T.hole, tc (ii (↑j : Int)), tc (ii (↑i : Int)), tc (bo (decide ((↑j : Int) < (↑i : Int)))), T.hole, T.hole, tc (C.slice (3 : Nat) (mints l)), tc (ii (↑j : Int)), tc (C.rptr [u (Mi.g y), u (Mi.p y), ii (Mi.n y)]), tc (C.rptr [u (Mi.g y), u (Mi.p y), ii (Mi.n y)]), tc (u (Mi.g y)), tc (C.slice (3 : Nat) (mints l)), tc (ii (↑i : Int)), tc (C.rptr [u (Mi.g x), u (Mi.p x), ii (Mi.n x)]), tc (C.rptr [u (Mi.g x), u (Mi.p x), ii (Mi.n x)]), tc (u (Mi.g x)), tc (bo (Mi.g y == Mi.g x))] [] [])]) (by kernel_rfl) ⟨h0, rfl, hx, h1, (L8i_hit l hl i x hx hi j hj y hy hyx _ (by kernel_rfl) _), trivial⟩
def b8h_s2 (l : List Mi) (i : Nat) : St := St.mk [tc (C.slice 3 (mints l)), T.hole, T.hole, tc (ii (↑i : Int)), T.hole, tc (ii (↑i : Int)), tc (C.slice 3 (mints l)), tc (ii (↑(List.length (mints l)) : Int)), tc (bo (decide ((↑i : Int) < (↑(List.length (mints l)) : Int)))), T.hole, T.hole, T.hole, T.hole, T.hole, T.hole, T.hole, T.hole, T.hole, T.hole, T.hole, T.hole, T.hole, T.hole, T.hole, T.hole, T.hole, T.hole, T.hole, T.hole, T.hole, T.hole, T.hole, T.hole] [] []
theorem b8h_2 (l : List Mi) (i : Nat) (k : Nat) (h0 : (decide ((↑i : Int) < (↑(List.length (mints l)) : Int))) = false) : OutIs (EE (k + 1)) (HH 8) NN (LB PP 8 2) (S8 l (↑i : Int)) (Ext.exit 0) (b8h_s2 l i) :=
  out_of (gs := [G.b false]) (ps := [decide ((↑i : Int) < (↑(List.length (mints l)) : Int)) = false]) (by kernel_rfl) ⟨h0, trivial⟩
def b8m_s0 (l : List Mi) (i : Nat) (x : Mi) : St := St.mk [tc (C.slice 3 (mints l)), T.hole, tc (bo false), tc (ii (↑i : Int)), T.hole, tc (ii (↑i : Int)), tc (C.slice 3 (mints l)), tc (ii (↑(List.length (mints l)) : Int)), tc (bo (decide ((↑i : Int) < (↑(List.length (mints l)) : Int)))), T.hole, T.hole, tc (C.slice 3 (mints l)), tc (ii (↑i : Int)), tc (C.rptr [u (Mi.g x), u (Mi.p x), ii (Mi.n x)]), tc (C.rptr [u (Mi.g x), u (Mi.p x), ii (Mi.n x)]), tc (u (Mi.g x)), tc (bo (Mi.g x == 0)), T.hole, T.hole, T.hole, T.hole, T.hole, T.hole, T.hole, T.hole, T.hole, T.hole, T.hole, T.hole, T.hole, T.hole, T.hole, T.hole] [] []
theorem b8m_0 (l : List Mi) (i : Nat) (x : Mi) (hx : (mints l)[i]? = some [u (Mi.g x), u (Mi.p x), ii (Mi.n x)]) (k : Nat) (h0 : (decide ((↑i : Int) < (↑(List.length (mints l)) : Int))) = true) (h1 : (Mi.g x == 0) = true) : OutIs (EE (k + 1)) (HH 8) NN (LB PP 8 2) (S8 l (↑i : Int)) (Ext.ret) (b8m_s0 l i x) :=
  out_of (gs := [G.b true, G.idx i [u (Mi.g x), u (Mi.p x), ii (Mi.n x)], G.b true]) (ps := [decide ((↑i : Int) < (↑(List.length (mints l)) : Int)) = true, (↑i : Int) = (↑i : Int), (mints l)[i]? = some [u (Mi.g x), u (Mi.p x), ii (Mi.n x)], (Mi.g x == (0 : Int)) = true]) (by kernel_rfl) ⟨h0, rfl, hx, h1, trivial⟩
theorem b8m_1 (l : List Mi) (hl : List.length l < BIG) (i : Nat) (x : Mi) (hx : (mints l)[i]? = some [u (Mi.g x), u (Mi.p x), ii (Mi.n x)]) (hi : i < List.length l) (hb : (List.any (List.take i l) fun x_1 => Mi.g x_1 == Mi.g x) = false) (k : Nat) (h0 : (decide ((↑i : Int) < (↑(List.length (mints l)) : Int))) = true) (h1 : (Mi.g x == 0) = false) : NextIs (EE (k + 1)) (HH 8) NN (LB PP 8 2) 0 0 (S8 l (↑i : Int)) (S8 l (IntKind.wrap IntKind.i64 ((↑i : Int) + 1))) :=
  next_of (gs := [G.b true, G.idx i [u (Mi.g x), u (Mi.p x), ii (Mi.n x)], G.b false, G.loop (Ext.exit 2) (St.mk [tc (C.slice 3 (mints l)), T.hole, T.hole, tc (ii (↑i : Int)), tc (ii (↑i : Int)), T.hole, T.hole, T.hole, T.hole, T.hole, T.hole, T.hole, T.hole, T.hole, T.hole, T.hole, T.hole, tc (ii (↑i : Int)), tc (ii (↑i : Int)), tc (bo (decide ((↑i : Int) < (↑i : Int)))), T.hole, T.hole, T.hole, T.hole, T.hole, T.hole, T.hole, T.hole, T.hole, T.hole, T.hole, T.hole, T.hole] [] [])]) (ps := [decide ((↑i : Int) < (↑(List.length (mints l)) : Int)) = true, (↑i : Int) = (↑i : Int), (mints l)[i]? = some [u (Mi.g x), u (Mi.p x), ii (Mi.n x)], (Mi.g x == (0 : Int)) = false, LoopIs (Env.mk PP (orac PP GL XX HH NN (k + (1 : Nat))) GL) (HH (8 : Nat)) NN (LB PP (8 : Nat) (7 : Nat)) (St.mk [tc (C.slice (3 : Nat) (mints l)), T.hole, T.hole, tc (ii (↑i : Int)), tc (ii (0 : Int)), tc (ii (↑i : Int)), tc (C.slice (3 : Nat) (mints l)), tc (ii (↑(List.length (mints l)) : Int)), tc (bo (decide ((↑i : Int) < (↑(List.length (mints l)) : Int)))), T.hole, T.hole, tc (C.slice (3 : Nat) (mints l)), tc (ii (↑i : Int)), tc (C.rptr [u (Mi.g x), u (Mi.p x), ii (Mi.n x)]), tc (C.rptr [u (Mi.g x), u (Mi.p x), ii (Mi.n x)]), tc (u (Mi.g x)), tc (bo (Mi.g x == (0 : Int))), T.hole, T.hole, T.hole, T.hole, T.hole, T.hole, T.hole, T.hole, T.hole, T.hole, T.hole, T.hole, T.hole, T.hole, T.hole, T.hole] [] []) (Ext.exit (2 : Nat)) (St.mk [tc (C.slice (3 : Nat) (mints l)), T.hole, T.hole, tc (ii (↑i : Int)), tc (ii (↑i : Int)), T.hole, T.hole, T.hole, T.hole, T.hole, T.hole, T.hole, T.hole, T.hole, T.hole, T.hole, T.hole, tc (ii (↑i : Int)), tc (ii (↑i : Int)), tc (bo (decide ((↑i : Int) < (↑i : Int)))), T.hole, T.hole, T.hole, T.hole, T.hole, T.hole, T.hole, T.hole, T.hole, T.hole, T.hole, T.hole, T.hole] [] [])]) (by kernel_rfl) ⟨h0, rfl, hx, h1, (L8i_miss l hl i x hx hi hb _ (by kernel_rfl) _), trivial⟩
def b8m_s2 (l : List Mi) (i : Nat) : St := St.mk [tc (C.slice 3 (mints l)), T.hole, T.hole, tc (ii (↑i : Int)), T.hole, tc (ii (↑i : Int)), tc (C.slice 3 (mints l)), tc (ii (↑(List.length (mints l)) : Int)), tc (bo (decide ((↑i : Int) < (↑(List.length (mints l)) : Int)))), T.hole, T.hole, T.hole, T.hole, T.hole, T.hole, T.hole, T.hole, T.hole, T.hole, T.hole, T.hole, T.hole, T.hole, T.hole, T.hole, T.hole, T.hole, T.hole, T.hole, T.hole, T.hole, T.hole, T.hole] [] []
theorem b8m_2 (l : List Mi) (i : Nat) (k : Nat) (h0 : (decide ((↑i : Int) < (↑(List.length (mints l)) : Int))) = false) : OutIs (EE (k + 1)) (HH 8) NN (LB PP 8 2) (S8 l (↑i : Int)) (Ext.exit 0) (b8m_s2 l i) :=
  out_of (gs := [G.b false]) (ps := [decide ((↑i : Int) < (↑(List.length (mints l)) : Int)) = false]) (by kernel_rfl) ⟨h0, trivial⟩
def bad (l : List Mi) (i : Nat) : Bool := match l[i]? with | some x => x.g == 0 || (l.take i).any (·.g == x.g) | none => false
theorem bad_eq {l : List Mi} {i : Nat} {x : Mi} (hx : l[i]? = some x) : bad l i = (x.g == 0 || (l.take i).any (·.g == x.g)) := by
  unfold bad; rw [hx]
theorem range_get {n i y : Nat} (h : (List.range n)[i]? = some y) : y = i ∧ i < n := by
  obtain ⟨hi, rfl⟩ := List.getElem?_eq_some_iff.1 h
  simp at hi
  simp [hi]
theorem step8 (l : List Mi) (hl : l.length < BIG) (k i y : Nat) (hy : (List.range l.length)[i]? = some y) (hp : bad l y = false) : NextIs (EE (k + 1)) (HH 8) NN (LB PP 8 2) 0 0 (S8 l (i : Nat)) (S8 l ((i + 1 : Nat) : Int)) := by
  obtain ⟨rfl, hi⟩ := range_get hy
  have hx := List.getElem?_eq_getElem hi
  unfold bad at hp
  rw [hx] at hp
  simp only [Bool.or_eq_false_iff] at hp
  have := b8m_1 l hl y _ (mints_get hx) hi hp.2 k (mlt hi) hp.1
  rwa [w64 hi hl] at this
theorem L8_hitz (l : List Mi) (hl : l.length < BIG) (hb : (List.range l.length).any (bad l) = true) (x : Mi) (hx : l[(List.range l.length).findIdx (bad l)]? = some x) (hz : (x.g == 0) = true) (s : St) (hs : s.head (HH 8 2) = S8 l 0) (k : Nat) : LoopIs (EE (k + 1)) (HH 8) NN (LB PP 8 2) s .ret (b8h_s0 l ((List.range l.length).findIdx (bad l)) x) := by
  refine find_hit (E := EE (k + 1)) (n := NN) (b := LB PP 8 2) 2 (by kernel_rfl) (fun i => S8 l (i : Nat)) (List.range l.length) (bad l) (nv := 0) (nt := 0) hs (by kernel_rfl) (by kernel_rfl)
    (fun i y hy hp => step8 l hl k i y hy hp) (fun y hy hp => ?_) (findIdx_lt_of_any hb) (by rw [List.length_range]; unfold NN; unfold BIG at hl; omega)
  exact b8h_0 l _ x (mints_get hx) k (mlt (lt_of_get hx)) hz
theorem L8_hitd (l : List Mi) (hl : l.length < BIG) (hb : (List.range l.length).any (bad l) = true) (x : Mi) (hx : l[(List.range l.length).findIdx (bad l)]? = some x) (hz : (x.g == 0) = false) (j : Nat) (hj : (l.take ((List.range l.length).findIdx (bad l))).findIdx (·.g == x.g) = j) (y : Mi) (hy : (l.take ((List.range l.length).findIdx (bad l)))[j]? = some y) (hyx : (y.g == x.g) = true)
    (s : St) (hs : s.head (HH 8 2) = S8 l 0) (k : Nat) : LoopIs (EE (k + 1)) (HH 8) NN (LB PP 8 2) s .ret (b8h_s1 l ((List.range l.length).findIdx (bad l)) x j y) := by
  refine find_hit (E := EE (k + 1)) (n := NN) (b := LB PP 8 2) 2 (by kernel_rfl) (fun i => S8 l (i : Nat)) (List.range l.length) (bad l) (nv := 0) (nt := 0) hs (by kernel_rfl) (by kernel_rfl)
    (fun i y hy hp => step8 l hl k i y hy hp) (fun z hz' hp => ?_) (findIdx_lt_of_any hb) (by rw [List.length_range]; unfold NN; unfold BIG at hl; omega)
  exact b8h_1 l hl _ x (mints_get hx) (lt_of_get hx) j hj y hy hyx k (mlt (lt_of_get hx)) hz
theorem L8_miss (l : List Mi) (hl : l.length < BIG) (hb : (List.range l.length).any (bad l) = false) (s : St) (hs : s.head (HH 8 2) = S8 l 0) (k : Nat) : LoopIs (EE (k + 1)) (HH 8) NN (LB PP 8 2) s (.exit 0) (b8m_s2 l l.length) := by
  refine find_miss (E := EE (k + 1)) (n := NN) (b := LB PP 8 2) 2 (by kernel_rfl) (fun i => S8 l (i : Nat)) (List.range l.length) (bad l) (nv := 0) (nt := 0) hs (by kernel_rfl) (by kernel_rfl)
    (fun i y hy hp => step8 l hl k i y hy hp) ?_ (all_of_any hb) (by rw [List.length_range]; unfold NN; unfold BIG at hl; omega)
  rw [List.length_range]
  exact b8m_2 l l.length k (mge (Nat.le_refl _))
theorem r12z (l : List Mi) (hl : List.length l < BIG) (hb : List.any (List.range (List.length l)) (bad l) = true) (x : Mi) (hx : l[List.findIdx (bad l) (List.range (List.length l))]? = some x) (hz : (Mi.g x == (0 : Int)) = true) (k : Nat) : orac PP GL XX HH NN (k + 2) 8 [A.c (C.slice 3 (mints l))] [] = some ([Res.c (bo false)], []) := by
  exact (orac_fn (show PP.funcs[8]? = some _ from rfl) (show XX 8 = none from rfl) (rs := [Res.c (bo false)]) (ims' := []) (gs := [G.loop Ext.ret (St.mk [tc (C.slice 3 (mints l)), T.hole, tc (bo false), tc (ii (↑(List.findIdx (bad l) (List.range (List.length l))) : Int)), T.hole, tc (ii (↑(List.findIdx (bad l) (List.range (List.length l))) : Int)), tc (C.slice 3 (mints l)), tc (ii (↑(List.length (mints l)) : Int)), tc (bo (decide ((↑(List.findIdx (bad l) (List.range (List.length l))) : Int) < (↑(List.length (mints l)) : Int)))), T.hole, T.hole, tc (C.slice 3 (mints l)), tc (ii (↑(List.findIdx (bad l) (List.range (List.length l))) : Int)), tc (C.rptr [u (Mi.g x), u (Mi.p x), ii (Mi.n x)]), tc (C.rptr [u (Mi.g x), u (Mi.p x), ii (Mi.n x)]), tc (u (Mi.g x)), tc (bo (Mi.g x == 0)), T.hole, T.hole, T.hole, T.hole, T.hole, T.hole, T.hole, T.hole, T.hole, T.hole, T.hole, T.hole, T.hole, T.hole, T.hole, T.hole] [] [])]) (ps := [LoopIs (Env.mk PP (orac PP GL XX HH NN (k + (1 : Nat))) GL) (HH (8 : Nat)) NN (LB PP (8 : Nat) (2 : Nat)) (St.mk [tc (C.slice (3 : Nat) (mints l)), T.skip, tc (bo false), tc (ii (0 : Int)), T.skip, T.skip, T.skip, T.skip, T.skip, T.skip, T.skip, T.skip, T.skip, T.skip, T.skip, T.skip, T.skip, T.skip, T.skip, T.skip, T.skip, T.skip, T.skip, T.skip, T.skip, T.skip, T.skip, T.skip, T.skip, T.skip, T.skip, T.skip, T.skip] [] []) Ext.ret (St.mk [tc (C.slice (3 : Nat) (mints l)), T.hole, tc (bo false), tc (ii (↑(List.findIdx (bad l) (List.range (List.length l))) : Int)), T.hole, tc (ii (↑(List.findIdx (bad l) (List.range (List.length l))) : Int)), tc (C.slice (3 : Nat) (mints l)), tc (ii (↑(List.length (mints l)) : Int)), tc (bo (decide ((↑(List.findIdx (bad l) (List.range (List.length l))) : Int) < (↑(List.length (mints l)) : Int)))), T.hole, T.hole, tc (C.slice (3 : Nat) (mints l)), tc (ii (↑(List.findIdx (bad l) (List.range (List.length l))) : Int)), tc (C.rptr [u (Mi.g x), u (Mi.p x), ii (Mi.n x)]), tc (C.rptr [u (Mi.g x), u (Mi.p x), ii (Mi.n x)]), tc (u (Mi.g x)), tc (bo (Mi.g x == (0 : Int))), T.hole, T.hole, T.hole, T.hole, T.hole, T.hole, T.hole, T.hole, T.hole, T.hole, T.hole, T.hole, T.hole, T.hole, T.hole, T.hole] [] [])]) (by kernel_rfl) ⟨(L8_hitz l hl hb x hx hz _ (by kernel_rfl) _), trivial⟩)
theorem r12d (l : List Mi) (hl : List.length l < BIG) (hb : List.any (List.range (List.length l)) (bad l) = true) (x : Mi) (hx : l[List.findIdx (bad l) (List.range (List.length l))]? = some x) (hz : (Mi.g x == (0 : Int)) = false) (j : Nat) (hj : List.findIdx (fun x_1 => Mi.g x_1 == Mi.g x) (List.take (List.findIdx (bad l) (List.range (List.length l))) l) = j) (y : Mi) (hy : (List.take (List.findIdx (bad l) (List.range (List.length l))) l)[j]? = some y) (hyx : (Mi.g y == Mi.g x) = true) (k : Nat) : orac PP GL XX HH NN (k + 2) 8 [A.c (C.slice 3 (mints l))] [] = some ([Res.c (bo false)], []) := by
  exact (orac_fn (show PP.funcs[8]? = some _ from rfl) (show XX 8 = none from rfl) (rs := [Res.c (bo false)]) (ims' := []) (gs := [G.loop Ext.ret (St.mk [tc (C.slice 3 (mints l)), T.hole, tc (bo false), tc (ii (↑(List.findIdx (bad l) (List.range (List.length l))) : Int)), tc (ii (↑j : Int)), T.hole, T.hole, T.hole, T.hole, T.hole, T.hole, T.hole, T.hole, T.hole, T.hole, T.hole, T.hole, tc (ii (↑j : Int)), tc (ii (↑(List.findIdx (bad l) (List.range (List.length l))) : Int)), tc (bo (decide ((↑j : Int) < (↑(List.findIdx (bad l) (List.range (List.length l))) : Int)))), T.hole, T.hole, tc (C.slice 3 (mints l)), tc (ii (↑j : Int)), tc (C.rptr [u (Mi.g y), u (Mi.p y), ii (Mi.n y)]), tc (C.rptr [u (Mi.g y), u (Mi.p y), ii (Mi.n y)]), tc (u (Mi.g y)), tc (C.slice 3 (mints l)), tc (ii (↑(List.findIdx (bad l) (List.range (List.length l))) : Int)), tc (C.rptr [u (Mi.g x), u (Mi.p x), ii (Mi.n x)]), tc (C.rptr [u (Mi.g x), u (Mi.p x), ii (Mi.n x)]), tc (u (Mi.g x)), tc (bo (Mi.g y == Mi.g x))] [] [])]) (ps := [LoopIs (Env.mk PP (orac PP GL XX HH NN (k + (1 : Nat))) GL) (HH (8 : Nat)) NN (LB PP (8 : Nat) (2 : Nat)) (St.mk [tc (C.slice (3 : Nat) (mints l)), T.skip, tc (bo false), tc (ii (0 : Int)), T.skip, T.skip, T.skip, T.skip, T.skip, T.skip, T.skip, T.skip, T.skip, T.skip, T.skip, T.skip, T.skip, T.skip, T.skip, T.skip, T.skip, T.skip, T.skip, T.skip, T.skip, T.skip, T.skip, T.skip, T.skip, T.skip, T.skip, T.skip, T.skip] [] []) Ext.ret (St.mk [tc (C.slice (3 : Nat) (mints l)), T.hole, tc (bo false), tc (ii (↑(List.findIdx (bad l) (List.range (List.length l))) : Int)), tc (ii (↑j : Int)), T.hole, T.hole, T.hole, T.hole, T.hole, T.hole, T.hole, T.hole, T.hole, T.hole, T.hole, T.hole, tc (ii (↑j : Int)), tc (ii (↑(List.findIdx (bad l) (List.range (List.length l))) : Int)), tc (bo (decide ((↑j : Int) < (↑(List.findIdx (bad l) (List.range (List.length l))) : Int)))), T.hole, T.hole, tc (C.slice (3 : Nat) (mints l)), tc (ii (↑j : Int)), tc (C.rptr [u (Mi.g y), u (Mi.p y), ii (Mi.n y)]), tc (C.rptr [u (Mi.g y), u (Mi.p y), ii (Mi.n y)]), tc (u (Mi.g y)), tc (C.slice (3 : Nat) (mints l)), tc (ii (↑(List.findIdx (bad l) (List.range (List.length l))) : Int)), tc (C.rptr [u (Mi.g x), u (Mi.p x), ii (Mi.n x)]), tc (C.rptr [u (Mi.g x), u (Mi.p x), ii (Mi.n x)]), tc (u (Mi.g x)), tc (bo (Mi.g y == Mi.g x))] [] [])]) (by kernel_rfl) ⟨(L8_hitd l hl hb x hx hz j hj y hy hyx _ (by kernel_rfl) _), trivial⟩)
theorem r12m (l : List Mi) (hl : List.length l < BIG) (hb : List.any (List.range (List.length l)) (bad l) = false) (k : Nat) : orac PP GL XX HH NN (k + 2) 8 [A.c (C.slice 3 (mints l))] [] = some ([Res.c (bo true)], []) := by
  exact (orac_fn (show PP.funcs[8]? = some _ from rfl) (show XX 8 = none from rfl) (rs := [Res.c (bo true)]) (ims' := []) (gs := [G.loop (Ext.exit 0) (St.mk [tc (C.slice 3 (mints l)), T.hole, T.hole, tc (ii (↑(List.length l) : Int)), T.hole, tc (ii (↑(List.length l) : Int)), tc (C.slice 3 (mints l)), tc (ii (↑(List.length (mints l)) : Int)), tc (bo (decide ((↑(List.length l) : Int) < (↑(List.length (mints l)) : Int)))), T.hole, T.hole, T.hole, T.hole, T.hole, T.hole, T.hole, T.hole, T.hole, T.hole, T.hole, T.hole, T.hole, T.hole, T.hole, T.hole, T.hole, T.hole, T.hole, T.hole, T.hole, T.hole, T.hole, T.hole] [] [])]) (ps := [LoopIs (Env.mk PP (orac PP GL XX HH NN (k + (1 : Nat))) GL) (HH (8 : Nat)) NN (LB PP (8 : Nat) (2 : Nat)) (St.mk [tc (C.slice (3 : Nat) (mints l)), T.skip, tc (bo false), tc (ii (0 : Int)), T.skip, T.skip, T.skip, T.skip, T.skip, T.skip, T.skip, T.skip, T.skip, T.skip, T.skip, T.skip, T.skip, T.skip, T.skip, T.skip, T.skip, T.skip, T.skip, T.skip, T.skip, T.skip, T.skip, T.skip, T.skip, T.skip, T.skip, T.skip, T.skip] [] []) (Ext.exit (0 : Nat)) (St.mk [tc (C.slice (3 : Nat) (mints l)), T.hole, T.hole, tc (ii (↑(List.length l) : Int)), T.hole, tc (ii (↑(List.length l) : Int)), tc (C.slice (3 : Nat) (mints l)), tc (ii (↑(List.length (mints l)) : Int)), tc (bo (decide ((↑(List.length l) : Int) < (↑(List.length (mints l)) : Int)))), T.hole, T.hole, T.hole, T.hole, T.hole, T.hole, T.hole, T.hole, T.hole, T.hole, T.hole, T.hole, T.hole, T.hole, T.hole, T.hole, T.hole, T.hole, T.hole, T.hole, T.hole, T.hole, T.hole, T.hole] [] [])]) (by kernel_rfl) ⟨(L8_miss l hl hb _ (by kernel_rfl) _), trivial⟩)
/-- may they be? -/
def rightL (l : List Mi) : Bool := !(List.range l.length).any (bad l)
theorem right12 (l : List Mi) (hl : l.length < BIG) (k : Nat) : orac PP GL XX HH NN (k + 2) 8 [.c (.slice 3 (mints l))] [] = some ([.c (bo (rightL l))], []) := by
  unfold rightL
  cases hb : (List.range l.length).any (bad l) with
  | false => exact r12m l hl hb k
  | true =>
    have hj := findIdx_lt_of_any hb
    have hlt : (List.range l.length).findIdx (bad l) < l.length := by simpa using hj
    have hx := List.getElem?_eq_getElem hlt
    have hp : bad l ((List.range l.length).findIdx (bad l)) = true := by
      have := List.findIdx_getElem (w := hj)
      simpa using this
    cases hz : l[(List.range l.length).findIdx (bad l)].g == 0 with
    | true => exact r12z l hl hb _ hx hz k
    | false =>
      rw [bad_eq hx, hz, Bool.false_or] at hp
      have hj2 := findIdx_lt_of_any hp
      exact r12d l hl hb _ hx hz _ rfl _ (List.getElem?_eq_getElem hj2) (List.findIdx_getElem (w := hj2)) k
theorem upd_len (a b : Int) : ∀ m : List (Int × Int), (upd a b m).length = if m.any (fun x => a == x.1) then m.length else m.length + 1
  | [] => rfl
  | (c, d) :: r => by
    unfold upd
    rw [List.any_cons]
    cases hac : a == c with
    | true => simp
    | false =>
      simp only [Bool.false_eq_true, if_false, Bool.false_or, List.length_cons, upd_len a b r]
      split <;> rfl
theorem luk_any : ∀ (m : List (Int × Int)) (g : Int), (luk m g).2 = m.any (fun x => g == x.1)
  | [], _ => rfl
  | (c, d) :: r, g => by
    unfold luk
    rw [List.any_cons]
    cases hgc : g == c with
    | true => rfl
    | false => simpa using luk_any r g
theorem par_len (l : List Mi) : (par l).length ≤ l.length ∧ ((par l).length = l.length ↔ (l.map (·.g)).Nodup) := by
  induction l with
  | nil => exact ⟨Nat.le_refl _, by simp [par]⟩
  | cons x l ih =>
    have e : (par (x :: l)).length = if l.any (·.g == x.g) then (par l).length else (par l).length + 1 := by
      show (upd x.g x.p (par l)).length = _
      rw [upd_len, ← luk_any, luk_par]
    rw [e]
    cases ha : l.any (·.g == x.g) with
    | true =>
      refine ⟨by simp; omega, ?_⟩
      simp only [if_true, List.length_cons, List.map_cons, List.nodup_cons]
      constructor
      · intro h; omega
      · rintro ⟨h, _⟩
        exfalso; apply h
        rw [List.any_eq_true] at ha
        obtain ⟨y, hy, he⟩ := ha
        rw [List.mem_map]
        exact ⟨y, hy, by simpa using he⟩
    | false =>
      refine ⟨by simp; omega, ?_⟩
      simp only [Bool.false_eq_true, if_false, List.length_cons, List.map_cons, List.nodup_cons]
      constructor
      · intro h
        refine ⟨?_, ih.2.1 (by omega)⟩
        intro hm
        rw [List.mem_map] at hm
        obtain ⟨y, hy, he⟩ := hm
        rw [List.any_eq_false] at ha
        exact ha y hy (by simpa using he)
      · rintro ⟨_, h⟩
        have := ih.2.2 h
        omega
theorem rightP_eq (l : List Mi) : rightP_0 l = rightL l := by
  unfold rightP_0 rightL
  rw [luk_par, mints_len, List.length_map]
  have h := par_len l
  have key : ((List.range l.length).any (bad l) = false) ↔ (l.any (·.g == 0) = false ∧ (l.map (·.g)).Nodup) := by
    rw [List.any_eq_false]
    constructor
    · intro hb
      have hall : ∀ i (hi : i < l.length), (l[i].g == 0) = false ∧ (l.take i).any (·.g == l[i].g) = false := fun i hi => by
        have := hb i (by simpa using hi)
        unfold bad at this
        rw [List.getElem?_eq_getElem hi] at this
        simpa using this
      refine ⟨?_, ?_⟩
      · rw [List.any_eq_false]
        intro x hx
        obtain ⟨i, hi, rfl⟩ := List.getElem_of_mem hx
        rw [(hall i hi).1]; simp
      · rw [List.Nodup, List.pairwise_iff_getElem]
        intro i j hi hj hij he
        simp only [List.length_map] at hi hj
        simp only [List.getElem_map] at he
        have := (hall j hj).2
        rw [List.any_eq_false] at this
        apply this l[i]
        · rw [List.mem_take_iff_getElem]
          exact ⟨i, by omega, rfl⟩
        · simpa using he
    · rintro ⟨h0, hn⟩ i hi
      simp only [List.mem_range] at hi
      unfold bad
      rw [List.getElem?_eq_getElem hi]
      simp only [Bool.or_eq_true, not_or]
      refine ⟨?_, ?_⟩
      · rw [List.any_eq_false] at h0
        exact h0 _ (List.getElem_mem hi)
      · rw [List.any_eq_true]
        rintro ⟨y, hy, he⟩
        rw [List.mem_take_iff_getElem] at hy
        obtain ⟨j, hj, rfl⟩ := hy
        rw [List.Nodup, List.pairwise_iff_getElem] at hn
        have := hn j i (by simp; omega) (by simpa using hi) (by omega)
        apply this
        simpa using he
  rw [Bool.eq_iff_iff]
  cases hz : l.any (·.g == 0) with
  | true =>
    simp only [cond_true, Bool.false_eq_true, false_iff]
    cases hb : (List.range l.length).any (bad l) with
    | true => simp
    | false => exact absurd (key.1 hb).1 (by rw [hz]; simp)
  | false =>
    simp only [cond_false, beq_iff_eq, Bool.not_eq_true']
    rw [key, hz]
    simp only [true_and]
    constructor
    · intro he; exact h.2.1 (by omega)
    · intro hn; have := h.2.2 hn; omega
end Go.Dm
