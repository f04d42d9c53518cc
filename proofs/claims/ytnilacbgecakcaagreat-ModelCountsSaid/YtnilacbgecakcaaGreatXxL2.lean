/-
  A part of the proofs over this seat: its functions, one by one (the file in which the theorems stand says what is proved).
-/
import Derived.KernelRfl
import Derived.Lib.AppendZeros
import Derived.Lib.SliceRun
import Derived.Lib.Walk
import Derived.LoopIn
import Derived.LoopNIn
import Derived.MapKept
import Derived.Maps.OwnIn
import Derived.OwnWalkIn
import Derived.RangeFuncBox
import Derived.RangeFuncLeaves
import Derived.RangeFuncNested
import Derived.RangeFuncWrites
import Derived.Shelf.Abstract
import Derived.Shelf.RegionOpenPlain
import Derived.TacticsInMore
import Derived.Test.YtnilacbgecakcaaGreatProg
import Derived.WalkKit
import Derived.Test.YtnilacbgecakcaaGreatXxL1
set_option linter.unusedSimpArgs false
set_option linter.unusedVariables false
set_option maxRecDepth 100000
set_option maxHeartbeats 4000000
namespace Go.Dm
open Go
set_option maxHeartbeats 1000000
theorem lj (v : Vl) (b : Int) (k : Nat) : ag PP GL XX HH NN (k + 1) 50 [A.agg (Vl.cs v), A.c (ii b)] [] = some ([Res.c (bo (ge v b))], []) := by
  rcases bft (decide (b ≥ 0)) with z0 | z0
  · exact rt (eb4 z0 <| ep (af (eS) v.acked) <| eg (G.len (v.acked.length)) <| eb2 z0 <| e0) (rs := [Res.c (bo (decide (b < (↑(v.acked.length) : Int))))]) (by first | (simp only [ge, z0, vq] <;> rfl) | (simp_all only [ge, vq] <;> rfl))
  · exact rt (eb6 z0 <| e0) (rs := [Res.c (bo false)]) (by first | (simp only [ge, z0, vq] <;> rfl) | (simp_all only [ge, vq] <;> rfl))
theorem zP (l : List ByteArray) (hl : l.length ≤ 1000000) (k : Nat) : ag PP GL XX HH NN (k + 1) 88 [.c (.slice 1 (l.map eS))] [] = some ([.top 1 (l.map eS)], []) := by
  rw [r9 (h := kT 1) rfl]
  unfold kT
  have : (l.map eS).length ≤ 1000000 := by rw [List.length_map]; exact hl
  simp only [true_or, true_and, this, if_true]
def Six (l : List ByteArray) (x : ByteArray) (c0 : Int) : St := St.mk (tc (C.slice 1 (List.map eS l)) :: tc (st x) :: hs 5 (tc (ii (↑(l.length) : Int)) :: tc (ii c0) :: hs 10 [])) [] []
def rW (l : List ByteArray) (x : ByteArray) (i : Nat) (y : ByteArray) : St := St.mk [tc (C.slice 1 (List.map eS l)), tc (st x), T.hole, T.hole, tc (ii (↑i : Int)), tc (ii (↑i : Int)), T.hole, tc (ii (↑(l.length) : Int)), tc (ii (↑i : Int)), tc (bo (decide ((↑i : Int) < (↑(l.length) : Int)))), tc (ii (↑i : Int)), tc (st x), tc (C.slice 1 (List.map eS l)), tc (ii (↑i : Int)), tc (C.rptr [st y]), tc (st y), tc (bo (x == y)), tc (ii (↑i : Int)), T.hole] [] []
theorem F8 (l : List ByteArray) (x : ByteArray) (i : Nat) (y : ByteArray) (hy : l[i]? = some y) (k : Nat) (z0 : (decide ((↑i : Int) < (↑(l.length) : Int))) = true) (z1 : (x == y) = true) : bj (EE (k + 1)) (HH 89) NN (LB PP 89 2) (Six l x (↑i : Int)) (Ext.ret) (rW l x i y) :=
  ou (eb z0 <| ep (rz i) <| ep (ao (f := eS) hy) <| eg (G.idx i [st y]) <| eb z1 <| e0)
theorem FC (l : List ByteArray) (x : ByteArray) (i : Nat) (y : ByteArray) (hy : l[i]? = some y) (k : Nat) (z0 : (decide ((↑i : Int) < (↑(l.length) : Int))) = true) (z1 : (x == y) = false) : ax (EE (k + 1)) (HH 89) NN (LB PP 89 2) 0 0 (Six l x (↑i : Int)) (Six l x (IntKind.wrap .i64 ((↑i : Int) + 1))) :=
  nx (eb z0 <| ep (rz i) <| ep (ao (f := eS) hy) <| eg (G.idx i [st y]) <| eb z1 <| e0)
def rE (l : List ByteArray) (x : ByteArray) (i : Nat) : St := St.mk (tc (C.slice 1 (List.map eS l)) :: tc (st x) :: hs 5 (tc (ii (↑(l.length) : Int)) :: tc (ii (↑i : Int)) :: tc (bo (decide ((↑i : Int) < (↑(l.length) : Int)))) :: hs 9 [])) [] []
theorem FR (l : List ByteArray) (x : ByteArray) (i : Nat) (k : Nat) (z0 : (decide ((↑i : Int) < (↑(l.length) : Int))) = false) : bj (EE (k + 1)) (HH 89) NN (LB PP 89 2) (Six l x (↑i : Int)) (Ext.exit 0) (rE l x i) :=
  ou (eb z0 <| e0)
theorem ixA (l : List ByteArray) (x : ByteArray) (i : Nat) (y : ByteArray) (hL : ∀ k, aA (EE (k + 1)) (HH 89) NN (LB PP 89 2) (Six l x 0) Ext.ret (rW l x i y)) (k : Nat) : ag PP GL XX HH NN (k + 2) 89 [A.c (C.slice 1 (List.map eS l)), A.c (st x)] [] = some ([Res.c (ii (↑i : Int))], []) := by
  exact rt (ep (af (eS) (l)) <| eg (G.len (l.length)) <| eg (G.loop Ext.ret (rW l x i y)) <| ep (hL k) <| e0) (rs := [Res.c (ii (↑i : Int))]) rfl
theorem ixB (l : List ByteArray) (x : ByteArray) (i : Nat) (hL : ∀ k, aA (EE (k + 1)) (HH 89) NN (LB PP 89 2) (Six l x 0) (Ext.exit 0) (rE l x i)) (k : Nat) : ag PP GL XX HH NN (k + 2) 89 [A.c (C.slice 1 (List.map eS l)), A.c (st x)] [] = some ([Res.c (ii (-1 : Int))], []) := by
  exact rt (ep (af (eS) (l)) <| eg (G.len (l.length)) <| eg (G.loop (Ext.exit 0) (rE l x i)) <| ep (hL k) <| e0) (rs := [Res.c (ii (-1 : Int))]) rfl
theorem ctN (l : List ByteArray) (x : ByteArray) (j : Int) (hI : ∀ k, ag PP GL XX HH NN (k + 2) 89 [A.c (C.slice 1 (List.map eS l)), A.c (st x)] [] = some ([Res.c (ii j)], [])) (k : Nat) : ag PP GL XX HH NN (k + 3) 51 [A.c (C.slice 1 (List.map eS l)), A.c (st x)] [] = some ([Res.c (bo (decide (j ≥ 0)))], []) := by
  exact rt (ec (hI k) <| e0) (rs := [Res.c (bo (decide (j ≥ 0)))]) rfl
theorem qe (l : List ByteArray) (x : ByteArray) : l.contains x = l.any (fun y => x == y) := by
  rw [Bool.eq_iff_iff]
  simp only [List.contains_iff_mem, List.any_eq_true, beq_iff_eq]
  exact ⟨fun h => ⟨x, h, rfl⟩, fun ⟨y, h, e⟩ => by rw [e]; exact h⟩
theorem m4 (l : List ByteArray) (x : ByteArray) (hl : l.length ≤ 1000000) (k : Nat) : ag PP GL XX HH NN (k + 3) 51 [.c (.slice 1 (l.map eS)), .c (st x)] [] = some ([.c (bo (l.contains x))], []) := by
  rw [qe]
  rcases gA (E := fun k => EE (k + 1)) (H := HH 89) (n := NN) (b := LB PP 89 2) (fun i => Six l x (i : Nat)) l (fun y => x == y) (fun i y => rW l x i y) (rE l x l.length) (nv := 0) (nt := 0) (e := .ret) (e' := .exit 0) (by kernel_rfl) (by kernel_rfl)
    (fun k i y hy hp => by
      have := FC l x i y hy k (dlt hy) hp
      rwa [mq hy (by omega)] at this)
    (fun k i y hy hp => F8 l x i y hy k (dlt hy) hp)
    (fun k => FR l x _ k dge) (by unfold NN; omega) with ⟨h1, h2⟩ | ⟨h1, i, y, hy, hp, hf, _, h2⟩
  · rw [h1]
    exact ctN l x (-1) (fun k => ixB l x _ h2 k) k
  · rw [h1]
    have e : decide (((i : Nat) : Int) ≥ 0) = true := by simp
    have := ctN l x (i : Int) (fun k => ixA l x i y h2 k) k
    rwa [e] at this
theorem gH {α β : Type} {l : List α} {m : List β} {i : Nat} {z : α × β} (h : (l.zip m)[i]? = some z) : l[i]? = some z.1 ∧ m[i]? = some z.2 := by
  rw [List.getElem?_zip_eq_some] at h
  exact h
theorem iO {α : Type} [BEq α] [LawfulBEq α] : ∀ {l m : List α}, l.length = m.length → (l == m) = !((l.zip m).any fun z => !(z.1 == z.2))
  | [], [], _ => rfl
  | x :: l, y :: m, h => by
    have ih := iO (l := l) (m := m) (by simpa using h)
    show (x == y && l == m) = _
    rw [ih, List.zip_cons_cons, List.any_cons]
    cases x == y <;> simp
  | [], _ :: _, h => by simp at h
  | _ :: _, [], h => by simp at h
theorem lm {α : Type} [BEq α] [LawfulBEq α] {l m : List α} (h : ((l.length : Int) == (m.length : Int)) = false) : (l == m) = false := by
  cases e : l == m with
  | false => rfl
  | true =>
    have := eq_of_beq e
    subst this
    simp at h
theorem jH {l m : Nat} (h : ((l : Int) == (m : Int)) = true) : l = m := by
  have := eq_of_beq h
  omega
theorem HE (l : List ByteArray) (m : List ByteArray) (hh : ((↑(l.length) : Int) == (↑(m.length) : Int)) = false) (k : Nat) : ag PP GL XX HH NN (k + 2) 52 [A.c (C.slice 1 (List.map eS l)), A.c (C.slice 1 (List.map eS m))] [] = some ([Res.c (bo false)], []) := by
  exact rt (ep (af (eS) (l)) <| eg (G.len (l.length)) <| ep (af (eS) (m)) <| eg (G.len (m.length)) <| en hh <| e0) (rs := [Res.c (bo false)]) rfl
def Bj (l : List ByteArray) (m : List ByteArray) (c0 : Int) : St := St.mk (tc (C.slice 1 (List.map eS l)) :: tc (C.slice 1 (List.map eS m)) :: hs 10 (tc (ii (↑(l.length) : Int)) :: tc (ii c0) :: hs 12 [])) [] []
theorem C5 (l : List ByteArray) (m : List ByteArray) (i : Nat) (x : ByteArray) (y : ByteArray) (hx : l[i]? = some x) (hy : m[i]? = some y) (k : Nat) (z0 : (decide ((↑i : Int) < (↑(l.length) : Int))) = true) (z1 : (x == y) = true) : ax (EE (k + 1)) (HH 52) NN (LB PP 52 4) 0 0 (Bj l m (↑i : Int)) (Bj l m (IntKind.wrap .i64 ((↑i : Int) + 1))) :=
  nx (eb z0 <| ep (rz i) <| ep (ao (f := eS) hx) <| eg (G.idx i [st x]) <| ep (rz i) <| ep (ao (f := eS) hy) <| eg (G.idx i [st y]) <| en z1 <| e0)
def oR (l : List ByteArray) (m : List ByteArray) (i : Nat) (x : ByteArray) (y : ByteArray) : St := St.mk (tc (C.slice 1 (List.map eS l)) :: tc (C.slice 1 (List.map eS m)) :: T.hole :: T.hole :: tc (bo false) :: tc (ii (↑i : Int)) :: hs 6 [tc (ii (↑(l.length) : Int)), tc (ii (↑i : Int)), tc (bo (decide ((↑i : Int) < (↑(l.length) : Int)))), tc (ii (↑i : Int)), tc (C.slice 1 (List.map eS l)), tc (ii (↑i : Int)), tc (C.rptr [st x]), tc (st x), tc (C.slice 1 (List.map eS m)), tc (ii (↑i : Int)), tc (C.rptr [st y]), tc (st y), tc (bo !x == y), T.hole]) [] []
theorem EA (l : List ByteArray) (m : List ByteArray) (i : Nat) (x : ByteArray) (y : ByteArray) (hx : l[i]? = some x) (hy : m[i]? = some y) (k : Nat) (z0 : (decide ((↑i : Int) < (↑(l.length) : Int))) = true) (z1 : (x == y) = false) : bj (EE (k + 1)) (HH 52) NN (LB PP 52 4) (Bj l m (↑i : Int)) (Ext.ret) (oR l m i x y) :=
  ou (eb z0 <| ep (rz i) <| ep (ao (f := eS) hx) <| eg (G.idx i [st x]) <| ep (rz i) <| ep (ao (f := eS) hy) <| eg (G.idx i [st y]) <| en z1 <| e0)
def oC (l : List ByteArray) (m : List ByteArray) (i : Nat) : St := St.mk (tc (C.slice 1 (List.map eS l)) :: tc (C.slice 1 (List.map eS m)) :: hs 10 (tc (ii (↑(l.length) : Int)) :: tc (ii (↑i : Int)) :: tc (bo (decide ((↑i : Int) < (↑(l.length) : Int)))) :: hs 11 [])) [] []
theorem DM (l : List ByteArray) (m : List ByteArray) (i : Nat) (k : Nat) (z0 : (decide ((↑i : Int) < (↑(l.length) : Int))) = false) : bj (EE (k + 1)) (HH 52) NN (LB PP 52 4) (Bj l m (↑i : Int)) (Ext.exit 0) (oC l m i) :=
  ou (eb z0 <| e0)
theorem Hl (l : List ByteArray) (m : List ByteArray) (i : Nat) (x : ByteArray) (y : ByteArray) (hh : ((↑(l.length) : Int) == (↑(m.length) : Int)) = true) (hL : ∀ k, aA (EE (k + 1)) (HH 52) NN (LB PP 52 4) (Bj l m 0) Ext.ret (oR l m i x y)) (k : Nat) : ag PP GL XX HH NN (k + 2) 52 [A.c (C.slice 1 (List.map eS l)), A.c (C.slice 1 (List.map eS m))] [] = some ([Res.c (bo false)], []) := by
  exact rt (ep (af (eS) (l)) <| eg (G.len (l.length)) <| ep (af (eS) (m)) <| eg (G.len (m.length)) <| en hh <| ep (af (eS) (l)) <| eg (G.len (l.length)) <| eg (G.loop Ext.ret (oR l m i x y)) <| ep (hL k) <| e0) (rs := [Res.c (bo false)]) rfl
theorem HP (l : List ByteArray) (m : List ByteArray) (i : Nat) (hh : ((↑(l.length) : Int) == (↑(m.length) : Int)) = true) (hL : ∀ k, aA (EE (k + 1)) (HH 52) NN (LB PP 52 4) (Bj l m 0) (Ext.exit 0) (oC l m i)) (k : Nat) : ag PP GL XX HH NN (k + 2) 52 [A.c (C.slice 1 (List.map eS l)), A.c (C.slice 1 (List.map eS m))] [] = some ([Res.c (bo true)], []) := by
  exact rt (ep (af (eS) (l)) <| eg (G.len (l.length)) <| ep (af (eS) (m)) <| eg (G.len (m.length)) <| en hh <| ep (af (eS) (l)) <| eg (G.len (l.length)) <| eg (G.loop (Ext.exit 0) (oC l m i)) <| ep (hL k) <| e0) (rs := [Res.c (bo true)]) rfl
theorem pg (l m : List ByteArray) (hl : l.length ≤ 1000000) (k : Nat) : ag PP GL XX HH NN (k + 2) 52 [.c (.slice 1 (l.map eS)), .c (.slice 1 (m.map eS))] [] = some ([.c (bo (l == m))], []) := by
  cases hh : (l.length : Int) == (m.length : Int) with
  | false => rw [lm hh]; exact HE l m hh k
  | true =>
    have hlen := jH hh
    have hz : (l.zip m).length = l.length := by rw [List.length_zip]; omega
    rw [iO hlen]
    rcases gA (E := fun k => EE (k + 1)) (H := HH 52) (n := NN) (b := LB PP 52 4) (fun i => Bj l m (i : Nat)) (l.zip m) (fun z => !(z.1 == z.2)) (fun i z => oR l m i z.1 z.2) (oC l m l.length) (nv := 0) (nt := 0) (e := .ret) (e' := .exit 0) (by kernel_rfl) (by kernel_rfl)
      (fun k i z hz' hp => by
        obtain ⟨h1, h2⟩ := gH hz'
        have := C5 l m i z.1 z.2 h1 h2 k (dlt h1) (by simpa using hp)
        rwa [mq h1 (by omega)] at this)
      (fun k i z hz' hp => by
        obtain ⟨h1, h2⟩ := gH hz'
        exact EA l m i z.1 z.2 h1 h2 k (dlt h1) (by simpa using hp))
      (fun k => by rw [hz]; exact DM l m _ k dge) (by unfold NN; omega) with ⟨h1, h2⟩ | ⟨h1, i, z, hy, hp, hf, _, h2⟩
    · rw [h1]; exact HP l m _ hh h2 k
    · rw [h1]; exact Hl l m i z.1 z.2 hh h2 k
theorem HJ (l : List Int) (m : List Int) (hh : ((↑(l.length) : Int) == (↑(m.length) : Int)) = false) (k : Nat) : ag PP GL XX HH NN (k + 2) 53 [A.c (C.slice 1 (List.map eI l)), A.c (C.slice 1 (List.map eI m))] [] = some ([Res.c (bo false)], []) := by
  exact rt (ep (af (eI) (l)) <| eg (G.len (l.length)) <| ep (af (eI) (m)) <| eg (G.len (m.length)) <| en hh <| e0) (rs := [Res.c (bo false)]) rfl
def A0 (l : List Int) (m : List Int) (c0 : Int) : St := St.mk (tc (C.slice 1 (List.map eI l)) :: tc (C.slice 1 (List.map eI m)) :: hs 10 (tc (ii (↑(l.length) : Int)) :: tc (ii c0) :: hs 12 [])) [] []
theorem EG (l : List Int) (m : List Int) (i : Nat) (x : Int) (y : Int) (hx : l[i]? = some x) (hy : m[i]? = some y) (k : Nat) (z0 : (decide ((↑i : Int) < (↑(l.length) : Int))) = true) (z1 : (x == y) = true) : ax (EE (k + 1)) (HH 53) NN (LB PP 53 4) 0 0 (A0 l m (↑i : Int)) (A0 l m (IntKind.wrap .i64 ((↑i : Int) + 1))) :=
  nx (eb z0 <| ep (rz i) <| ep (ao (f := eI) hx) <| eg (G.idx i [ii x]) <| ep (rz i) <| ep (ao (f := eI) hy) <| eg (G.idx i [ii y]) <| en z1 <| e0)
def ol (l : List Int) (m : List Int) (i : Nat) (x : Int) (y : Int) : St := St.mk (tc (C.slice 1 (List.map eI l)) :: tc (C.slice 1 (List.map eI m)) :: T.hole :: T.hole :: tc (bo false) :: tc (ii (↑i : Int)) :: hs 6 [tc (ii (↑(l.length) : Int)), tc (ii (↑i : Int)), tc (bo (decide ((↑i : Int) < (↑(l.length) : Int)))), tc (ii (↑i : Int)), tc (C.slice 1 (List.map eI l)), tc (ii (↑i : Int)), tc (C.rptr [ii x]), tc (ii x), tc (C.slice 1 (List.map eI m)), tc (ii (↑i : Int)), tc (C.rptr [ii y]), tc (ii y), tc (bo (x != y)), T.hole]) [] []
theorem D6 (l : List Int) (m : List Int) (i : Nat) (x : Int) (y : Int) (hx : l[i]? = some x) (hy : m[i]? = some y) (k : Nat) (z0 : (decide ((↑i : Int) < (↑(l.length) : Int))) = true) (z1 : (x == y) = false) : bj (EE (k + 1)) (HH 53) NN (LB PP 53 4) (A0 l m (↑i : Int)) (Ext.ret) (ol l m i x y) :=
  ou (eb z0 <| ep (rz i) <| ep (ao (f := eI) hx) <| eg (G.idx i [ii x]) <| ep (rz i) <| ep (ao (f := eI) hy) <| eg (G.idx i [ii y]) <| en z1 <| e0)
def nz (l : List Int) (m : List Int) (i : Nat) : St := St.mk (tc (C.slice 1 (List.map eI l)) :: tc (C.slice 1 (List.map eI m)) :: hs 10 (tc (ii (↑(l.length) : Int)) :: tc (ii (↑i : Int)) :: tc (bo (decide ((↑i : Int) < (↑(l.length) : Int)))) :: hs 11 [])) [] []
theorem CY (l : List Int) (m : List Int) (i : Nat) (k : Nat) (z0 : (decide ((↑i : Int) < (↑(l.length) : Int))) = false) : bj (EE (k + 1)) (HH 53) NN (LB PP 53 4) (A0 l m (↑i : Int)) (Ext.exit 0) (nz l m i) :=
  ou (eb z0 <| e0)
theorem HX (l : List Int) (m : List Int) (i : Nat) (x : Int) (y : Int) (hh : ((↑(l.length) : Int) == (↑(m.length) : Int)) = true) (hL : ∀ k, aA (EE (k + 1)) (HH 53) NN (LB PP 53 4) (A0 l m 0) Ext.ret (ol l m i x y)) (k : Nat) : ag PP GL XX HH NN (k + 2) 53 [A.c (C.slice 1 (List.map eI l)), A.c (C.slice 1 (List.map eI m))] [] = some ([Res.c (bo false)], []) := by
  exact rt (ep (af (eI) (l)) <| eg (G.len (l.length)) <| ep (af (eI) (m)) <| eg (G.len (m.length)) <| en hh <| ep (af (eI) (l)) <| eg (G.len (l.length)) <| eg (G.loop Ext.ret (ol l m i x y)) <| ep (hL k) <| e0) (rs := [Res.c (bo false)]) rfl
theorem Hi (l : List Int) (m : List Int) (i : Nat) (hh : ((↑(l.length) : Int) == (↑(m.length) : Int)) = true) (hL : ∀ k, aA (EE (k + 1)) (HH 53) NN (LB PP 53 4) (A0 l m 0) (Ext.exit 0) (nz l m i)) (k : Nat) : ag PP GL XX HH NN (k + 2) 53 [A.c (C.slice 1 (List.map eI l)), A.c (C.slice 1 (List.map eI m))] [] = some ([Res.c (bo true)], []) := by
  exact rt (ep (af (eI) (l)) <| eg (G.len (l.length)) <| ep (af (eI) (m)) <| eg (G.len (m.length)) <| en hh <| ep (af (eI) (l)) <| eg (G.len (l.length)) <| eg (G.loop (Ext.exit 0) (nz l m i)) <| ep (hL k) <| e0) (rs := [Res.c (bo true)]) rfl
theorem Ai (l m : List Int) (hl : l.length ≤ 1000000) (k : Nat) : ag PP GL XX HH NN (k + 2) 53 [.c (.slice 1 (l.map eI)), .c (.slice 1 (m.map eI))] [] = some ([.c (bo (l == m))], []) := by
  cases hh : (l.length : Int) == (m.length : Int) with
  | false => rw [lm hh]; exact HJ l m hh k
  | true =>
    have hlen := jH hh
    have hz : (l.zip m).length = l.length := by rw [List.length_zip]; omega
    rw [iO hlen]
    rcases gA (E := fun k => EE (k + 1)) (H := HH 53) (n := NN) (b := LB PP 53 4) (fun i => A0 l m (i : Nat)) (l.zip m) (fun z => !(z.1 == z.2)) (fun i z => ol l m i z.1 z.2) (nz l m l.length) (nv := 0) (nt := 0) (e := .ret) (e' := .exit 0) (by kernel_rfl) (by kernel_rfl)
      (fun k i z hz' hp => by
        obtain ⟨h1, h2⟩ := gH hz'
        have := EG l m i z.1 z.2 h1 h2 k (dlt h1) (by simpa using hp)
        rwa [mq h1 (by omega)] at this)
      (fun k i z hz' hp => by
        obtain ⟨h1, h2⟩ := gH hz'
        exact D6 l m i z.1 z.2 h1 h2 k (dlt h1) (by simpa using hp))
      (fun k => by rw [hz]; exact CY l m _ k dge) (by unfold NN; omega) with ⟨h1, h2⟩ | ⟨h1, i, z, hy, hp, hf, _, h2⟩
    · rw [h1]; exact Hi l m _ hh h2 k
    · rw [h1]; exact HX l m i z.1 z.2 hh h2 k
theorem HK (l : List (List ByteArray)) (m : List (List ByteArray)) (hh : ((↑(l.length) : Int) == (↑(m.length) : Int)) = false) (k : Nat) : ag PP GL XX HH NN (k + 4) 54 [A.c (C.slice 1 (List.map eL l)), A.c (C.slice 1 (List.map eL m)), A.c (C.fn 52 [])] [] = some ([Res.c (bo false)], []) := by
  exact rt (ep (af (eL) (l)) <| eg (G.len (l.length)) <| ep (af (eL) (m)) <| eg (G.len (m.length)) <| en hh <| e0) (rs := [Res.c (bo false)]) rfl
def A4 (l : List (List ByteArray)) (m : List (List ByteArray)) (c0 : Int) : St := St.mk (T.hole :: tc (C.slice 1 (List.map eL m)) :: tc (C.fn 52 []) :: hs 12 (tc (C.slice 1 (List.map eL l)) :: tc (ii (↑(l.length) : Int)) :: tc (ii c0) :: hs 14 [])) [] []
theorem Eb (l : List (List ByteArray)) (m : List (List ByteArray)) (i : Nat) (x : List ByteArray) (y : List ByteArray) (hx : l[i]? = some x) (hy : m[i]? = some y) (hs : x.length ≤ 1000000) (k : Nat) (z0 : (decide ((↑i : Int) < (↑(l.length) : Int))) = true) (z1 : (x == y) = true) : ax (EE (k + 3)) (HH 54) NN (LB PP 54 4) 0 0 (A4 l m (↑i : Int)) (A4 l m (IntKind.wrap .i64 ((↑i : Int) + 1))) :=
  nx (eb z0 <| ep (rz i) <| ep (ao (f := eL) hx) <| eg (G.idx i [C.slice 1 (List.map eS x)]) <| ep (rz i) <| ep (ao (f := eL) hy) <| eg (G.idx i [C.slice 1 (List.map eS y)]) <| ec (pg x y hs (k + 1)) <| en z1 <| e0)
def oc (l : List (List ByteArray)) (m : List (List ByteArray)) (i : Nat) (x : List ByteArray) (y : List ByteArray) : St := St.mk (T.hole :: tc (C.slice 1 (List.map eL m)) :: tc (C.fn 52 []) :: T.hole :: T.hole :: T.hole :: tc (bo false) :: tc (ii (↑i : Int)) :: tc (C.slice 1 (List.map eS x)) :: tc (C.slice 1 (List.map eS y)) :: Dm.hs 5 [tc (C.slice 1 (List.map eL l)), tc (ii (↑(l.length) : Int)), tc (ii (↑i : Int)), tc (bo (decide ((↑i : Int) < (↑(l.length) : Int)))), tc (ii (↑i : Int)), tc (C.rptr [C.slice 1 (List.map eS x)]), tc (C.slice 1 (List.map eS x)), tc (C.slice 1 (List.map eL m)), tc (ii (↑i : Int)), tc (C.rptr [C.slice 1 (List.map eS y)]), tc (C.slice 1 (List.map eS y)), tc (C.fn 52 []), tc (C.slice 1 (List.map eS x)), tc (C.slice 1 (List.map eS y)), tc (bo (x == y)), tc (bo !x == y), T.hole]) [] []
theorem Df (l : List (List ByteArray)) (m : List (List ByteArray)) (i : Nat) (x : List ByteArray) (y : List ByteArray) (hx : l[i]? = some x) (hy : m[i]? = some y) (hs : x.length ≤ 1000000) (k : Nat) (z0 : (decide ((↑i : Int) < (↑(l.length) : Int))) = true) (z1 : (x == y) = false) : bj (EE (k + 3)) (HH 54) NN (LB PP 54 4) (A4 l m (↑i : Int)) (Ext.ret) (oc l m i x y) :=
  ou (eb z0 <| ep (rz i) <| ep (ao (f := eL) hx) <| eg (G.idx i [C.slice 1 (List.map eS x)]) <| ep (rz i) <| ep (ao (f := eL) hy) <| eg (G.idx i [C.slice 1 (List.map eS y)]) <| ec (pg x y hs (k + 1)) <| en z1 <| e0)
def nS (l : List (List ByteArray)) (m : List (List ByteArray)) (i : Nat) : St := St.mk (T.hole :: tc (C.slice 1 (List.map eL m)) :: tc (C.fn 52 []) :: Dm.hs 12 (tc (C.slice 1 (List.map eL l)) :: tc (ii (↑(l.length) : Int)) :: tc (ii (↑i : Int)) :: tc (bo (decide ((↑i : Int) < (↑(l.length) : Int)))) :: Dm.hs 13 [])) [] []
theorem Dl (l : List (List ByteArray)) (m : List (List ByteArray)) (i : Nat) (k : Nat) (z0 : (decide ((↑i : Int) < (↑(l.length) : Int))) = false) : bj (EE (k + 3)) (HH 54) NN (LB PP 54 4) (A4 l m (↑i : Int)) (Ext.exit 0) (nS l m i) :=
  ou (eb z0 <| e0)
theorem HG (l : List (List ByteArray)) (m : List (List ByteArray)) (i : Nat) (x : List ByteArray) (y : List ByteArray) (hh : ((↑(l.length) : Int) == (↑(m.length) : Int)) = true) (hL : ∀ k, aA (EE (k + 3)) (HH 54) NN (LB PP 54 4) (A4 l m 0) Ext.ret (oc l m i x y)) (k : Nat) : ag PP GL XX HH NN (k + 4) 54 [A.c (C.slice 1 (List.map eL l)), A.c (C.slice 1 (List.map eL m)), A.c (C.fn 52 [])] [] = some ([Res.c (bo false)], []) := by
  exact rt (ep (af (eL) (l)) <| eg (G.len (l.length)) <| ep (af (eL) (m)) <| eg (G.len (m.length)) <| en hh <| ep (af (eL) (l)) <| eg (G.len (l.length)) <| eg (G.loop Ext.ret (oc l m i x y)) <| ep (hL k) <| e0) (rs := [Res.c (bo false)]) rfl
theorem HQ (l : List (List ByteArray)) (m : List (List ByteArray)) (i : Nat) (hh : ((↑(l.length) : Int) == (↑(m.length) : Int)) = true) (hL : ∀ k, aA (EE (k + 3)) (HH 54) NN (LB PP 54 4) (A4 l m 0) (Ext.exit 0) (nS l m i)) (k : Nat) : ag PP GL XX HH NN (k + 4) 54 [A.c (C.slice 1 (List.map eL l)), A.c (C.slice 1 (List.map eL m)), A.c (C.fn 52 [])] [] = some ([Res.c (bo true)], []) := by
  exact rt (ep (af (eL) (l)) <| eg (G.len (l.length)) <| ep (af (eL) (m)) <| eg (G.len (m.length)) <| en hh <| ep (af (eL) (l)) <| eg (G.len (l.length)) <| eg (G.loop (Ext.exit 0) (nS l m i)) <| ep (hL k) <| e0) (rs := [Res.c (bo true)]) rfl
theorem DG (l m : List (List ByteArray)) (hl : l.length ≤ 1000000) (hx : ∀ x ∈ l, x.length ≤ 1000000) (k : Nat) : ag PP GL XX HH NN (k + 4) 54 [.c (.slice 1 (l.map eL)), .c (.slice 1 (m.map eL)), .c (.fn 52 [])] [] = some ([.c (bo (l == m))], []) := by
  cases hh : (l.length : Int) == (m.length : Int) with
  | false => rw [lm hh]; exact HK l m hh k
  | true =>
    have hlen := jH hh
    have hz : (l.zip m).length = l.length := by rw [List.length_zip]; omega
    rw [iO hlen]
    rcases gA (E := fun k => EE (k + 3)) (H := HH 54) (n := NN) (b := LB PP 54 4) (fun i => A4 l m (i : Nat)) (l.zip m) (fun z => !(z.1 == z.2)) (fun i z => oc l m i z.1 z.2) (nS l m l.length) (nv := 0) (nt := 0) (e := .ret) (e' := .exit 0) (by kernel_rfl) (by kernel_rfl)
      (fun k i z hz' hp => by
        obtain ⟨h1, h2⟩ := gH hz'
        have := Eb l m i z.1 z.2 h1 h2 (hx _ (List.mem_of_getElem? h1)) k (dlt h1) (by simpa using hp)
        rwa [mq h1 (by omega)] at this)
      (fun k i z hz' hp => by
        obtain ⟨h1, h2⟩ := gH hz'
        exact Df l m i z.1 z.2 h1 h2 (hx _ (List.mem_of_getElem? h1)) k (dlt h1) (by simpa using hp))
      (fun k => by rw [hz]; exact Dl l m _ k dge) (by unfold NN; omega) with ⟨h1, h2⟩ | ⟨h1, i, z, hy, hp, hf, _, h2⟩
    · rw [h1]; exact HQ l m _ hh h2 k
    · rw [h1]; exact HG l m i z.1 z.2 hh h2 k
def fq (a b : Vl) : Bool := a.acked == b.acked && a.last == b.last && a.begun == b.begun
theorem D9 (a : Vl) (b : Vl) (h1 : a.acked.length ≤ 1000000) (h2 : a.last.length ≤ 1000000) (h3 : a.begun.length ≤ 1000000) (h4 : ∀ (x : List ByteArray), x ∈ Vl.begun a → x.length ≤ 1000000) (k : Nat) : ag PP GL XX HH NN (k + 5) 25 [A.agg (Vl.cs a), A.agg (Vl.cs b)] [] = some ([Res.c (bo (fq a b))], []) := by
  rcases bft (Vl.acked a == Vl.acked b) with z0 | z0
  · rcases bft (Vl.last a == Vl.last b) with z1 | z1
    · exact rt (ec (pg a.acked b.acked h1 (k + 2)) <| eb5 z0 <| ec (Ai a.last b.last h2 (k + 2)) <| eb z0 <| eb5 z1 <| ec (DG a.begun b.begun h3 h4 k) <| eb z1 <| e0) (rs := [Res.c (bo (Vl.begun a == Vl.begun b))]) (by first | (simp only [fq, z0, z1, vq] <;> rfl) | (simp_all only [fq, vq] <;> rfl))
    · exact rt (ec (pg a.acked b.acked h1 (k + 2)) <| eb5 z0 <| ec (Ai a.last b.last h2 (k + 2)) <| eb z0 <| eb6 z1 <| e0) (rs := [Res.c (bo false)]) (by first | (simp only [fq, z0, z1, vq] <;> rfl) | (simp_all only [fq, vq] <;> rfl))
  · exact rt (ec (pg a.acked b.acked h1 (k + 2)) <| eb6 z0 <| ef6 <| e0) (rs := [Res.c (bo false)]) (by first | (simp only [fq, z0, vq] <;> rfl) | (simp_all only [fq, vq] <;> rfl))
structure VB (v : Vl) : Prop where
  h1 : v.acked.length ≤ 1000000
  h2 : v.last.length ≤ 1000000
  h3 : v.begun.length ≤ 1000000
  h4 : ∀ x ∈ v.begun, x.length ≤ 1000000
theorem vy (x0 : Vl) (x1 : Vl) (y0 : Vl) (y1 : Vl) (hA : ∀ k, ag PP GL XX HH NN (k + 5) 25 [A.agg (Vl.cs x0), A.agg (Vl.cs y0)] [] = some ([Res.c (bo (fq x0 y0))], [])) (hB : ∀ k, ag PP GL XX HH NN (k + 5) 25 [A.agg (Vl.cs x1), A.agg (Vl.cs y1)] [] = some ([Res.c (bo (fq x1 y1))], [])) (k : Nat) : ag PP GL XX HH NN (k + 6) 24 [A.c (C.slice 3 [Vl.cs x0, Vl.cs x1]), A.c (C.slice 3 [Vl.cs y0, Vl.cs y1]), A.c (C.fn 25 [])] [] = some ([Res.c (bo (fq x0 y0 && fq x1 y1))], []) := by
  rcases bft (fq x0 y0) with z0 | z0
  · rcases bft (fq x1 y1) with z1 | z1
    · exact rt (ep (rfl : (2 : Nat) = (2 : Nat)) <| eg (G.len 2) <| ep (rfl : (2 : Nat) = (2 : Nat)) <| eg (G.len 2) <| ef <| ep (rfl : (2 : Nat) = (2 : Nat)) <| eg (G.len 2) <| eg (G.un) <| et <| ep (rfl : (0 : Int) = (0 : Int)) <| ep (rfl : some ([C.slice 1 (List.map eS x0.acked), C.slice 1 (List.map eL x0.begun), C.slice 1 (List.map eI x0.last)]) = some ([C.slice 1 (List.map eS x0.acked), C.slice 1 (List.map eL x0.begun), C.slice 1 (List.map eI x0.last)])) <| eg (G.idx 0 [C.slice 1 (List.map eS x0.acked), C.slice 1 (List.map eL x0.begun), C.slice 1 (List.map eI x0.last)]) <| ep (rfl : (0 : Int) = (0 : Int)) <| ep (rfl : some ([C.slice 1 (List.map eS y0.acked), C.slice 1 (List.map eL y0.begun), C.slice 1 (List.map eI y0.last)]) = some ([C.slice 1 (List.map eS y0.acked), C.slice 1 (List.map eL y0.begun), C.slice 1 (List.map eI y0.last)])) <| eg (G.idx 0 [C.slice 1 (List.map eS y0.acked), C.slice 1 (List.map eL y0.begun), C.slice 1 (List.map eI y0.last)]) <| ec (hA k) <| en z0 <| et <| ep (rfl : (1 : Int) = (1 : Int)) <| ep (rfl : some ([C.slice 1 (List.map eS x1.acked), C.slice 1 (List.map eL x1.begun), C.slice 1 (List.map eI x1.last)]) = some ([C.slice 1 (List.map eS x1.acked), C.slice 1 (List.map eL x1.begun), C.slice 1 (List.map eI x1.last)])) <| eg (G.idx 1 [C.slice 1 (List.map eS x1.acked), C.slice 1 (List.map eL x1.begun), C.slice 1 (List.map eI x1.last)]) <| ep (rfl : (1 : Int) = (1 : Int)) <| ep (rfl : some ([C.slice 1 (List.map eS y1.acked), C.slice 1 (List.map eL y1.begun), C.slice 1 (List.map eI y1.last)]) = some ([C.slice 1 (List.map eS y1.acked), C.slice 1 (List.map eL y1.begun), C.slice 1 (List.map eI y1.last)])) <| eg (G.idx 1 [C.slice 1 (List.map eS y1.acked), C.slice 1 (List.map eL y1.begun), C.slice 1 (List.map eI y1.last)]) <| ec (hB k) <| en z1 <| ef <| e0) (rs := [Res.c (bo true)]) (by first | (simp only [z0, z1, vq] <;> rfl) | (simp_all only [vq] <;> rfl))
    · exact rt (ep (rfl : (2 : Nat) = (2 : Nat)) <| eg (G.len 2) <| ep (rfl : (2 : Nat) = (2 : Nat)) <| eg (G.len 2) <| ef <| ep (rfl : (2 : Nat) = (2 : Nat)) <| eg (G.len 2) <| eg (G.un) <| et <| ep (rfl : (0 : Int) = (0 : Int)) <| ep (rfl : some ([C.slice 1 (List.map eS x0.acked), C.slice 1 (List.map eL x0.begun), C.slice 1 (List.map eI x0.last)]) = some ([C.slice 1 (List.map eS x0.acked), C.slice 1 (List.map eL x0.begun), C.slice 1 (List.map eI x0.last)])) <| eg (G.idx 0 [C.slice 1 (List.map eS x0.acked), C.slice 1 (List.map eL x0.begun), C.slice 1 (List.map eI x0.last)]) <| ep (rfl : (0 : Int) = (0 : Int)) <| ep (rfl : some ([C.slice 1 (List.map eS y0.acked), C.slice 1 (List.map eL y0.begun), C.slice 1 (List.map eI y0.last)]) = some ([C.slice 1 (List.map eS y0.acked), C.slice 1 (List.map eL y0.begun), C.slice 1 (List.map eI y0.last)])) <| eg (G.idx 0 [C.slice 1 (List.map eS y0.acked), C.slice 1 (List.map eL y0.begun), C.slice 1 (List.map eI y0.last)]) <| ec (hA k) <| en z0 <| et <| ep (rfl : (1 : Int) = (1 : Int)) <| ep (rfl : some ([C.slice 1 (List.map eS x1.acked), C.slice 1 (List.map eL x1.begun), C.slice 1 (List.map eI x1.last)]) = some ([C.slice 1 (List.map eS x1.acked), C.slice 1 (List.map eL x1.begun), C.slice 1 (List.map eI x1.last)])) <| eg (G.idx 1 [C.slice 1 (List.map eS x1.acked), C.slice 1 (List.map eL x1.begun), C.slice 1 (List.map eI x1.last)]) <| ep (rfl : (1 : Int) = (1 : Int)) <| ep (rfl : some ([C.slice 1 (List.map eS y1.acked), C.slice 1 (List.map eL y1.begun), C.slice 1 (List.map eI y1.last)]) = some ([C.slice 1 (List.map eS y1.acked), C.slice 1 (List.map eL y1.begun), C.slice 1 (List.map eI y1.last)])) <| eg (G.idx 1 [C.slice 1 (List.map eS y1.acked), C.slice 1 (List.map eL y1.begun), C.slice 1 (List.map eI y1.last)]) <| ec (hB k) <| en z1 <| e0) (rs := [Res.c (bo false)]) (by first | (simp only [z0, z1, vq] <;> rfl) | (simp_all only [vq] <;> rfl))
  · exact rt (ep (rfl : (2 : Nat) = (2 : Nat)) <| eg (G.len 2) <| ep (rfl : (2 : Nat) = (2 : Nat)) <| eg (G.len 2) <| ef <| ep (rfl : (2 : Nat) = (2 : Nat)) <| eg (G.len 2) <| eg (G.un) <| et <| ep (rfl : (0 : Int) = (0 : Int)) <| ep (rfl : some ([C.slice 1 (List.map eS x0.acked), C.slice 1 (List.map eL x0.begun), C.slice 1 (List.map eI x0.last)]) = some ([C.slice 1 (List.map eS x0.acked), C.slice 1 (List.map eL x0.begun), C.slice 1 (List.map eI x0.last)])) <| eg (G.idx 0 [C.slice 1 (List.map eS x0.acked), C.slice 1 (List.map eL x0.begun), C.slice 1 (List.map eI x0.last)]) <| ep (rfl : (0 : Int) = (0 : Int)) <| ep (rfl : some ([C.slice 1 (List.map eS y0.acked), C.slice 1 (List.map eL y0.begun), C.slice 1 (List.map eI y0.last)]) = some ([C.slice 1 (List.map eS y0.acked), C.slice 1 (List.map eL y0.begun), C.slice 1 (List.map eI y0.last)])) <| eg (G.idx 0 [C.slice 1 (List.map eS y0.acked), C.slice 1 (List.map eL y0.begun), C.slice 1 (List.map eI y0.last)]) <| ec (hA k) <| en z0 <| e0) (rs := [Res.c (bo false)]) (by first | (simp only [z0, vq] <;> rfl) | (simp_all only [vq] <;> rfl))
def uA (p : Int) (o : Ou) : Bool := o.kind == 2 && o.node == p && !(o.err == 0)
theorem Ef (o : Ou) (p : Int) (k : Nat) : ag PP GL XX HH NN (k + 1) 86 [A.agg (Ou.cs o), A.c (C.rptr [ii p])] [] = some ([Res.c (bo (uA p o))], []) := by
  rcases bft (Ou.kind o == 2) with z0 | z0
  · rcases bft (Ou.node o == p) with z1 | z1
    · exact rt (eb5 z0 <| eb4 z1 <| e0) (rs := [Res.c (bo (Ou.err o != 0))]) (by first | (simp only [uA, z0, z1, vq] <;> rfl) | (simp_all only [uA, vq] <;> rfl))
    · exact rt (eb5 z0 <| eb4 z1 <| e0) (rs := [Res.c (bo false)]) (by first | (simp only [uA, z0, z1, vq] <;> rfl) | (simp_all only [uA, vq] <;> rfl))
  · exact rt (eb5 z0 <| ef4 <| e0) (rs := [Res.c (bo false)]) (by first | (simp only [uA, z0, vq] <;> rfl) | (simp_all only [uA, vq] <;> rfl))
def Sif (l : List Ou) (p : Int) (c0 : Int) : St := St.mk (tc (C.slice 5 (List.map Ou.cs l)) :: tc (C.fn 86 [C.rptr [ii p]]) :: hs 5 (tc (ii (↑(l.length) : Int)) :: tc (ii c0) :: hs 10 [])) [] []
def sX (l : List Ou) (p : Int) (i : Nat) (y : Ou) : St := St.mk [tc (C.slice 5 (List.map Ou.cs l)), tc (C.fn 86 [C.rptr [ii p]]), T.hole, T.hole, tc (ii (↑i : Int)), tc (ii (↑i : Int)), T.hole, tc (ii (↑(l.length) : Int)), tc (ii (↑i : Int)), tc (bo (decide ((↑i : Int) < (↑(l.length) : Int)))), tc (ii (↑i : Int)), tc (C.fn 86 [C.rptr [ii p]]), tc (C.slice 5 (List.map Ou.cs l)), tc (ii (↑i : Int)), tc (C.rptr [ii y.kind, ii y.node, ii y.id, ii y.err, st y.data]), T.k (K.agg [V.c (ii y.kind), V.c (ii y.node), V.c (ii y.id), V.c (ii y.err), V.c (st y.data)]), tc (bo (uA p y)), tc (ii (↑i : Int)), T.hole] [] []
theorem Fy (l : List Ou) (p : Int) (i : Nat) (y : Ou) (hy : l[i]? = some y) (k : Nat) (z0 : (decide ((↑i : Int) < (↑(l.length) : Int))) = true) (z1 : (uA p y) = true) : bj (EE (k + 2)) (HH 119) NN (LB PP 119 2) (Sif l p (↑i : Int)) (Ext.ret) (sX l p i y) :=
  ou (eb z0 <| ep (rz i) <| ep (ao (f := Ou.cs) hy) <| eg (G.idx i [ii y.kind, ii y.node, ii y.id, ii y.err, st y.data]) <| ec (Ef y p (k + 1)) <| eb z1 <| e0)
theorem GS (l : List Ou) (p : Int) (i : Nat) (y : Ou) (hy : l[i]? = some y) (k : Nat) (z0 : (decide ((↑i : Int) < (↑(l.length) : Int))) = true) (z1 : (uA p y) = false) : ax (EE (k + 2)) (HH 119) NN (LB PP 119 2) 0 0 (Sif l p (↑i : Int)) (Sif l p (IntKind.wrap .i64 ((↑i : Int) + 1))) :=
  nx (eb z0 <| ep (rz i) <| ep (ao (f := Ou.cs) hy) <| eg (G.idx i [ii y.kind, ii y.node, ii y.id, ii y.err, st y.data]) <| ec (Ef y p (k + 1)) <| eb z1 <| e0)
def sW (l : List Ou) (p : Int) (i : Nat) : St := St.mk (tc (C.slice 5 (List.map Ou.cs l)) :: tc (C.fn 86 [C.rptr [ii p]]) :: hs 5 (tc (ii (↑(l.length) : Int)) :: tc (ii (↑i : Int)) :: tc (bo (decide ((↑i : Int) < (↑(l.length) : Int)))) :: hs 9 [])) [] []
theorem Gp (l : List Ou) (p : Int) (i : Nat) (k : Nat) (z0 : (decide ((↑i : Int) < (↑(l.length) : Int))) = false) : bj (EE (k + 2)) (HH 119) NN (LB PP 119 2) (Sif l p (↑i : Int)) (Ext.exit 0) (sW l p i) :=
  ou (eb z0 <| e0)
theorem ifA (l : List Ou) (p : Int) (i : Nat) (y : Ou) (hL : ∀ k, aA (EE (k + 2)) (HH 119) NN (LB PP 119 2) (Sif l p 0) Ext.ret (sX l p i y)) (k : Nat) : ag PP GL XX HH NN (k + 3) 119 [A.c (C.slice 5 (List.map Ou.cs l)), A.c (C.fn 86 [C.rptr [ii p]])] [] = some ([Res.c (ii (↑i : Int))], []) := by
  exact rt (ep (af (Ou.cs) (l)) <| eg (G.len (l.length)) <| eg (G.loop Ext.ret (sX l p i y)) <| ep (hL k) <| e0) (rs := [Res.c (ii (↑i : Int))]) rfl
theorem ifB (l : List Ou) (p : Int) (i : Nat) (hL : ∀ k, aA (EE (k + 2)) (HH 119) NN (LB PP 119 2) (Sif l p 0) (Ext.exit 0) (sW l p i)) (k : Nat) : ag PP GL XX HH NN (k + 3) 119 [A.c (C.slice 5 (List.map Ou.cs l)), A.c (C.fn 86 [C.rptr [ii p]])] [] = some ([Res.c (ii (-1 : Int))], []) := by
  exact rt (ep (af (Ou.cs) (l)) <| eg (G.len (l.length)) <| eg (G.loop (Ext.exit 0) (sW l p i)) <| ep (hL k) <| e0) (rs := [Res.c (ii (-1 : Int))]) rfl
theorem cfN (l : List Ou) (p : Int) (j : Int) (hI : ∀ k, ag PP GL XX HH NN (k + 3) 119 [A.c (C.slice 5 (List.map Ou.cs l)), A.c (C.fn 86 [C.rptr [ii p]])] [] = some ([Res.c (ii j)], [])) (k : Nat) : ag PP GL XX HH NN (k + 4) 85 [A.c (C.slice 5 (List.map Ou.cs l)), A.c (C.fn 86 [C.rptr [ii p]])] [] = some ([Res.c (bo (decide (j ≥ 0)))], []) := by
  exact rt (ec (hI k) <| e0) (rs := [Res.c (bo (decide (j ≥ 0)))]) rfl
theorem wM (l : List Ou) (p : Int) (hl : l.length ≤ 1000000) (k : Nat) : ag PP GL XX HH NN (k + 4) 85 [.c (.slice 5 (l.map Ou.cs)), .c (.fn 86 [.rptr [ii p]])] [] = some ([.c (bo (cm l p))], []) := by
  have er : cm l p = l.any (uA p) := rfl
  rw [er]
  rcases gA (E := fun k => EE (k + 2)) (H := HH 119) (n := NN) (b := LB PP 119 2) (fun i => Sif l p (i : Nat)) l (uA p) (fun i y => sX l p i y) (sW l p l.length) (nv := 0) (nt := 0) (e := .ret) (e' := .exit 0) (by kernel_rfl) (by kernel_rfl)
    (fun k i y hy hp => by
      have := GS l p i y hy k (dlt hy) hp
      rwa [mq hy (by omega)] at this)
    (fun k i y hy hp => Fy l p i y hy k (dlt hy) hp)
    (fun k => Gp l p _ k dge) (by unfold NN; omega) with ⟨h1, h2⟩ | ⟨h1, i, y, hy, hp, hf, _, h2⟩
  · rw [h1]
    exact cfN l p (-1) (fun k => ifB l p _ h2 k) k
  · rw [h1]
    have e : decide (((i : Nat) : Int) ≥ 0) = true := by simp
    have := cfN l p (i : Int) (fun k => ifA l p i y h2 k) k
    rwa [e] at this
end Go.Dm
namespace Go.Dm
open Go
set_option maxHeartbeats 1000000
set_option maxHeartbeats 0
theorem fD (m : Mm) (c : Cl) (d : Cl) (e : Evt) (l : List Ou) (p : Int) (hl : l.length ≤ 1000000) (k : Nat) : ag PP GL XX HH NN (k + 5) 45 [A.imp 0, A.c (ii p)] [Sp.cs (Sp.mk m c d e l)] = some ([Res.c (bo (cm l p))], [Sp.cs (Sp.mk m c d e l)]) := by
  exact rti (ec (wM l p hl k) <| e0) (rs := [Res.c (bo (cm l p))]) (ims' := [((Mm.cs m) ++ (Cl.cs c ++ (Cl.cs d ++ (Evt.cs e ++ [C.slice 5 (List.map Ou.cs l)]))))]) rfl
theorem yQ (m : Mm) (c : Cl) (d : Cl) (e : Evt) (l : List Ou) (k : Nat) : ag PP GL XX HH NN (k + 1) 19 [A.imp 0] [Sp.cs (Sp.mk m c d e l)] = some ([], [Sp.cs (Sp.mk (aN m c) c d e l)]) := by
  rcases bft (Nd.state c.n0 == 1) with z0 | z0
  · rcases bft (Nd.state c.n1 == 1) with z1 | z1
    · exact rti (eg (G.un) <| et <| ep (rz 0) <| eg (G.at 0) <| eb2 z0 <| ep (rz 1) <| eg (G.at 1) <| ep (rz 0) <| eg (G.at 0) <| et <| ep (rz 1) <| eg (G.at 1) <| eb2 z1 <| ep (rz 0) <| eg (G.at 0) <| ep (rz 1) <| eg (G.at 1) <| ef <| e0) (rs := []) (ims' := [([C.slice 1 (List.map eS m.n0.acked), C.slice 1 (List.map eL m.n0.begun), C.slice 1 (List.map eI m.n0.last), C.slice 1 (List.map eS m.n1.acked), C.slice 1 (List.map eL m.n1.begun), C.slice 1 (List.map eI m.n1.last), C.slice 1 (List.map eS m.n1.acked), C.slice 1 (List.map eL m.n1.begun), C.slice 1 (List.map eI m.n1.last), C.slice 1 (List.map eS m.n0.acked), C.slice 1 (List.map eL m.n0.begun), C.slice 1 (List.map eI m.n0.last), bo m.h0, bo m.h1, bo m.d0, bo m.d1, bo m.w0.on, ii m.w0.id, ii m.w0.block, st m.w0.data, bo m.w1.on, ii m.w1.id, ii m.w1.block, st m.w1.data, ii m.count, ii m.lost] ++ (Cl.cs c ++ (Cl.cs d ++ (Evt.cs e ++ [C.slice 5 (List.map Ou.cs l)]))))]) (by first | (simp only [aN, z0, z1, vq] <;> rfl) | (simp_all only [aN, vq] <;> rfl))
    · rcases bft (Nd.state c.n1 == 4) with z2 | z2
      · exact rti (eg (G.un) <| et <| ep (rz 0) <| eg (G.at 0) <| eb2 z0 <| ep (rz 1) <| eg (G.at 1) <| ep (rz 0) <| eg (G.at 0) <| et <| ep (rz 1) <| eg (G.at 1) <| eb z1 <| eb z2 <| ep (rz 0) <| eg (G.at 0) <| ep (rz 1) <| eg (G.at 1) <| ef <| e0) (rs := []) (ims' := [([C.slice 1 (List.map eS m.n0.acked), C.slice 1 (List.map eL m.n0.begun), C.slice 1 (List.map eI m.n0.last), C.slice 1 (List.map eS m.n1.acked), C.slice 1 (List.map eL m.n1.begun), C.slice 1 (List.map eI m.n1.last), C.slice 1 (List.map eS m.n1.acked), C.slice 1 (List.map eL m.n1.begun), C.slice 1 (List.map eI m.n1.last), C.slice 1 (List.map eS m.n0.acked), C.slice 1 (List.map eL m.n0.begun), C.slice 1 (List.map eI m.n0.last), bo m.h0, bo m.h1, bo m.d0, bo m.d1, bo m.w0.on, ii m.w0.id, ii m.w0.block, st m.w0.data, bo m.w1.on, ii m.w1.id, ii m.w1.block, st m.w1.data, ii m.count, ii m.lost] ++ (Cl.cs c ++ (Cl.cs d ++ (Evt.cs e ++ [C.slice 5 (List.map Ou.cs l)]))))]) (by first | (simp only [aN, z0, z1, z2, vq] <;> rfl) | (simp_all only [aN, vq] <;> rfl))
      · exact rti (eg (G.un) <| et <| ep (rz 0) <| eg (G.at 0) <| eb2 z0 <| ep (rz 1) <| eg (G.at 1) <| ep (rz 0) <| eg (G.at 0) <| et <| ep (rz 1) <| eg (G.at 1) <| eb z1 <| eb z2 <| ef <| e0) (rs := []) (ims' := [([C.slice 1 (List.map eS m.n0.acked), C.slice 1 (List.map eL m.n0.begun), C.slice 1 (List.map eI m.n0.last), C.slice 1 (List.map eS m.n1.acked), C.slice 1 (List.map eL m.n1.begun), C.slice 1 (List.map eI m.n1.last), C.slice 1 (List.map eS m.n1.acked), C.slice 1 (List.map eL m.n1.begun), C.slice 1 (List.map eI m.n1.last), C.slice 1 (List.map eS m.s1.acked), C.slice 1 (List.map eL m.s1.begun), C.slice 1 (List.map eI m.s1.last), bo m.h0, bo m.h1, bo m.d0, bo m.d1, bo m.w0.on, ii m.w0.id, ii m.w0.block, st m.w0.data, bo m.w1.on, ii m.w1.id, ii m.w1.block, st m.w1.data, ii m.count, ii m.lost] ++ (Cl.cs c ++ (Cl.cs d ++ (Evt.cs e ++ [C.slice 5 (List.map Ou.cs l)]))))]) (by first | (simp only [aN, z0, z1, z2, vq] <;> rfl) | (simp_all only [aN, vq] <;> rfl))
  · rcases bft (Nd.state c.n0 == 4) with z1 | z1
    · rcases bft (Nd.state c.n1 == 1) with z2 | z2
      · exact rti (eg (G.un) <| et <| ep (rz 0) <| eg (G.at 0) <| eb z0 <| eb z1 <| ep (rz 1) <| eg (G.at 1) <| ep (rz 0) <| eg (G.at 0) <| et <| ep (rz 1) <| eg (G.at 1) <| eb2 z2 <| ep (rz 0) <| eg (G.at 0) <| ep (rz 1) <| eg (G.at 1) <| ef <| e0) (rs := []) (ims' := [([C.slice 1 (List.map eS m.n0.acked), C.slice 1 (List.map eL m.n0.begun), C.slice 1 (List.map eI m.n0.last), C.slice 1 (List.map eS m.n1.acked), C.slice 1 (List.map eL m.n1.begun), C.slice 1 (List.map eI m.n1.last), C.slice 1 (List.map eS m.n1.acked), C.slice 1 (List.map eL m.n1.begun), C.slice 1 (List.map eI m.n1.last), C.slice 1 (List.map eS m.n0.acked), C.slice 1 (List.map eL m.n0.begun), C.slice 1 (List.map eI m.n0.last), bo m.h0, bo m.h1, bo m.d0, bo m.d1, bo m.w0.on, ii m.w0.id, ii m.w0.block, st m.w0.data, bo m.w1.on, ii m.w1.id, ii m.w1.block, st m.w1.data, ii m.count, ii m.lost] ++ (Cl.cs c ++ (Cl.cs d ++ (Evt.cs e ++ [C.slice 5 (List.map Ou.cs l)]))))]) (by first | (simp only [aN, z0, z1, z2, vq] <;> rfl) | (simp_all only [aN, vq] <;> rfl))
      · rcases bft (Nd.state c.n1 == 4) with z3 | z3
        · exact rti (eg (G.un) <| et <| ep (rz 0) <| eg (G.at 0) <| eb z0 <| eb z1 <| ep (rz 1) <| eg (G.at 1) <| ep (rz 0) <| eg (G.at 0) <| et <| ep (rz 1) <| eg (G.at 1) <| eb z2 <| eb z3 <| ep (rz 0) <| eg (G.at 0) <| ep (rz 1) <| eg (G.at 1) <| ef <| e0) (rs := []) (ims' := [([C.slice 1 (List.map eS m.n0.acked), C.slice 1 (List.map eL m.n0.begun), C.slice 1 (List.map eI m.n0.last), C.slice 1 (List.map eS m.n1.acked), C.slice 1 (List.map eL m.n1.begun), C.slice 1 (List.map eI m.n1.last), C.slice 1 (List.map eS m.n1.acked), C.slice 1 (List.map eL m.n1.begun), C.slice 1 (List.map eI m.n1.last), C.slice 1 (List.map eS m.n0.acked), C.slice 1 (List.map eL m.n0.begun), C.slice 1 (List.map eI m.n0.last), bo m.h0, bo m.h1, bo m.d0, bo m.d1, bo m.w0.on, ii m.w0.id, ii m.w0.block, st m.w0.data, bo m.w1.on, ii m.w1.id, ii m.w1.block, st m.w1.data, ii m.count, ii m.lost] ++ (Cl.cs c ++ (Cl.cs d ++ (Evt.cs e ++ [C.slice 5 (List.map Ou.cs l)]))))]) (by first | (simp only [aN, z0, z1, z2, z3, vq] <;> rfl) | (simp_all only [aN, vq] <;> rfl))
        · exact rti (eg (G.un) <| et <| ep (rz 0) <| eg (G.at 0) <| eb z0 <| eb z1 <| ep (rz 1) <| eg (G.at 1) <| ep (rz 0) <| eg (G.at 0) <| et <| ep (rz 1) <| eg (G.at 1) <| eb z2 <| eb z3 <| ef <| e0) (rs := []) (ims' := [([C.slice 1 (List.map eS m.n0.acked), C.slice 1 (List.map eL m.n0.begun), C.slice 1 (List.map eI m.n0.last), C.slice 1 (List.map eS m.n1.acked), C.slice 1 (List.map eL m.n1.begun), C.slice 1 (List.map eI m.n1.last), C.slice 1 (List.map eS m.n1.acked), C.slice 1 (List.map eL m.n1.begun), C.slice 1 (List.map eI m.n1.last), C.slice 1 (List.map eS m.s1.acked), C.slice 1 (List.map eL m.s1.begun), C.slice 1 (List.map eI m.s1.last), bo m.h0, bo m.h1, bo m.d0, bo m.d1, bo m.w0.on, ii m.w0.id, ii m.w0.block, st m.w0.data, bo m.w1.on, ii m.w1.id, ii m.w1.block, st m.w1.data, ii m.count, ii m.lost] ++ (Cl.cs c ++ (Cl.cs d ++ (Evt.cs e ++ [C.slice 5 (List.map Ou.cs l)]))))]) (by first | (simp only [aN, z0, z1, z2, z3, vq] <;> rfl) | (simp_all only [aN, vq] <;> rfl))
    · rcases bft (Nd.state c.n1 == 1) with z2 | z2
      · exact rti (eg (G.un) <| et <| ep (rz 0) <| eg (G.at 0) <| eb z0 <| eb z1 <| et <| ep (rz 1) <| eg (G.at 1) <| eb2 z2 <| ep (rz 0) <| eg (G.at 0) <| ep (rz 1) <| eg (G.at 1) <| ef <| e0) (rs := []) (ims' := [([C.slice 1 (List.map eS m.n0.acked), C.slice 1 (List.map eL m.n0.begun), C.slice 1 (List.map eI m.n0.last), C.slice 1 (List.map eS m.n1.acked), C.slice 1 (List.map eL m.n1.begun), C.slice 1 (List.map eI m.n1.last), C.slice 1 (List.map eS m.s0.acked), C.slice 1 (List.map eL m.s0.begun), C.slice 1 (List.map eI m.s0.last), C.slice 1 (List.map eS m.n0.acked), C.slice 1 (List.map eL m.n0.begun), C.slice 1 (List.map eI m.n0.last), bo m.h0, bo m.h1, bo m.d0, bo m.d1, bo m.w0.on, ii m.w0.id, ii m.w0.block, st m.w0.data, bo m.w1.on, ii m.w1.id, ii m.w1.block, st m.w1.data, ii m.count, ii m.lost] ++ (Cl.cs c ++ (Cl.cs d ++ (Evt.cs e ++ [C.slice 5 (List.map Ou.cs l)]))))]) (by first | (simp only [aN, z0, z1, z2, vq] <;> rfl) | (simp_all only [aN, vq] <;> rfl))
      · rcases bft (Nd.state c.n1 == 4) with z3 | z3
        · exact rti (eg (G.un) <| et <| ep (rz 0) <| eg (G.at 0) <| eb z0 <| eb z1 <| et <| ep (rz 1) <| eg (G.at 1) <| eb z2 <| eb z3 <| ep (rz 0) <| eg (G.at 0) <| ep (rz 1) <| eg (G.at 1) <| ef <| e0) (rs := []) (ims' := [([C.slice 1 (List.map eS m.n0.acked), C.slice 1 (List.map eL m.n0.begun), C.slice 1 (List.map eI m.n0.last), C.slice 1 (List.map eS m.n1.acked), C.slice 1 (List.map eL m.n1.begun), C.slice 1 (List.map eI m.n1.last), C.slice 1 (List.map eS m.s0.acked), C.slice 1 (List.map eL m.s0.begun), C.slice 1 (List.map eI m.s0.last), C.slice 1 (List.map eS m.n0.acked), C.slice 1 (List.map eL m.n0.begun), C.slice 1 (List.map eI m.n0.last), bo m.h0, bo m.h1, bo m.d0, bo m.d1, bo m.w0.on, ii m.w0.id, ii m.w0.block, st m.w0.data, bo m.w1.on, ii m.w1.id, ii m.w1.block, st m.w1.data, ii m.count, ii m.lost] ++ (Cl.cs c ++ (Cl.cs d ++ (Evt.cs e ++ [C.slice 5 (List.map Ou.cs l)]))))]) (by first | (simp only [aN, z0, z1, z2, z3, vq] <;> rfl) | (simp_all only [aN, vq] <;> rfl))
        · exact rti (eg (G.un) <| et <| ep (rz 0) <| eg (G.at 0) <| eb z0 <| eb z1 <| et <| ep (rz 1) <| eg (G.at 1) <| eb z2 <| eb z3 <| ef <| e0) (rs := []) (ims' := [((Mm.cs m) ++ (Cl.cs c ++ (Cl.cs d ++ (Evt.cs e ++ [C.slice 5 (List.map Ou.cs l)]))))]) (by first | (simp only [aN, z0, z1, z2, z3, vq] <;> rfl) | (simp_all only [aN, vq] <;> rfl))
theorem AV (m : Mm) (c : Cl) (d : Cl) (e : Evt) (l : List Ou) (hb : ge m.n0 e.block = false) (k : Nat) : ag PP GL XX HH NN (k + 2) 46 [A.imp 0, A.c (ii 0)] [Sp.cs (Sp.mk m c d e l)] = some ([], [Sp.cs (Sp.mk m c d e l)]) := by
  exact rti (ep (rz 0) <| eg (G.at 0) <| ec (lj m.n0 e.block k) <| en hb <| e0) (rs := []) (ims' := [((Mm.cs m) ++ (Cl.cs c ++ (Cl.cs d ++ (Evt.cs e ++ [C.slice 5 (List.map Ou.cs l)]))))]) rfl
theorem Bv (m : Mm) (c : Cl) (d : Cl) (e : Evt) (l : List Ou) (i : Nat) (y : List ByteArray) (hb : ge m.n0 e.block = true) (hi : Evt.block e = (↑i : Int)) (h1 : i < m.n0.acked.length) (h2 : i < m.n0.begun.length) (h3 : i < m.n0.last.length) (b1 : m.n0.acked.length ≤ 1000000) (b2 : m.n0.begun.length ≤ 1000000) (b3 : m.n0.last.length ≤ 1000000) (hy : m.n0.begun[i]? = some y) (b4 : y.length ≤ 1000000) (k : Nat) : ag PP GL XX HH NN (k + 2) 46 [A.imp 0, A.c (ii 0)] [Sp.cs (Sp.mk m c d e l)] = some ([], [Sp.cs (Sp.mk (({ m with n0 := ({ Mm.n0 m with begun := List.set m.n0.begun i (y ++ [Evt.data e]) } : Vl) } : Mm)) c d e l)]) := by
  exact rti (ep (rz 0) <| eg (G.at 0) <| ec (lj m.n0 e.block k) <| en hb <| ep (rz 0) <| eg (G.at 0) <| ep (cO (f := eS) (g := fun (x : ByteArray) => st x) (fun _ => rfl) m.n0.acked) <| ep (cN (eS) (l := Vl.acked m.n0) (show (0 : Nat) < m.n0.acked.length from by omega)) <| ep (ar (eS) (l := Vl.acked m.n0) (n := 1073741824) (show m.n0.acked.length ≤ 1073741824 from by omega)) <| eg (G.rowv (List.map (fun (x : ByteArray) => V.c (st x)) m.n0.acked)) <| ep (cO (f := eL) (g := fun (x : List ByteArray) => C.slice 1 (List.map eS x)) (fun _ => rfl) m.n0.begun) <| ep (cN (eL) (l := Vl.begun m.n0) (show (0 : Nat) < m.n0.begun.length from by omega)) <| ep (ar (eL) (l := Vl.begun m.n0) (n := 1073741824) (show m.n0.begun.length ≤ 1073741824 from by omega)) <| eg (G.rowv (List.map (fun (x : List ByteArray) => V.c (C.slice 1 (List.map eS x))) m.n0.begun)) <| ep (cO (f := eI) (g := fun (x : Int) => ii x) (fun _ => rfl) m.n0.last) <| ep (cN (eI) (l := Vl.last m.n0) (show (0 : Nat) < m.n0.last.length from by omega)) <| ep (ar (eI) (l := Vl.last m.n0) (n := 1073741824) (show m.n0.last.length ≤ 1073741824 from by omega)) <| eg (G.rowv (List.map (fun (x : Int) => V.c (ii x)) m.n0.last)) <| ep hi <| ep (gu (eL) (l := Vl.begun m.n0) h2) <| eg (G.vat i) <| ep (xm (fun (x : List ByteArray) => V.c (C.slice 1 (List.map eS x))) m.n0.begun (i) (y) hy) <| eg (G.sto [V.c (C.slice 1 (List.map eS y))]) <| ec (zP y b4 k) <| ep (a9 (eS) (y) ([Evt.data e])) <| ep (ar (eS) (l := y ++ [Evt.data e]) (n := 1073741824) (by simp only [vr]; omega)) <| ep (Eq.refl (List.length (List.map eS y))) <| eg (G.app (List.map eS (y ++ [Evt.data e]))) <| ep hi <| ep (gu (eL) (l := Vl.begun m.n0) h2) <| eg (G.vat i) <| ep (jh (fun (x : List ByteArray) => V.c (C.slice 1 (List.map eS x))) m.n0.begun (i) (V.c (C.slice 1 (List.map eS (y ++ [Evt.data e])))) h2) <| ep (fN (fun (x : List ByteArray) => V.c (C.slice 1 (List.map eS x))) m.n0.begun (i) (y ++ [Evt.data e]) h2) <| eg (G.sto (List.map (fun (x : List ByteArray) => V.c (C.slice 1 (List.map eS x))) (List.set m.n0.begun i (y ++ [Evt.data e])))) <| ep (rz 0) <| eg (G.at 0) <| ep (bD (fun (x : ByteArray) => st x) m.n0.acked (show List.length (List.map eS m.n0.acked) = m.n0.acked.length from by first | simp | (simp; omega))) <| ep (bD (fun (x : List ByteArray) => C.slice 1 (List.map eS x)) (List.set m.n0.begun i (y ++ [Evt.data e])) (show List.length (List.map eL m.n0.begun) = List.length (List.set m.n0.begun i (y ++ [Evt.data e])) from by first | simp | (simp; omega))) <| ep (bD (fun (x : Int) => ii x) m.n0.last (show List.length (List.map eI m.n0.last) = m.n0.last.length from by first | simp | (simp; omega))) <| eg (G.frz [List.map (fun (x : ByteArray) => [st x]) m.n0.acked, List.map (fun (x : List ByteArray) => [C.slice 1 (List.map eS x)]) (List.set m.n0.begun i (y ++ [Evt.data e])), List.map (fun (x : Int) => [ii x]) m.n0.last]) <| e0) (rs := []) (ims' := [([C.slice 1 (List.map (fun (x : ByteArray) => [st x]) m.n0.acked), C.slice 1 (List.map (fun (x : List ByteArray) => [C.slice 1 (List.map eS x)]) (List.set m.n0.begun i (y ++ [Evt.data e]))), C.slice 1 (List.map (fun (x : Int) => [ii x]) m.n0.last), C.slice 1 (List.map eS m.n1.acked), C.slice 1 (List.map eL m.n1.begun), C.slice 1 (List.map eI m.n1.last), C.slice 1 (List.map eS m.s0.acked), C.slice 1 (List.map eL m.s0.begun), C.slice 1 (List.map eI m.s0.last), C.slice 1 (List.map eS m.s1.acked), C.slice 1 (List.map eL m.s1.begun), C.slice 1 (List.map eI m.s1.last), bo m.h0, bo m.h1, bo m.d0, bo m.d1, bo m.w0.on, ii m.w0.id, ii m.w0.block, st m.w0.data, bo m.w1.on, ii m.w1.id, ii m.w1.block, st m.w1.data, ii m.count, ii m.lost] ++ (Cl.cs c ++ (Cl.cs d ++ (Evt.cs e ++ [C.slice 5 (List.map Ou.cs l)]))))]) rfl
theorem Gk (m : Mm) (c : Cl) (d : Cl) (e : Evt) (l : List Ou) (r : Rq) (hb : ge m.n0 r.block = false) (k : Nat) : ag PP GL XX HH NN (k + 2) 47 [A.imp 0, A.c (ii 0), A.agg (Rq.cs r)] [Sp.cs (Sp.mk m c d e l)] = some ([], [Sp.cs (Sp.mk m c d e l)]) := by
  exact rti (ep (rz 0) <| eg (G.at 0) <| ec (lj m.n0 r.block k) <| en hb <| e0) (rs := []) (ims' := [((Mm.cs m) ++ (Cl.cs c ++ (Cl.cs d ++ (Evt.cs e ++ [C.slice 5 (List.map Ou.cs l)]))))]) rfl
theorem Fk (m : Mm) (c : Cl) (d : Cl) (e : Evt) (l : List Ou) (r : Rq) (i : Nat) (hb : ge m.n0 r.block = true) (hi : Rq.block r = (↑i : Int)) (h1 : i < m.n0.acked.length) (h2 : i < m.n0.begun.length) (h3 : i < m.n0.last.length) (b1 : m.n0.acked.length ≤ 1000000) (b2 : m.n0.begun.length ≤ 1000000) (b3 : m.n0.last.length ≤ 1000000) (k : Nat) : ag PP GL XX HH NN (k + 2) 47 [A.imp 0, A.c (ii 0), A.agg (Rq.cs r)] [Sp.cs (Sp.mk m c d e l)] = some ([], [Sp.cs (Sp.mk (({ m with n0 := (Vl.mk (List.set m.n0.acked i r.data) (List.set m.n0.begun i []) (List.set m.n0.last i m.count)) } : Mm)) c d e l)]) := by
  exact rti (ep (rz 0) <| eg (G.at 0) <| ec (lj m.n0 r.block k) <| en hb <| ep (rz 0) <| eg (G.at 0) <| ep (cO (f := eS) (g := fun (x : ByteArray) => st x) (fun _ => rfl) m.n0.acked) <| ep (cN (eS) (l := Vl.acked m.n0) (show (0 : Nat) < m.n0.acked.length from by omega)) <| ep (ar (eS) (l := Vl.acked m.n0) (n := 1073741824) (show m.n0.acked.length ≤ 1073741824 from by omega)) <| eg (G.rowv (List.map (fun (x : ByteArray) => V.c (st x)) m.n0.acked)) <| ep (cO (f := eL) (g := fun (x : List ByteArray) => C.slice 1 (List.map eS x)) (fun _ => rfl) m.n0.begun) <| ep (cN (eL) (l := Vl.begun m.n0) (show (0 : Nat) < m.n0.begun.length from by omega)) <| ep (ar (eL) (l := Vl.begun m.n0) (n := 1073741824) (show m.n0.begun.length ≤ 1073741824 from by omega)) <| eg (G.rowv (List.map (fun (x : List ByteArray) => V.c (C.slice 1 (List.map eS x))) m.n0.begun)) <| ep (cO (f := eI) (g := fun (x : Int) => ii x) (fun _ => rfl) m.n0.last) <| ep (cN (eI) (l := Vl.last m.n0) (show (0 : Nat) < m.n0.last.length from by omega)) <| ep (ar (eI) (l := Vl.last m.n0) (n := 1073741824) (show m.n0.last.length ≤ 1073741824 from by omega)) <| eg (G.rowv (List.map (fun (x : Int) => V.c (ii x)) m.n0.last)) <| ep hi <| ep (gu (eS) (l := Vl.acked m.n0) h1) <| eg (G.vat i) <| ep (jh (fun (x : ByteArray) => V.c (st x)) m.n0.acked (i) (V.c (st r.data)) h1) <| ep (fN (fun (x : ByteArray) => V.c (st x)) m.n0.acked (i) r.data h1) <| eg (G.sto (List.map (fun (x : ByteArray) => V.c (st x)) (List.set m.n0.acked i r.data))) <| ep hi <| ep (gu (eL) (l := Vl.begun m.n0) h2) <| eg (G.vat i) <| ep (jh (fun (x : List ByteArray) => V.c (C.slice 1 (List.map eS x))) m.n0.begun (i) (V.c (C.slice 1 [])) h2) <| ep (fN (fun (x : List ByteArray) => V.c (C.slice 1 (List.map eS x))) m.n0.begun (i) ([]) h2) <| eg (G.sto (List.map (fun (x : List ByteArray) => V.c (C.slice 1 (List.map eS x))) (List.set m.n0.begun i []))) <| ep hi <| ep (gu (eI) (l := Vl.last m.n0) h3) <| eg (G.vat i) <| ep (jh (fun (x : Int) => V.c (ii x)) m.n0.last (i) (V.c (ii m.count)) h3) <| ep (fN (fun (x : Int) => V.c (ii x)) m.n0.last (i) m.count h3) <| eg (G.sto (List.map (fun (x : Int) => V.c (ii x)) (List.set m.n0.last i m.count))) <| ep (rz 0) <| eg (G.at 0) <| ep (bD (fun (x : ByteArray) => st x) (List.set m.n0.acked i r.data) (show List.length (List.map eS m.n0.acked) = List.length (List.set m.n0.acked i r.data) from by first | simp | (simp; omega))) <| ep (bD (fun (x : List ByteArray) => C.slice 1 (List.map eS x)) (List.set m.n0.begun i []) (show List.length (List.map eL m.n0.begun) = List.length (List.set m.n0.begun i []) from by first | simp | (simp; omega))) <| ep (bD (fun (x : Int) => ii x) (List.set m.n0.last i m.count) (show List.length (List.map eI m.n0.last) = List.length (List.set m.n0.last i m.count) from by first | simp | (simp; omega))) <| eg (G.frz [List.map (fun (x : ByteArray) => [st x]) (List.set m.n0.acked i r.data), List.map (fun (x : List ByteArray) => [C.slice 1 (List.map eS x)]) (List.set m.n0.begun i []), List.map (fun (x : Int) => [ii x]) (List.set m.n0.last i m.count)]) <| e0) (rs := []) (ims' := [([C.slice 1 (List.map (fun (x : ByteArray) => [st x]) (List.set m.n0.acked i r.data)), C.slice 1 (List.map (fun (x : List ByteArray) => [C.slice 1 (List.map eS x)]) (List.set m.n0.begun i [])), C.slice 1 (List.map (fun (x : Int) => [ii x]) (List.set m.n0.last i m.count)), C.slice 1 (List.map eS m.n1.acked), C.slice 1 (List.map eL m.n1.begun), C.slice 1 (List.map eI m.n1.last), C.slice 1 (List.map eS m.s0.acked), C.slice 1 (List.map eL m.s0.begun), C.slice 1 (List.map eI m.s0.last), C.slice 1 (List.map eS m.s1.acked), C.slice 1 (List.map eL m.s1.begun), C.slice 1 (List.map eI m.s1.last), bo m.h0, bo m.h1, bo m.d0, bo m.d1, bo m.w0.on, ii m.w0.id, ii m.w0.block, st m.w0.data, bo m.w1.on, ii m.w1.id, ii m.w1.block, st m.w1.data, ii m.count, ii m.lost] ++ (Cl.cs c ++ (Cl.cs d ++ (Evt.cs e ++ [C.slice 5 (List.map Ou.cs l)]))))]) rfl
theorem AW (m : Mm) (c : Cl) (d : Cl) (e : Evt) (l : List Ou) (hb : ge m.n1 e.block = false) (k : Nat) : ag PP GL XX HH NN (k + 2) 46 [A.imp 0, A.c (ii 1)] [Sp.cs (Sp.mk m c d e l)] = some ([], [Sp.cs (Sp.mk m c d e l)]) := by
  exact rti (ep (rz 1) <| eg (G.at 1) <| ec (lj m.n1 e.block k) <| en hb <| e0) (rs := []) (ims' := [((Mm.cs m) ++ (Cl.cs c ++ (Cl.cs d ++ (Evt.cs e ++ [C.slice 5 (List.map Ou.cs l)]))))]) rfl
theorem Bo (m : Mm) (c : Cl) (d : Cl) (e : Evt) (l : List Ou) (i : Nat) (y : List ByteArray) (hb : ge m.n1 e.block = true) (hi : Evt.block e = (↑i : Int)) (h1 : i < m.n1.acked.length) (h2 : i < m.n1.begun.length) (h3 : i < m.n1.last.length) (b1 : m.n1.acked.length ≤ 1000000) (b2 : m.n1.begun.length ≤ 1000000) (b3 : m.n1.last.length ≤ 1000000) (hy : m.n1.begun[i]? = some y) (b4 : y.length ≤ 1000000) (k : Nat) : ag PP GL XX HH NN (k + 2) 46 [A.imp 0, A.c (ii 1)] [Sp.cs (Sp.mk m c d e l)] = some ([], [Sp.cs (Sp.mk (({ m with n1 := ({ Mm.n1 m with begun := List.set m.n1.begun i (y ++ [Evt.data e]) } : Vl) } : Mm)) c d e l)]) := by
  exact rti (ep (rz 1) <| eg (G.at 1) <| ec (lj m.n1 e.block k) <| en hb <| ep (rz 1) <| eg (G.at 1) <| ep (cO (f := eS) (g := fun (x : ByteArray) => st x) (fun _ => rfl) m.n1.acked) <| ep (cN (eS) (l := Vl.acked m.n1) (show (0 : Nat) < m.n1.acked.length from by omega)) <| ep (ar (eS) (l := Vl.acked m.n1) (n := 1073741824) (show m.n1.acked.length ≤ 1073741824 from by omega)) <| eg (G.rowv (List.map (fun (x : ByteArray) => V.c (st x)) m.n1.acked)) <| ep (cO (f := eL) (g := fun (x : List ByteArray) => C.slice 1 (List.map eS x)) (fun _ => rfl) m.n1.begun) <| ep (cN (eL) (l := Vl.begun m.n1) (show (0 : Nat) < m.n1.begun.length from by omega)) <| ep (ar (eL) (l := Vl.begun m.n1) (n := 1073741824) (show m.n1.begun.length ≤ 1073741824 from by omega)) <| eg (G.rowv (List.map (fun (x : List ByteArray) => V.c (C.slice 1 (List.map eS x))) m.n1.begun)) <| ep (cO (f := eI) (g := fun (x : Int) => ii x) (fun _ => rfl) m.n1.last) <| ep (cN (eI) (l := Vl.last m.n1) (show (0 : Nat) < m.n1.last.length from by omega)) <| ep (ar (eI) (l := Vl.last m.n1) (n := 1073741824) (show m.n1.last.length ≤ 1073741824 from by omega)) <| eg (G.rowv (List.map (fun (x : Int) => V.c (ii x)) m.n1.last)) <| ep hi <| ep (gu (eL) (l := Vl.begun m.n1) h2) <| eg (G.vat i) <| ep (xm (fun (x : List ByteArray) => V.c (C.slice 1 (List.map eS x))) m.n1.begun (i) (y) hy) <| eg (G.sto [V.c (C.slice 1 (List.map eS y))]) <| ec (zP y b4 k) <| ep (a9 (eS) (y) ([Evt.data e])) <| ep (ar (eS) (l := y ++ [Evt.data e]) (n := 1073741824) (by simp only [vr]; omega)) <| ep (Eq.refl (List.length (List.map eS y))) <| eg (G.app (List.map eS (y ++ [Evt.data e]))) <| ep hi <| ep (gu (eL) (l := Vl.begun m.n1) h2) <| eg (G.vat i) <| ep (jh (fun (x : List ByteArray) => V.c (C.slice 1 (List.map eS x))) m.n1.begun (i) (V.c (C.slice 1 (List.map eS (y ++ [Evt.data e])))) h2) <| ep (fN (fun (x : List ByteArray) => V.c (C.slice 1 (List.map eS x))) m.n1.begun (i) (y ++ [Evt.data e]) h2) <| eg (G.sto (List.map (fun (x : List ByteArray) => V.c (C.slice 1 (List.map eS x))) (List.set m.n1.begun i (y ++ [Evt.data e])))) <| ep (rz 1) <| eg (G.at 1) <| ep (bD (fun (x : ByteArray) => st x) m.n1.acked (show List.length (List.map eS m.n1.acked) = m.n1.acked.length from by first | simp | (simp; omega))) <| ep (bD (fun (x : List ByteArray) => C.slice 1 (List.map eS x)) (List.set m.n1.begun i (y ++ [Evt.data e])) (show List.length (List.map eL m.n1.begun) = List.length (List.set m.n1.begun i (y ++ [Evt.data e])) from by first | simp | (simp; omega))) <| ep (bD (fun (x : Int) => ii x) m.n1.last (show List.length (List.map eI m.n1.last) = m.n1.last.length from by first | simp | (simp; omega))) <| eg (G.frz [List.map (fun (x : ByteArray) => [st x]) m.n1.acked, List.map (fun (x : List ByteArray) => [C.slice 1 (List.map eS x)]) (List.set m.n1.begun i (y ++ [Evt.data e])), List.map (fun (x : Int) => [ii x]) m.n1.last]) <| e0) (rs := []) (ims' := [([C.slice 1 (List.map eS m.n0.acked), C.slice 1 (List.map eL m.n0.begun), C.slice 1 (List.map eI m.n0.last), C.slice 1 (List.map (fun (x : ByteArray) => [st x]) m.n1.acked), C.slice 1 (List.map (fun (x : List ByteArray) => [C.slice 1 (List.map eS x)]) (List.set m.n1.begun i (y ++ [Evt.data e]))), C.slice 1 (List.map (fun (x : Int) => [ii x]) m.n1.last), C.slice 1 (List.map eS m.s0.acked), C.slice 1 (List.map eL m.s0.begun), C.slice 1 (List.map eI m.s0.last), C.slice 1 (List.map eS m.s1.acked), C.slice 1 (List.map eL m.s1.begun), C.slice 1 (List.map eI m.s1.last), bo m.h0, bo m.h1, bo m.d0, bo m.d1, bo m.w0.on, ii m.w0.id, ii m.w0.block, st m.w0.data, bo m.w1.on, ii m.w1.id, ii m.w1.block, st m.w1.data, ii m.count, ii m.lost] ++ (Cl.cs c ++ (Cl.cs d ++ (Evt.cs e ++ [C.slice 5 (List.map Ou.cs l)]))))]) rfl
theorem F2 (m : Mm) (c : Cl) (d : Cl) (e : Evt) (l : List Ou) (r : Rq) (hb : ge m.n1 r.block = false) (k : Nat) : ag PP GL XX HH NN (k + 2) 47 [A.imp 0, A.c (ii 1), A.agg (Rq.cs r)] [Sp.cs (Sp.mk m c d e l)] = some ([], [Sp.cs (Sp.mk m c d e l)]) := by
  exact rti (ep (rz 1) <| eg (G.at 1) <| ec (lj m.n1 r.block k) <| en hb <| e0) (rs := []) (ims' := [((Mm.cs m) ++ (Cl.cs c ++ (Cl.cs d ++ (Evt.cs e ++ [C.slice 5 (List.map Ou.cs l)]))))]) rfl
theorem FO (m : Mm) (c : Cl) (d : Cl) (e : Evt) (l : List Ou) (r : Rq) (i : Nat) (hb : ge m.n1 r.block = true) (hi : Rq.block r = (↑i : Int)) (h1 : i < m.n1.acked.length) (h2 : i < m.n1.begun.length) (h3 : i < m.n1.last.length) (b1 : m.n1.acked.length ≤ 1000000) (b2 : m.n1.begun.length ≤ 1000000) (b3 : m.n1.last.length ≤ 1000000) (k : Nat) : ag PP GL XX HH NN (k + 2) 47 [A.imp 0, A.c (ii 1), A.agg (Rq.cs r)] [Sp.cs (Sp.mk m c d e l)] = some ([], [Sp.cs (Sp.mk (({ m with n1 := (Vl.mk (List.set m.n1.acked i r.data) (List.set m.n1.begun i []) (List.set m.n1.last i m.count)) } : Mm)) c d e l)]) := by
  exact rti (ep (rz 1) <| eg (G.at 1) <| ec (lj m.n1 r.block k) <| en hb <| ep (rz 1) <| eg (G.at 1) <| ep (cO (f := eS) (g := fun (x : ByteArray) => st x) (fun _ => rfl) m.n1.acked) <| ep (cN (eS) (l := Vl.acked m.n1) (show (0 : Nat) < m.n1.acked.length from by omega)) <| ep (ar (eS) (l := Vl.acked m.n1) (n := 1073741824) (show m.n1.acked.length ≤ 1073741824 from by omega)) <| eg (G.rowv (List.map (fun (x : ByteArray) => V.c (st x)) m.n1.acked)) <| ep (cO (f := eL) (g := fun (x : List ByteArray) => C.slice 1 (List.map eS x)) (fun _ => rfl) m.n1.begun) <| ep (cN (eL) (l := Vl.begun m.n1) (show (0 : Nat) < m.n1.begun.length from by omega)) <| ep (ar (eL) (l := Vl.begun m.n1) (n := 1073741824) (show m.n1.begun.length ≤ 1073741824 from by omega)) <| eg (G.rowv (List.map (fun (x : List ByteArray) => V.c (C.slice 1 (List.map eS x))) m.n1.begun)) <| ep (cO (f := eI) (g := fun (x : Int) => ii x) (fun _ => rfl) m.n1.last) <| ep (cN (eI) (l := Vl.last m.n1) (show (0 : Nat) < m.n1.last.length from by omega)) <| ep (ar (eI) (l := Vl.last m.n1) (n := 1073741824) (show m.n1.last.length ≤ 1073741824 from by omega)) <| eg (G.rowv (List.map (fun (x : Int) => V.c (ii x)) m.n1.last)) <| ep hi <| ep (gu (eS) (l := Vl.acked m.n1) h1) <| eg (G.vat i) <| ep (jh (fun (x : ByteArray) => V.c (st x)) m.n1.acked (i) (V.c (st r.data)) h1) <| ep (fN (fun (x : ByteArray) => V.c (st x)) m.n1.acked (i) r.data h1) <| eg (G.sto (List.map (fun (x : ByteArray) => V.c (st x)) (List.set m.n1.acked i r.data))) <| ep hi <| ep (gu (eL) (l := Vl.begun m.n1) h2) <| eg (G.vat i) <| ep (jh (fun (x : List ByteArray) => V.c (C.slice 1 (List.map eS x))) m.n1.begun (i) (V.c (C.slice 1 [])) h2) <| ep (fN (fun (x : List ByteArray) => V.c (C.slice 1 (List.map eS x))) m.n1.begun (i) ([]) h2) <| eg (G.sto (List.map (fun (x : List ByteArray) => V.c (C.slice 1 (List.map eS x))) (List.set m.n1.begun i []))) <| ep hi <| ep (gu (eI) (l := Vl.last m.n1) h3) <| eg (G.vat i) <| ep (jh (fun (x : Int) => V.c (ii x)) m.n1.last (i) (V.c (ii m.count)) h3) <| ep (fN (fun (x : Int) => V.c (ii x)) m.n1.last (i) m.count h3) <| eg (G.sto (List.map (fun (x : Int) => V.c (ii x)) (List.set m.n1.last i m.count))) <| ep (rz 1) <| eg (G.at 1) <| ep (bD (fun (x : ByteArray) => st x) (List.set m.n1.acked i r.data) (show List.length (List.map eS m.n1.acked) = List.length (List.set m.n1.acked i r.data) from by first | simp | (simp; omega))) <| ep (bD (fun (x : List ByteArray) => C.slice 1 (List.map eS x)) (List.set m.n1.begun i []) (show List.length (List.map eL m.n1.begun) = List.length (List.set m.n1.begun i []) from by first | simp | (simp; omega))) <| ep (bD (fun (x : Int) => ii x) (List.set m.n1.last i m.count) (show List.length (List.map eI m.n1.last) = List.length (List.set m.n1.last i m.count) from by first | simp | (simp; omega))) <| eg (G.frz [List.map (fun (x : ByteArray) => [st x]) (List.set m.n1.acked i r.data), List.map (fun (x : List ByteArray) => [C.slice 1 (List.map eS x)]) (List.set m.n1.begun i []), List.map (fun (x : Int) => [ii x]) (List.set m.n1.last i m.count)]) <| e0) (rs := []) (ims' := [([C.slice 1 (List.map eS m.n0.acked), C.slice 1 (List.map eL m.n0.begun), C.slice 1 (List.map eI m.n0.last), C.slice 1 (List.map (fun (x : ByteArray) => [st x]) (List.set m.n1.acked i r.data)), C.slice 1 (List.map (fun (x : List ByteArray) => [C.slice 1 (List.map eS x)]) (List.set m.n1.begun i [])), C.slice 1 (List.map (fun (x : Int) => [ii x]) (List.set m.n1.last i m.count)), C.slice 1 (List.map eS m.s0.acked), C.slice 1 (List.map eL m.s0.begun), C.slice 1 (List.map eI m.s0.last), C.slice 1 (List.map eS m.s1.acked), C.slice 1 (List.map eL m.s1.begun), C.slice 1 (List.map eI m.s1.last), bo m.h0, bo m.h1, bo m.d0, bo m.d1, bo m.w0.on, ii m.w0.id, ii m.w0.block, st m.w0.data, bo m.w1.on, ii m.w1.id, ii m.w1.block, st m.w1.data, ii m.count, ii m.lost] ++ (Cl.cs c ++ (Cl.cs d ++ (Evt.cs e ++ [C.slice 5 (List.map Ou.cs l)]))))]) rfl
end Go.Dm
namespace Go.Dm
open Go
set_option maxHeartbeats 1000000
set_option maxHeartbeats 0
def pLa (v s : Vl) (i : Nat) : Bool := decide ((i : Int) < (s.last.length : Int)) && decide (v.last.getD i 0 > s.last.getD i 0)
theorem ko (v s : Vl) : (List.range v.last.length).any (pLa v s) = gY v s := by
  unfold gY
  rw [Bool.eq_iff_iff]
  simp only [List.any_eq_true, List.mem_range]
  constructor
  · rintro ⟨i, hi, hp⟩
    unfold pLa at hp
    rw [Bool.and_eq_true] at hp
    have h1 := of_decide_eq_true hp.1
    have h2 : i < s.last.length := by omega
    refine ⟨(v.last[i], s.last[i]), ?_, ?_⟩
    · rw [List.mem_iff_getElem?]
      exact ⟨i, by rw [List.getElem?_zip_eq_some]; exact ⟨List.getElem?_eq_getElem hi, List.getElem?_eq_getElem h2⟩⟩
    · have := hp.2
      rw [List.getD_eq_getElem?_getD, List.getD_eq_getElem?_getD, List.getElem?_eq_getElem hi, List.getElem?_eq_getElem h2] at this
      exact this
  · rintro ⟨⟨a, b⟩, hm, hd⟩
    obtain ⟨i, hi⟩ := List.mem_iff_getElem?.1 hm
    rw [List.getElem?_zip_eq_some] at hi
    obtain ⟨h1, h2⟩ := hi
    have l1 := bO h1
    have l2 := bO h2
    refine ⟨i, l1, ?_⟩
    unfold pLa
    rw [Bool.and_eq_true]
    refine ⟨decide_eq_true (by omega), ?_⟩
    rw [List.getD_eq_getElem?_getD, List.getD_eq_getElem?_getD, h1, h2]
    exact hd
def xS (m : Mm) (c : Cl) (d : Cl) (e : Evt) (l : List Ou) (c0 : Int) : St := St.mk (T.k (K.v (V.ptr 0 0)) :: tc (ii 0) :: hs 12 (tc (C.slice 1 (List.map eI m.n0.last)) :: tc (ii (↑(m.n0.last.length) : Int)) :: tc (ii c0) :: hs 31 [])) [(List.map V.c (Mm.cs m) ++ (List.map V.c (Cl.cs c) ++ (List.map V.c (Cl.cs d) ++ (List.map V.c (Evt.cs e) ++ [V.c (C.slice 5 (List.map Ou.cs l))]))))] []
def oM (m : Mm) (c : Cl) (d : Cl) (e : Evt) (l : List Ou) (i : Nat) (x : Int) (y : Int) : St := St.mk (T.k (K.v (V.ptr 0 0)) :: tc (ii 0) :: T.hole :: T.hole :: tc (bo true) :: tc (ii (↑i : Int)) :: tc (ii x) :: hs 7 [tc (C.slice 1 (List.map eI m.n0.last)), tc (ii (↑(m.n0.last.length) : Int)), tc (ii (↑i : Int)), tc (bo (decide ((↑i : Int) < (↑(m.n0.last.length) : Int)))), tc (ii (↑i : Int)), tc (C.rptr [ii x]), tc (ii x), tc (ii (↑i : Int)), T.k (K.v (V.ptr 0 0)), tc (ii 0), T.k (K.v (V.ptr 0 0)), T.k (K.v (V.ptr 0 0)), T.k (K.v (V.ptr 0 6)), T.k (K.v (V.ptr 0 6)), T.k (K.v (V.ptr 0 8)), tc (C.slice 1 (List.map eI m.s0.last)), tc (ii (↑(m.s0.last.length) : Int)), tc (bo (decide ((↑i : Int) < (↑(m.s0.last.length) : Int)))), tc (bo (decide ((↑i : Int) < (↑(m.s0.last.length) : Int)))), tc (ii x), T.k (K.v (V.ptr 0 0)), tc (ii 0), T.k (K.v (V.ptr 0 0)), T.k (K.v (V.ptr 0 0)), T.k (K.v (V.ptr 0 6)), T.k (K.v (V.ptr 0 6)), T.k (K.v (V.ptr 0 8)), tc (C.slice 1 (List.map eI m.s0.last)), tc (ii (↑i : Int)), tc (C.rptr [ii y]), tc (ii y), tc (bo (decide (x > y))), tc (bo (decide (x > y))), T.hole]) [(List.map V.c (Mm.cs m) ++ (List.map V.c (Cl.cs c) ++ (List.map V.c (Cl.cs d) ++ (List.map V.c (Evt.cs e) ++ [V.c (C.slice 5 (List.map Ou.cs l))]))))] []
theorem Ee (m : Mm) (c : Cl) (d : Cl) (e : Evt) (l : List Ou) (i : Nat) (x : Int) (y : Int) (hx : m.n0.last[i]? = some x) (hy : m.s0.last[i]? = some y) (k : Nat) (z0 : (decide ((↑i : Int) < (↑(m.n0.last.length) : Int))) = true) (z1 : (decide ((↑i : Int) < (↑(m.s0.last.length) : Int))) = true) (z2 : (decide (x > y)) = true) : bj (EE (k + 1)) (HH 48) NN (LB PP 48 2) (xS m c d e l (↑i : Int)) (Ext.ret) (oM m c d e l i x y) :=
  ou (eb z0 <| ep (rz i) <| ep (ao (f := eI) hx) <| eg (G.idx i [ii x]) <| ep (rz 0) <| eg (G.at 0) <| ep (af (eI) m.s0.last) <| eg (G.len (m.s0.last.length)) <| eb7 z1 <| ep (rz 0) <| eg (G.at 0) <| eb4 z1 <| ep (rz i) <| ep (ao (f := eI) hy) <| eg (G.idx i [ii y]) <| eb3 z1 <| eb z2 <| e0)
theorem DP (m : Mm) (c : Cl) (d : Cl) (e : Evt) (l : List Ou) (i : Nat) (x : Int) (y : Int) (hx : m.n0.last[i]? = some x) (hy : m.s0.last[i]? = some y) (k : Nat) (z0 : (decide ((↑i : Int) < (↑(m.n0.last.length) : Int))) = true) (z1 : (decide ((↑i : Int) < (↑(m.s0.last.length) : Int))) = true) (z2 : (decide (x > y)) = false) : ax (EE (k + 1)) (HH 48) NN (LB PP 48 2) 1 0 (xS m c d e l (↑i : Int)) (xS m c d e l (IntKind.wrap .i64 ((↑i : Int) + 1))) :=
  nx (eb z0 <| ep (rz i) <| ep (ao (f := eI) hx) <| eg (G.idx i [ii x]) <| ep (rz 0) <| eg (G.at 0) <| ep (af (eI) m.s0.last) <| eg (G.len (m.s0.last.length)) <| eb7 z1 <| ep (rz 0) <| eg (G.at 0) <| eb4 z1 <| ep (rz i) <| ep (ao (f := eI) hy) <| eg (G.idx i [ii y]) <| eb3 z1 <| eb z2 <| e0)
theorem Eh (m : Mm) (c : Cl) (d : Cl) (e : Evt) (l : List Ou) (i : Nat) (x : Int) (hx : m.n0.last[i]? = some x) (k : Nat) (z0 : (decide ((↑i : Int) < (↑(m.n0.last.length) : Int))) = true) (z1 : (decide ((↑i : Int) < (↑(m.s0.last.length) : Int))) = false) : ax (EE (k + 1)) (HH 48) NN (LB PP 48 2) 1 0 (xS m c d e l (↑i : Int)) (xS m c d e l (IntKind.wrap .i64 ((↑i : Int) + 1))) :=
  nx (eb z0 <| ep (rz i) <| ep (ao (f := eI) hx) <| eg (G.idx i [ii x]) <| ep (rz 0) <| eg (G.at 0) <| ep (af (eI) m.s0.last) <| eg (G.len (m.s0.last.length)) <| GZ z1 <| eb2 z1 <| ef <| e0)
def nK (m : Mm) (c : Cl) (d : Cl) (e : Evt) (l : List Ou) (i : Nat) : St := St.mk (T.k (K.v (V.ptr 0 0)) :: tc (ii 0) :: hs 12 (tc (C.slice 1 (List.map eI m.n0.last)) :: tc (ii (↑(m.n0.last.length) : Int)) :: tc (ii (↑i : Int)) :: tc (bo (decide ((↑i : Int) < (↑(m.n0.last.length) : Int)))) :: hs 30 [])) [(List.map V.c (Mm.cs m) ++ (List.map V.c (Cl.cs c) ++ (List.map V.c (Cl.cs d) ++ (List.map V.c (Evt.cs e) ++ [V.c (C.slice 5 (List.map Ou.cs l))]))))] []
theorem C1 (m : Mm) (c : Cl) (d : Cl) (e : Evt) (l : List Ou) (i : Nat) (k : Nat) (z0 : (decide ((↑i : Int) < (↑(m.n0.last.length) : Int))) = false) : bj (EE (k + 1)) (HH 48) NN (LB PP 48 2) (xS m c d e l (↑i : Int)) (Ext.exit 0) (nK m c d e l i) :=
  ou (eb z0 <| e0)
theorem HT (m : Mm) (c : Cl) (d : Cl) (e : Evt) (l : List Ou) (i : Nat) (x : Int) (y : Int) (hL : ∀ k, aA (EE (k + 1)) (HH 48) NN (LB PP 48 2) (xS m c d e l 0) Ext.ret (oM m c d e l i x y)) (k : Nat) : ag PP GL XX HH NN (k + 2) 48 [A.imp 0, A.c (ii 0)] [Sp.cs (Sp.mk m c d e l)] = some ([Res.c (bo true)], [Sp.cs (Sp.mk m c d e l)]) := by
  exact rti (ep (rz 0) <| eg (G.at 0) <| ep (af (eI) m.n0.last) <| eg (G.len (m.n0.last.length)) <| eg (G.loop Ext.ret (oM m c d e l i x y)) <| ep (hL k) <| e0) (rs := [Res.c (bo true)]) (ims' := [((Mm.cs m) ++ (Cl.cs c ++ (Cl.cs d ++ (Evt.cs e ++ [C.slice 5 (List.map Ou.cs l)]))))]) rfl
theorem Hh (m : Mm) (c : Cl) (d : Cl) (e : Evt) (l : List Ou) (i : Nat) (hL : ∀ k, aA (EE (k + 1)) (HH 48) NN (LB PP 48 2) (xS m c d e l 0) (Ext.exit 0) (nK m c d e l i)) (k : Nat) : ag PP GL XX HH NN (k + 2) 48 [A.imp 0, A.c (ii 0)] [Sp.cs (Sp.mk m c d e l)] = some ([Res.c (bo false)], [Sp.cs (Sp.mk m c d e l)]) := by
  exact rti (ep (rz 0) <| eg (G.at 0) <| ep (af (eI) m.n0.last) <| eg (G.len (m.n0.last.length)) <| eg (G.loop (Ext.exit 0) (nK m c d e l i)) <| ep (hL k) <| e0) (rs := [Res.c (bo false)]) (ims' := [((Mm.cs m) ++ (Cl.cs c ++ (Cl.cs d ++ (Evt.cs e ++ [C.slice 5 (List.map Ou.cs l)]))))]) rfl
theorem Ak (m : Mm) (c d : Cl) (e : Evt) (l : List Ou) (hb : m.n0.last.length ≤ 1000000) (k : Nat) : ag PP GL XX HH NN (k + 2) 48 [.imp 0, .c (ii 0)] [Sp.cs ⟨m, c, d, e, l⟩] = some ([.c (bo (gY m.n0 m.s0))], [Sp.cs ⟨m, c, d, e, l⟩]) := by
  rw [← ko]
  have hget : ∀ (j q : Nat), (List.range m.n0.last.length)[j]? = some q → q = j ∧ j < m.n0.last.length := fun j q h => eu h
  rcases gA (E := fun k => EE (k + 1)) (H := HH 48) (n := NN) (b := LB PP 48 2) (fun j => xS m c d e l (j : Nat)) (List.range m.n0.last.length) (pLa m.n0 m.s0) (fun j q => oM m c d e l j (m.n0.last.getD j 0) (m.s0.last.getD j 0)) (nK m c d e l m.n0.last.length) (nv := 1) (nt := 0) (e := .ret) (e' := .exit 0) (by kernel_rfl) (by kernel_rfl)
    (fun k j q hq hp => by
      obtain ⟨rfl, hj⟩ := hget j q hq
      have hx : m.n0.last[q]? = some (m.n0.last.getD q 0) := by rw [List.getD_eq_getElem?_getD, List.getElem?_eq_getElem hj]; rfl
      cases hd : decide ((q : Int) < (m.s0.last.length : Int)) with
      | false =>
        have := Eh m c d e l q _ hx k (dlt hx) hd
        rwa [mq hx (by omega)] at this
      | true =>
        have h2 : q < m.s0.last.length := by have := of_decide_eq_true hd; omega
        have hy : m.s0.last[q]? = some (m.s0.last.getD q 0) := by rw [List.getD_eq_getElem?_getD, List.getElem?_eq_getElem h2]; rfl
        unfold pLa at hp
        rw [hd, Bool.true_and] at hp
        have := DP m c d e l q _ _ hx hy k (dlt hx) hd hp
        rwa [mq hx (by omega)] at this)
    (fun k j q hq hp => by
      obtain ⟨rfl, hj⟩ := hget j q hq
      have hx : m.n0.last[q]? = some (m.n0.last.getD q 0) := by rw [List.getD_eq_getElem?_getD, List.getElem?_eq_getElem hj]; rfl
      unfold pLa at hp
      rw [Bool.and_eq_true] at hp
      have h2 : q < m.s0.last.length := by have := of_decide_eq_true hp.1; omega
      have hy : m.s0.last[q]? = some (m.s0.last.getD q 0) := by rw [List.getD_eq_getElem?_getD, List.getElem?_eq_getElem h2]; rfl
      exact Ee m c d e l q _ _ hx hy k (dlt hx) hp.1 hp.2)
    (fun k => by rw [List.length_range]; exact C1 m c d e l _ k dge) (by rw [List.length_range]; unfold NN; omega) with ⟨h1, h2⟩ | ⟨h1, j, q, hy, hp, hf, _, h2⟩
  · rw [h1]; exact Hh m c d e l _ h2 k
  · rw [h1]; exact HT m c d e l j _ _ h2 k
theorem Ar (m : Mm) (c : Cl) (d : Cl) (e : Evt) (l : List Ou) (b : Su) (hb : m.n0.last.length ≤ 1000000) (k : Nat) : ag PP GL XX HH NN (k + 3) 22 [A.imp 0, A.c (ii 0), A.agg (Su.cs b)] [Sp.cs (Sp.mk m c d e l)] = some ([], [Sp.cs (Sp.mk (dg m b) c d e l)]) := by
  rcases bft b.inc with z0 | z0
  · exact rti (eb z0 <| ep (rz 0) <| eg (G.at 0) <| ep (rz 0) <| eg (G.at 0) <| e0) (rs := []) (ims' := [([C.slice 1 (List.map eS m.n0.acked), C.slice 1 (List.map eL m.n0.begun), C.slice 1 (List.map eI m.n0.last), C.slice 1 (List.map eS m.n1.acked), C.slice 1 (List.map eL m.n1.begun), C.slice 1 (List.map eI m.n1.last), C.slice 1 (List.map eS m.s0.acked), C.slice 1 (List.map eL m.s0.begun), C.slice 1 (List.map eI m.s0.last), C.slice 1 (List.map eS m.s1.acked), C.slice 1 (List.map eL m.s1.begun), C.slice 1 (List.map eI m.s1.last), bo true, bo m.h1, bo b.dis, bo m.d1, bo m.w0.on, ii m.w0.id, ii m.w0.block, st m.w0.data, bo m.w1.on, ii m.w1.id, ii m.w1.block, st m.w1.data, ii m.count, ii m.lost] ++ (Cl.cs c ++ (Cl.cs d ++ (Evt.cs e ++ [C.slice 5 (List.map Ou.cs l)]))))]) (by first | (simp only [dg, z0, vq] <;> rfl) | (simp_all only [dg, vq] <;> rfl))
  · rcases bft m.h0 with z1 | z1
    · rcases bft m.d0 with z2 | z2
      · exact rti (eb z0 <| ep (rz 0) <| eg (G.at 0) <| eb z1 <| ep (rz 0) <| eg (G.at 0) <| en4 z2 <| ef <| ep (rz 0) <| eg (G.at 0) <| ep (rz 0) <| eg (G.at 0) <| ep (rz 0) <| eg (G.at 0) <| ep (rz 0) <| eg (G.at 0) <| e0) (rs := []) (ims' := [([C.slice 1 (List.map eS m.s0.acked), C.slice 1 (List.map eL m.s0.begun), C.slice 1 (List.map eI m.s0.last), C.slice 1 (List.map eS m.n1.acked), C.slice 1 (List.map eL m.n1.begun), C.slice 1 (List.map eI m.n1.last), C.slice 1 (List.map eS m.s0.acked), C.slice 1 (List.map eL m.s0.begun), C.slice 1 (List.map eI m.s0.last), C.slice 1 (List.map eS m.s1.acked), C.slice 1 (List.map eL m.s1.begun), C.slice 1 (List.map eI m.s1.last), bo false, bo m.h1, bo b.dis, bo m.d1, bo m.w0.on, ii m.w0.id, ii m.w0.block, st m.w0.data, bo m.w1.on, ii m.w1.id, ii m.w1.block, st m.w1.data, ii m.count, ii m.lost] ++ (Cl.cs c ++ (Cl.cs d ++ (Evt.cs e ++ [C.slice 5 (List.map Ou.cs l)]))))]) (by first | (simp only [dg, z0, z1, z2, vq] <;> rfl) | (simp_all only [dg, vq] <;> rfl))
      · rcases bft (gY m.n0 m.s0) with z3 | z3
        · exact rti (eb z0 <| ep (rz 0) <| eg (G.at 0) <| eb z1 <| ep (rz 0) <| eg (G.at 0) <| en3 z2 <| ec (Ak m c d e l hb k) <| en z2 <| eb z3 <| ep (rz 0) <| eg (G.at 0) <| ep (rz 0) <| eg (G.at 0) <| ep (rz 0) <| eg (G.at 0) <| ep (rz 0) <| eg (G.at 0) <| e0) (rs := []) (ims' := [([C.slice 1 (List.map eS m.s0.acked), C.slice 1 (List.map eL m.s0.begun), C.slice 1 (List.map eI m.s0.last), C.slice 1 (List.map eS m.n1.acked), C.slice 1 (List.map eL m.n1.begun), C.slice 1 (List.map eI m.n1.last), C.slice 1 (List.map eS m.s0.acked), C.slice 1 (List.map eL m.s0.begun), C.slice 1 (List.map eI m.s0.last), C.slice 1 (List.map eS m.s1.acked), C.slice 1 (List.map eL m.s1.begun), C.slice 1 (List.map eI m.s1.last), bo false, bo m.h1, bo b.dis, bo m.d1, bo m.w0.on, ii m.w0.id, ii m.w0.block, st m.w0.data, bo m.w1.on, ii m.w1.id, ii m.w1.block, st m.w1.data, ii m.count, ii (IntKind.wrap .i64 (Mm.lost m + 1))] ++ (Cl.cs c ++ (Cl.cs d ++ (Evt.cs e ++ [C.slice 5 (List.map Ou.cs l)]))))]) (by first | (simp only [dg, z0, z1, z2, z3, vq] <;> rfl) | (simp_all only [dg, vq] <;> rfl))
        · exact rti (eb z0 <| ep (rz 0) <| eg (G.at 0) <| eb z1 <| ep (rz 0) <| eg (G.at 0) <| en3 z2 <| ec (Ak m c d e l hb k) <| en z2 <| eb z3 <| ep (rz 0) <| eg (G.at 0) <| ep (rz 0) <| eg (G.at 0) <| ep (rz 0) <| eg (G.at 0) <| ep (rz 0) <| eg (G.at 0) <| e0) (rs := []) (ims' := [([C.slice 1 (List.map eS m.s0.acked), C.slice 1 (List.map eL m.s0.begun), C.slice 1 (List.map eI m.s0.last), C.slice 1 (List.map eS m.n1.acked), C.slice 1 (List.map eL m.n1.begun), C.slice 1 (List.map eI m.n1.last), C.slice 1 (List.map eS m.s0.acked), C.slice 1 (List.map eL m.s0.begun), C.slice 1 (List.map eI m.s0.last), C.slice 1 (List.map eS m.s1.acked), C.slice 1 (List.map eL m.s1.begun), C.slice 1 (List.map eI m.s1.last), bo false, bo m.h1, bo b.dis, bo m.d1, bo m.w0.on, ii m.w0.id, ii m.w0.block, st m.w0.data, bo m.w1.on, ii m.w1.id, ii m.w1.block, st m.w1.data, ii m.count, ii m.lost] ++ (Cl.cs c ++ (Cl.cs d ++ (Evt.cs e ++ [C.slice 5 (List.map Ou.cs l)]))))]) (by first | (simp only [dg, z0, z1, z2, z3, vq] <;> rfl) | (simp_all only [dg, vq] <;> rfl))
    · exact rti (eb z0 <| ep (rz 0) <| eg (G.at 0) <| eb z1 <| ep (rz 0) <| eg (G.at 0) <| e0) (rs := []) (ims' := [([C.slice 1 (List.map eS m.n0.acked), C.slice 1 (List.map eL m.n0.begun), C.slice 1 (List.map eI m.n0.last), C.slice 1 (List.map eS m.n1.acked), C.slice 1 (List.map eL m.n1.begun), C.slice 1 (List.map eI m.n1.last), C.slice 1 (List.map eS m.s0.acked), C.slice 1 (List.map eL m.s0.begun), C.slice 1 (List.map eI m.s0.last), C.slice 1 (List.map eS m.s1.acked), C.slice 1 (List.map eL m.s1.begun), C.slice 1 (List.map eI m.s1.last), bo m.h0, bo m.h1, bo b.dis, bo m.d1, bo m.w0.on, ii m.w0.id, ii m.w0.block, st m.w0.data, bo m.w1.on, ii m.w1.id, ii m.w1.block, st m.w1.data, ii m.count, ii m.lost] ++ (Cl.cs c ++ (Cl.cs d ++ (Evt.cs e ++ [C.slice 5 (List.map Ou.cs l)]))))]) (by first | (simp only [dg, z0, z1, vq] <;> rfl) | (simp_all only [dg, vq] <;> rfl))
def x9 (m : Mm) (c : Cl) (d : Cl) (e : Evt) (l : List Ou) (c0 : Int) : St := St.mk (T.k (K.v (V.ptr 0 0)) :: tc (ii 1) :: hs 12 (tc (C.slice 1 (List.map eI m.n1.last)) :: tc (ii (↑(m.n1.last.length) : Int)) :: tc (ii c0) :: hs 31 [])) [(List.map V.c (Mm.cs m) ++ (List.map V.c (Cl.cs c) ++ (List.map V.c (Cl.cs d) ++ (List.map V.c (Evt.cs e) ++ [V.c (C.slice 5 (List.map Ou.cs l))]))))] []
def ny (m : Mm) (c : Cl) (d : Cl) (e : Evt) (l : List Ou) (i : Nat) (x : Int) (y : Int) : St := St.mk (T.k (K.v (V.ptr 0 0)) :: tc (ii 1) :: T.hole :: T.hole :: tc (bo true) :: tc (ii (↑i : Int)) :: tc (ii x) :: hs 7 [tc (C.slice 1 (List.map eI m.n1.last)), tc (ii (↑(m.n1.last.length) : Int)), tc (ii (↑i : Int)), tc (bo (decide ((↑i : Int) < (↑(m.n1.last.length) : Int)))), tc (ii (↑i : Int)), tc (C.rptr [ii x]), tc (ii x), tc (ii (↑i : Int)), T.k (K.v (V.ptr 0 0)), tc (ii 1), T.k (K.v (V.ptr 0 0)), T.k (K.v (V.ptr 0 0)), T.k (K.v (V.ptr 0 6)), T.k (K.v (V.ptr 0 9)), T.k (K.v (V.ptr 0 11)), tc (C.slice 1 (List.map eI m.s1.last)), tc (ii (↑(m.s1.last.length) : Int)), tc (bo (decide ((↑i : Int) < (↑(m.s1.last.length) : Int)))), tc (bo (decide ((↑i : Int) < (↑(m.s1.last.length) : Int)))), tc (ii x), T.k (K.v (V.ptr 0 0)), tc (ii 1), T.k (K.v (V.ptr 0 0)), T.k (K.v (V.ptr 0 0)), T.k (K.v (V.ptr 0 6)), T.k (K.v (V.ptr 0 9)), T.k (K.v (V.ptr 0 11)), tc (C.slice 1 (List.map eI m.s1.last)), tc (ii (↑i : Int)), tc (C.rptr [ii y]), tc (ii y), tc (bo (decide (x > y))), tc (bo (decide (x > y))), T.hole]) [(List.map V.c (Mm.cs m) ++ (List.map V.c (Cl.cs c) ++ (List.map V.c (Cl.cs d) ++ (List.map V.c (Evt.cs e) ++ [V.c (C.slice 5 (List.map Ou.cs l))]))))] []
theorem C8 (m : Mm) (c : Cl) (d : Cl) (e : Evt) (l : List Ou) (i : Nat) (x : Int) (y : Int) (hx : m.n1.last[i]? = some x) (hy : m.s1.last[i]? = some y) (k : Nat) (z0 : (decide ((↑i : Int) < (↑(m.n1.last.length) : Int))) = true) (z1 : (decide ((↑i : Int) < (↑(m.s1.last.length) : Int))) = true) (z2 : (decide (x > y)) = true) : bj (EE (k + 1)) (HH 48) NN (LB PP 48 2) (x9 m c d e l (↑i : Int)) (Ext.ret) (ny m c d e l i x y) :=
  ou (eb z0 <| ep (rz i) <| ep (ao (f := eI) hx) <| eg (G.idx i [ii x]) <| ep (rz 1) <| eg (G.at 1) <| ep (af (eI) m.s1.last) <| eg (G.len (m.s1.last.length)) <| eb7 z1 <| ep (rz 1) <| eg (G.at 1) <| eb4 z1 <| ep (rz i) <| ep (ao (f := eI) hy) <| eg (G.idx i [ii y]) <| eb3 z1 <| eb z2 <| e0)
theorem Di (m : Mm) (c : Cl) (d : Cl) (e : Evt) (l : List Ou) (i : Nat) (x : Int) (y : Int) (hx : m.n1.last[i]? = some x) (hy : m.s1.last[i]? = some y) (k : Nat) (z0 : (decide ((↑i : Int) < (↑(m.n1.last.length) : Int))) = true) (z1 : (decide ((↑i : Int) < (↑(m.s1.last.length) : Int))) = true) (z2 : (decide (x > y)) = false) : ax (EE (k + 1)) (HH 48) NN (LB PP 48 2) 1 0 (x9 m c d e l (↑i : Int)) (x9 m c d e l (IntKind.wrap .i64 ((↑i : Int) + 1))) :=
  nx (eb z0 <| ep (rz i) <| ep (ao (f := eI) hx) <| eg (G.idx i [ii x]) <| ep (rz 1) <| eg (G.at 1) <| ep (af (eI) m.s1.last) <| eg (G.len (m.s1.last.length)) <| eb7 z1 <| ep (rz 1) <| eg (G.at 1) <| eb4 z1 <| ep (rz i) <| ep (ao (f := eI) hy) <| eg (G.idx i [ii y]) <| eb3 z1 <| eb z2 <| e0)
theorem DU (m : Mm) (c : Cl) (d : Cl) (e : Evt) (l : List Ou) (i : Nat) (x : Int) (hx : m.n1.last[i]? = some x) (k : Nat) (z0 : (decide ((↑i : Int) < (↑(m.n1.last.length) : Int))) = true) (z1 : (decide ((↑i : Int) < (↑(m.s1.last.length) : Int))) = false) : ax (EE (k + 1)) (HH 48) NN (LB PP 48 2) 1 0 (x9 m c d e l (↑i : Int)) (x9 m c d e l (IntKind.wrap .i64 ((↑i : Int) + 1))) :=
  nx (eb z0 <| ep (rz i) <| ep (ao (f := eI) hx) <| eg (G.idx i [ii x]) <| ep (rz 1) <| eg (G.at 1) <| ep (af (eI) m.s1.last) <| eg (G.len (m.s1.last.length)) <| GZ z1 <| eb2 z1 <| ef <| e0)
def nC (m : Mm) (c : Cl) (d : Cl) (e : Evt) (l : List Ou) (i : Nat) : St := St.mk (T.k (K.v (V.ptr 0 0)) :: tc (ii 1) :: hs 12 (tc (C.slice 1 (List.map eI m.n1.last)) :: tc (ii (↑(m.n1.last.length) : Int)) :: tc (ii (↑i : Int)) :: tc (bo (decide ((↑i : Int) < (↑(m.n1.last.length) : Int)))) :: hs 30 [])) [(List.map V.c (Mm.cs m) ++ (List.map V.c (Cl.cs c) ++ (List.map V.c (Cl.cs d) ++ (List.map V.c (Evt.cs e) ++ [V.c (C.slice 5 (List.map Ou.cs l))]))))] []
theorem C7 (m : Mm) (c : Cl) (d : Cl) (e : Evt) (l : List Ou) (i : Nat) (k : Nat) (z0 : (decide ((↑i : Int) < (↑(m.n1.last.length) : Int))) = false) : bj (EE (k + 1)) (HH 48) NN (LB PP 48 2) (x9 m c d e l (↑i : Int)) (Ext.exit 0) (nC m c d e l i) :=
  ou (eb z0 <| e0)
theorem Hg (m : Mm) (c : Cl) (d : Cl) (e : Evt) (l : List Ou) (i : Nat) (x : Int) (y : Int) (hL : ∀ k, aA (EE (k + 1)) (HH 48) NN (LB PP 48 2) (x9 m c d e l 0) Ext.ret (ny m c d e l i x y)) (k : Nat) : ag PP GL XX HH NN (k + 2) 48 [A.imp 0, A.c (ii 1)] [Sp.cs (Sp.mk m c d e l)] = some ([Res.c (bo true)], [Sp.cs (Sp.mk m c d e l)]) := by
  exact rti (ep (rz 1) <| eg (G.at 1) <| ep (af (eI) m.n1.last) <| eg (G.len (m.n1.last.length)) <| eg (G.loop Ext.ret (ny m c d e l i x y)) <| ep (hL k) <| e0) (rs := [Res.c (bo true)]) (ims' := [((Mm.cs m) ++ (Cl.cs c ++ (Cl.cs d ++ (Evt.cs e ++ [C.slice 5 (List.map Ou.cs l)]))))]) rfl
theorem HM (m : Mm) (c : Cl) (d : Cl) (e : Evt) (l : List Ou) (i : Nat) (hL : ∀ k, aA (EE (k + 1)) (HH 48) NN (LB PP 48 2) (x9 m c d e l 0) (Ext.exit 0) (nC m c d e l i)) (k : Nat) : ag PP GL XX HH NN (k + 2) 48 [A.imp 0, A.c (ii 1)] [Sp.cs (Sp.mk m c d e l)] = some ([Res.c (bo false)], [Sp.cs (Sp.mk m c d e l)]) := by
  exact rti (ep (rz 1) <| eg (G.at 1) <| ep (af (eI) m.n1.last) <| eg (G.len (m.n1.last.length)) <| eg (G.loop (Ext.exit 0) (nC m c d e l i)) <| ep (hL k) <| e0) (rs := [Res.c (bo false)]) (ims' := [((Mm.cs m) ++ (Cl.cs c ++ (Cl.cs d ++ (Evt.cs e ++ [C.slice 5 (List.map Ou.cs l)]))))]) rfl
theorem zM (m : Mm) (c d : Cl) (e : Evt) (l : List Ou) (hb : m.n1.last.length ≤ 1000000) (k : Nat) : ag PP GL XX HH NN (k + 2) 48 [.imp 0, .c (ii 1)] [Sp.cs ⟨m, c, d, e, l⟩] = some ([.c (bo (gY m.n1 m.s1))], [Sp.cs ⟨m, c, d, e, l⟩]) := by
  rw [← ko]
  have hget : ∀ (j q : Nat), (List.range m.n1.last.length)[j]? = some q → q = j ∧ j < m.n1.last.length := fun j q h => eu h
  rcases gA (E := fun k => EE (k + 1)) (H := HH 48) (n := NN) (b := LB PP 48 2) (fun j => x9 m c d e l (j : Nat)) (List.range m.n1.last.length) (pLa m.n1 m.s1) (fun j q => ny m c d e l j (m.n1.last.getD j 0) (m.s1.last.getD j 0)) (nC m c d e l m.n1.last.length) (nv := 1) (nt := 0) (e := .ret) (e' := .exit 0) (by kernel_rfl) (by kernel_rfl)
    (fun k j q hq hp => by
      obtain ⟨rfl, hj⟩ := hget j q hq
      have hx : m.n1.last[q]? = some (m.n1.last.getD q 0) := by rw [List.getD_eq_getElem?_getD, List.getElem?_eq_getElem hj]; rfl
      cases hd : decide ((q : Int) < (m.s1.last.length : Int)) with
      | false =>
        have := DU m c d e l q _ hx k (dlt hx) hd
        rwa [mq hx (by omega)] at this
      | true =>
        have h2 : q < m.s1.last.length := by have := of_decide_eq_true hd; omega
        have hy : m.s1.last[q]? = some (m.s1.last.getD q 0) := by rw [List.getD_eq_getElem?_getD, List.getElem?_eq_getElem h2]; rfl
        unfold pLa at hp
        rw [hd, Bool.true_and] at hp
        have := Di m c d e l q _ _ hx hy k (dlt hx) hd hp
        rwa [mq hx (by omega)] at this)
    (fun k j q hq hp => by
      obtain ⟨rfl, hj⟩ := hget j q hq
      have hx : m.n1.last[q]? = some (m.n1.last.getD q 0) := by rw [List.getD_eq_getElem?_getD, List.getElem?_eq_getElem hj]; rfl
      unfold pLa at hp
      rw [Bool.and_eq_true] at hp
      have h2 : q < m.s1.last.length := by have := of_decide_eq_true hp.1; omega
      have hy : m.s1.last[q]? = some (m.s1.last.getD q 0) := by rw [List.getD_eq_getElem?_getD, List.getElem?_eq_getElem h2]; rfl
      exact C8 m c d e l q _ _ hx hy k (dlt hx) hp.1 hp.2)
    (fun k => by rw [List.length_range]; exact C7 m c d e l _ k dge) (by rw [List.length_range]; unfold NN; omega) with ⟨h1, h2⟩ | ⟨h1, j, q, hy, hp, hf, _, h2⟩
  · rw [h1]; exact HM m c d e l _ h2 k
  · rw [h1]; exact Hg m c d e l j _ _ h2 k
theorem Ag (m : Mm) (c : Cl) (d : Cl) (e : Evt) (l : List Ou) (b : Su) (hb : m.n1.last.length ≤ 1000000) (k : Nat) : ag PP GL XX HH NN (k + 3) 22 [A.imp 0, A.c (ii 1), A.agg (Su.cs b)] [Sp.cs (Sp.mk m c d e l)] = some ([], [Sp.cs (Sp.mk (dz m b) c d e l)]) := by
  rcases bft b.inc with z0 | z0
  · exact rti (eb z0 <| ep (rz 1) <| eg (G.at 1) <| ep (rz 1) <| eg (G.at 1) <| e0) (rs := []) (ims' := [([C.slice 1 (List.map eS m.n0.acked), C.slice 1 (List.map eL m.n0.begun), C.slice 1 (List.map eI m.n0.last), C.slice 1 (List.map eS m.n1.acked), C.slice 1 (List.map eL m.n1.begun), C.slice 1 (List.map eI m.n1.last), C.slice 1 (List.map eS m.s0.acked), C.slice 1 (List.map eL m.s0.begun), C.slice 1 (List.map eI m.s0.last), C.slice 1 (List.map eS m.s1.acked), C.slice 1 (List.map eL m.s1.begun), C.slice 1 (List.map eI m.s1.last), bo m.h0, bo true, bo m.d0, bo b.dis, bo m.w0.on, ii m.w0.id, ii m.w0.block, st m.w0.data, bo m.w1.on, ii m.w1.id, ii m.w1.block, st m.w1.data, ii m.count, ii m.lost] ++ (Cl.cs c ++ (Cl.cs d ++ (Evt.cs e ++ [C.slice 5 (List.map Ou.cs l)]))))]) (by first | (simp only [dz, z0, vq] <;> rfl) | (simp_all only [dz, vq] <;> rfl))
  · rcases bft m.h1 with z1 | z1
    · rcases bft m.d1 with z2 | z2
      · exact rti (eb z0 <| ep (rz 1) <| eg (G.at 1) <| eb z1 <| ep (rz 1) <| eg (G.at 1) <| en4 z2 <| ef <| ep (rz 1) <| eg (G.at 1) <| ep (rz 1) <| eg (G.at 1) <| ep (rz 1) <| eg (G.at 1) <| ep (rz 1) <| eg (G.at 1) <| e0) (rs := []) (ims' := [([C.slice 1 (List.map eS m.n0.acked), C.slice 1 (List.map eL m.n0.begun), C.slice 1 (List.map eI m.n0.last), C.slice 1 (List.map eS m.s1.acked), C.slice 1 (List.map eL m.s1.begun), C.slice 1 (List.map eI m.s1.last), C.slice 1 (List.map eS m.s0.acked), C.slice 1 (List.map eL m.s0.begun), C.slice 1 (List.map eI m.s0.last), C.slice 1 (List.map eS m.s1.acked), C.slice 1 (List.map eL m.s1.begun), C.slice 1 (List.map eI m.s1.last), bo m.h0, bo false, bo m.d0, bo b.dis, bo m.w0.on, ii m.w0.id, ii m.w0.block, st m.w0.data, bo m.w1.on, ii m.w1.id, ii m.w1.block, st m.w1.data, ii m.count, ii m.lost] ++ (Cl.cs c ++ (Cl.cs d ++ (Evt.cs e ++ [C.slice 5 (List.map Ou.cs l)]))))]) (by first | (simp only [dz, z0, z1, z2, vq] <;> rfl) | (simp_all only [dz, vq] <;> rfl))
      · rcases bft (gY m.n1 m.s1) with z3 | z3
        · exact rti (eb z0 <| ep (rz 1) <| eg (G.at 1) <| eb z1 <| ep (rz 1) <| eg (G.at 1) <| en3 z2 <| ec (zM m c d e l hb k) <| en z2 <| eb z3 <| ep (rz 1) <| eg (G.at 1) <| ep (rz 1) <| eg (G.at 1) <| ep (rz 1) <| eg (G.at 1) <| ep (rz 1) <| eg (G.at 1) <| e0) (rs := []) (ims' := [([C.slice 1 (List.map eS m.n0.acked), C.slice 1 (List.map eL m.n0.begun), C.slice 1 (List.map eI m.n0.last), C.slice 1 (List.map eS m.s1.acked), C.slice 1 (List.map eL m.s1.begun), C.slice 1 (List.map eI m.s1.last), C.slice 1 (List.map eS m.s0.acked), C.slice 1 (List.map eL m.s0.begun), C.slice 1 (List.map eI m.s0.last), C.slice 1 (List.map eS m.s1.acked), C.slice 1 (List.map eL m.s1.begun), C.slice 1 (List.map eI m.s1.last), bo m.h0, bo false, bo m.d0, bo b.dis, bo m.w0.on, ii m.w0.id, ii m.w0.block, st m.w0.data, bo m.w1.on, ii m.w1.id, ii m.w1.block, st m.w1.data, ii m.count, ii (IntKind.wrap .i64 (Mm.lost m + 1))] ++ (Cl.cs c ++ (Cl.cs d ++ (Evt.cs e ++ [C.slice 5 (List.map Ou.cs l)]))))]) (by first | (simp only [dz, z0, z1, z2, z3, vq] <;> rfl) | (simp_all only [dz, vq] <;> rfl))
        · exact rti (eb z0 <| ep (rz 1) <| eg (G.at 1) <| eb z1 <| ep (rz 1) <| eg (G.at 1) <| en3 z2 <| ec (zM m c d e l hb k) <| en z2 <| eb z3 <| ep (rz 1) <| eg (G.at 1) <| ep (rz 1) <| eg (G.at 1) <| ep (rz 1) <| eg (G.at 1) <| ep (rz 1) <| eg (G.at 1) <| e0) (rs := []) (ims' := [([C.slice 1 (List.map eS m.n0.acked), C.slice 1 (List.map eL m.n0.begun), C.slice 1 (List.map eI m.n0.last), C.slice 1 (List.map eS m.s1.acked), C.slice 1 (List.map eL m.s1.begun), C.slice 1 (List.map eI m.s1.last), C.slice 1 (List.map eS m.s0.acked), C.slice 1 (List.map eL m.s0.begun), C.slice 1 (List.map eI m.s0.last), C.slice 1 (List.map eS m.s1.acked), C.slice 1 (List.map eL m.s1.begun), C.slice 1 (List.map eI m.s1.last), bo m.h0, bo false, bo m.d0, bo b.dis, bo m.w0.on, ii m.w0.id, ii m.w0.block, st m.w0.data, bo m.w1.on, ii m.w1.id, ii m.w1.block, st m.w1.data, ii m.count, ii m.lost] ++ (Cl.cs c ++ (Cl.cs d ++ (Evt.cs e ++ [C.slice 5 (List.map Ou.cs l)]))))]) (by first | (simp only [dz, z0, z1, z2, z3, vq] <;> rfl) | (simp_all only [dz, vq] <;> rfl))
    · exact rti (eb z0 <| ep (rz 1) <| eg (G.at 1) <| eb z1 <| ep (rz 1) <| eg (G.at 1) <| e0) (rs := []) (ims' := [([C.slice 1 (List.map eS m.n0.acked), C.slice 1 (List.map eL m.n0.begun), C.slice 1 (List.map eI m.n0.last), C.slice 1 (List.map eS m.n1.acked), C.slice 1 (List.map eL m.n1.begun), C.slice 1 (List.map eI m.n1.last), C.slice 1 (List.map eS m.s0.acked), C.slice 1 (List.map eL m.s0.begun), C.slice 1 (List.map eI m.s0.last), C.slice 1 (List.map eS m.s1.acked), C.slice 1 (List.map eL m.s1.begun), C.slice 1 (List.map eI m.s1.last), bo m.h0, bo m.h1, bo m.d0, bo b.dis, bo m.w0.on, ii m.w0.id, ii m.w0.block, st m.w0.data, bo m.w1.on, ii m.w1.id, ii m.w1.block, st m.w1.data, ii m.count, ii m.lost] ++ (Cl.cs c ++ (Cl.cs d ++ (Evt.cs e ++ [C.slice 5 (List.map Ou.cs l)]))))]) (by first | (simp only [dz, z0, z1, vq] <;> rfl) | (simp_all only [dz, vq] <;> rfl))
end Go.Dm
namespace Go.Dm
open Go
set_option maxHeartbeats 1000000
set_option maxHeartbeats 0
theorem Eo (m : Mm) (c : Cl) (d : Cl) (e : Evt) (l : List Ou) (hk : (Evt.kind e == 5) = false) (k : Nat) : ag PP GL XX HH NN (k + 6) 20 [A.imp 0] [Sp.cs (Sp.mk m c d e l)] = some ([], [Sp.cs (Sp.mk m c d e l)]) := by
  exact rti (en6 hk <| et6 <| e0) (rs := []) (ims' := [((Mm.cs m) ++ (Cl.cs c ++ (Cl.cs d ++ (Evt.cs e ++ [C.slice 5 (List.map Ou.cs l)]))))]) rfl
theorem Ez (m : Mm) (c : Cl) (d : Cl) (e : Evt) (l : List Ou) (q0 : (Evt.node e == 0) = false) (q1 : (Evt.node e == 1) = false) (k : Nat) : ag PP GL XX HH NN (k + 6) 20 [A.imp 0] [Sp.cs (Sp.mk m c d e l)] = some ([], [Sp.cs (Sp.mk m c d e l)]) := by
  rcases bft (Evt.kind e == 5) with z0 | z0
  · exact rti (en4 z0 <| en3 q0 <| en z0 <| en q0 <| en z0 <| en5 q1 <| et <| e0) (rs := []) (ims' := [((Mm.cs m) ++ (Cl.cs c ++ (Cl.cs d ++ (Evt.cs e ++ [C.slice 5 (List.map Ou.cs l)]))))]) (by first | (simp only [z0, vq] <;> rfl) | (simp_all only [vq] <;> rfl))
  · exact rti (en6 z0 <| et6 <| e0) (rs := []) (ims' := [((Mm.cs m) ++ (Cl.cs c ++ (Cl.cs d ++ (Evt.cs e ++ [C.slice 5 (List.map Ou.cs l)]))))]) (by first | (simp only [z0, vq] <;> rfl) | (simp_all only [vq] <;> rfl))
theorem BP (m : Mm) (c : Cl) (d : Cl) (l : List Ou) (id : Int) (bl : Int) (data : ByteArray) (nn : Int) (ks : List Bool) (hl : l.length ≤ 1000000) (hr : cm l (0 : Int) = true) (k : Nat) : ag PP GL XX HH NN (k + 6) 20 [A.imp 0] [Sp.cs (Sp.mk m c d ((Evt.mk 5 0 id bl data nn ks)) l)] = some ([], [Sp.cs (Sp.mk m c d ((Evt.mk 5 0 id bl data nn ks)) l)]) := by
  exact rti (kj <| ef2 <| ec (fD m c d ((Evt.mk 5 0 id bl data nn ks)) l 0 hl k) <| ef <| eb hr <| e0) (rs := []) (ims' := [((Mm.cs m) ++ (Cl.cs c ++ (Cl.cs d ++ [ii 5, ii 0, ii id, ii bl, st data, u nn, C.slice 1 (List.map eB ks), C.slice 5 (List.map Ou.cs l)])))]) rfl
theorem AR (m : Mm) (c : Cl) (d : Cl) (l : List Ou) (id : Int) (bl : Int) (data : ByteArray) (nn : Int) (ks : List Bool) (m1 : Mm) (hl : l.length ≤ 1000000) (hr : cm l (0 : Int) = false) (hu : Lk.up c.link = false) (hB : ∀ k, ag PP GL XX HH NN (k + 5) 46 [A.imp 0, A.c (ii 0)] [Sp.cs (Sp.mk m c d ((Evt.mk 5 0 id bl data nn ks)) l)] = some ([], [Sp.cs (Sp.mk m1 c d ((Evt.mk 5 0 id bl data nn ks)) l)])) (k : Nat) : ag PP GL XX HH NN (k + 6) 20 [A.imp 0] [Sp.cs (Sp.mk m c d ((Evt.mk 5 0 id bl data nn ks)) l)] = some ([], [Sp.cs (Sp.mk (({ m1 with w0 := (Rq.mk true id bl data) } : Mm)) c d ((Evt.mk 5 0 id bl data nn ks)) l)]) := by
  exact rti (kj <| ef2 <| ec (fD m c d ((Evt.mk 5 0 id bl data nn ks)) l 0 hl k) <| ef <| eb hr <| ec (hB k) <| eb hu <| ep (rz 0) <| eg (G.at 0) <| e0) (rs := []) (ims' := [([C.slice 1 (List.map eS m1.n0.acked), C.slice 1 (List.map eL m1.n0.begun), C.slice 1 (List.map eI m1.n0.last), C.slice 1 (List.map eS m1.n1.acked), C.slice 1 (List.map eL m1.n1.begun), C.slice 1 (List.map eI m1.n1.last), C.slice 1 (List.map eS m1.s0.acked), C.slice 1 (List.map eL m1.s0.begun), C.slice 1 (List.map eI m1.s0.last), C.slice 1 (List.map eS m1.s1.acked), C.slice 1 (List.map eL m1.s1.begun), C.slice 1 (List.map eI m1.s1.last), bo m1.h0, bo m1.h1, bo m1.d0, bo m1.d1, bo true, ii id, ii bl, st data, bo m1.w1.on, ii m1.w1.id, ii m1.w1.block, st m1.w1.data, ii m1.count, ii m1.lost] ++ (Cl.cs c ++ (Cl.cs d ++ [ii 5, ii 0, ii id, ii bl, st data, u nn, C.slice 1 (List.map eB ks), C.slice 5 (List.map Ou.cs l)])))]) rfl
theorem BA (m : Mm) (c : Cl) (d : Cl) (l : List Ou) (id : Int) (bl : Int) (data : ByteArray) (nn : Int) (ks : List Bool) (m1 : Mm) (m2 : Mm) (hl : l.length ≤ 1000000) (hr : cm l (0 : Int) = false) (hu : Lk.up c.link = true) (hB : ∀ k, ag PP GL XX HH NN (k + 5) 46 [A.imp 0, A.c (ii 0)] [Sp.cs (Sp.mk m c d ((Evt.mk 5 0 id bl data nn ks)) l)] = some ([], [Sp.cs (Sp.mk m1 c d ((Evt.mk 5 0 id bl data nn ks)) l)])) (hC : ∀ k, ag PP GL XX HH NN (k + 5) 46 [A.imp 0, A.c (ii 1)] [Sp.cs (Sp.mk m1 c d ((Evt.mk 5 0 id bl data nn ks)) l)] = some ([], [Sp.cs (Sp.mk m2 c d ((Evt.mk 5 0 id bl data nn ks)) l)])) (k : Nat) : ag PP GL XX HH NN (k + 6) 20 [A.imp 0] [Sp.cs (Sp.mk m c d ((Evt.mk 5 0 id bl data nn ks)) l)] = some ([], [Sp.cs (Sp.mk (({ m2 with w0 := (Rq.mk true id bl data) } : Mm)) c d ((Evt.mk 5 0 id bl data nn ks)) l)]) := by
  exact rti (kj <| ef2 <| ec (fD m c d ((Evt.mk 5 0 id bl data nn ks)) l 0 hl k) <| ef <| eb hr <| ec (hB k) <| eb hu <| ec (hC k) <| ep (rz 0) <| eg (G.at 0) <| e0) (rs := []) (ims' := [([C.slice 1 (List.map eS m2.n0.acked), C.slice 1 (List.map eL m2.n0.begun), C.slice 1 (List.map eI m2.n0.last), C.slice 1 (List.map eS m2.n1.acked), C.slice 1 (List.map eL m2.n1.begun), C.slice 1 (List.map eI m2.n1.last), C.slice 1 (List.map eS m2.s0.acked), C.slice 1 (List.map eL m2.s0.begun), C.slice 1 (List.map eI m2.s0.last), C.slice 1 (List.map eS m2.s1.acked), C.slice 1 (List.map eL m2.s1.begun), C.slice 1 (List.map eI m2.s1.last), bo m2.h0, bo m2.h1, bo m2.d0, bo m2.d1, bo true, ii id, ii bl, st data, bo m2.w1.on, ii m2.w1.id, ii m2.w1.block, st m2.w1.data, ii m2.count, ii m2.lost] ++ (Cl.cs c ++ (Cl.cs d ++ [ii 5, ii 0, ii id, ii bl, st data, u nn, C.slice 1 (List.map eB ks), C.slice 5 (List.map Ou.cs l)])))]) rfl
theorem vp (m : Mm) (c : Cl) (d : Cl) (e : Evt) (l : List Ou) (kd : Int) (id : Int) (er : Int) (data : ByteArray) (hn : (kd == 2) = false) (k : Nat) : ag PP GL XX HH NN (k + 3) 21 [A.imp 0, A.agg [ii kd, ii 0, ii id, ii er, st data]] [Sp.cs (Sp.mk m c d e l)] = some ([], [Sp.cs (Sp.mk m c d e l)]) := by
  exact rti (ep (rz 0) <| eg (G.at 0) <| en4 hn <| xO <| et6 <| e0) (rs := []) (ims' := [((Mm.cs m) ++ (Cl.cs c ++ (Cl.cs d ++ (Evt.cs e ++ [C.slice 5 (List.map Ou.cs l)]))))]) rfl
theorem wH (m : Mm) (c : Cl) (d : Cl) (e : Evt) (l : List Ou) (kd : Int) (id : Int) (er : Int) (data : ByteArray) (hn : (er == 0) = false) (k : Nat) : ag PP GL XX HH NN (k + 3) 21 [A.imp 0, A.agg [ii kd, ii 0, ii id, ii er, st data]] [Sp.cs (Sp.mk m c d e l)] = some ([], [Sp.cs (Sp.mk m c d e l)]) := by
  rcases bft (kd == 2) with z0 | z0
  · exact rti (ep (rz 0) <| eg (G.at 0) <| en4 z0 <| en7 hn <| xL <| e0) (rs := []) (ims' := [((Mm.cs m) ++ (Cl.cs c ++ (Cl.cs d ++ (Evt.cs e ++ [C.slice 5 (List.map Ou.cs l)]))))]) (by first | (simp only [z0, vq] <;> rfl) | (simp_all only [vq] <;> rfl))
  · exact rti (ep (rz 0) <| eg (G.at 0) <| en4 z0 <| xO <| et6 <| e0) (rs := []) (ims' := [((Mm.cs m) ++ (Cl.cs c ++ (Cl.cs d ++ (Evt.cs e ++ [C.slice 5 (List.map Ou.cs l)]))))]) (by first | (simp only [z0, vq] <;> rfl) | (simp_all only [vq] <;> rfl))
theorem vh (m : Mm) (c : Cl) (d : Cl) (e : Evt) (l : List Ou) (kd : Int) (id : Int) (er : Int) (data : ByteArray) (hn : (Evt.kind e == 4) = true) (k : Nat) : ag PP GL XX HH NN (k + 3) 21 [A.imp 0, A.agg [ii kd, ii 0, ii id, ii er, st data]] [Sp.cs (Sp.mk m c d e l)] = some ([], [Sp.cs (Sp.mk m c d e l)]) := by
  rcases bft (kd == 2) with z0 | z0
  · rcases bft (er == 0) with z1 | z1
    · exact rti (ep (rz 0) <| eg (G.at 0) <| en4 z0 <| en7 z1 <| eb4 hn <| et7 <| e0) (rs := []) (ims' := [((Mm.cs m) ++ (Cl.cs c ++ (Cl.cs d ++ (Evt.cs e ++ [C.slice 5 (List.map Ou.cs l)]))))]) (by first | (simp only [z0, z1, vq] <;> rfl) | (simp_all only [vq] <;> rfl))
    · exact rti (ep (rz 0) <| eg (G.at 0) <| en4 z0 <| en7 z1 <| xL <| e0) (rs := []) (ims' := [((Mm.cs m) ++ (Cl.cs c ++ (Cl.cs d ++ (Evt.cs e ++ [C.slice 5 (List.map Ou.cs l)]))))]) (by first | (simp only [z0, z1, vq] <;> rfl) | (simp_all only [vq] <;> rfl))
  · exact rti (ep (rz 0) <| eg (G.at 0) <| en4 z0 <| xO <| et6 <| e0) (rs := []) (ims' := [((Mm.cs m) ++ (Cl.cs c ++ (Cl.cs d ++ (Evt.cs e ++ [C.slice 5 (List.map Ou.cs l)]))))]) (by first | (simp only [z0, vq] <;> rfl) | (simp_all only [vq] <;> rfl))
theorem xE (m : Mm) (c : Cl) (d : Cl) (e : Evt) (l : List Ou) (kd : Int) (id : Int) (er : Int) (data : ByteArray) (hn : Rq.on m.w0 = false) (k : Nat) : ag PP GL XX HH NN (k + 3) 21 [A.imp 0, A.agg [ii kd, ii 0, ii id, ii er, st data]] [Sp.cs (Sp.mk m c d e l)] = some ([], [Sp.cs (Sp.mk m c d e l)]) := by
  rcases bft (kd == 2) with z0 | z0
  · rcases bft (er == 0) with z1 | z1
    · rcases bft (Evt.kind e == 4) with z2 | z2
      · exact rti (ep (rz 0) <| eg (G.at 0) <| en4 z0 <| en7 z1 <| eb4 z2 <| et7 <| e0) (rs := []) (ims' := [((Mm.cs m) ++ (Cl.cs c ++ (Cl.cs d ++ (Evt.cs e ++ [C.slice 5 (List.map Ou.cs l)]))))]) (by first | (simp only [z0, z1, z2, vq] <;> rfl) | (simp_all only [vq] <;> rfl))
      · exact rti (ep (rz 0) <| eg (G.at 0) <| en4 z0 <| en7 z1 <| eb4 z2 <| en6 hn <| et <| e0) (rs := []) (ims' := [((Mm.cs m) ++ (Cl.cs c ++ (Cl.cs d ++ (Evt.cs e ++ [C.slice 5 (List.map Ou.cs l)]))))]) (by first | (simp only [z0, z1, z2, vq] <;> rfl) | (simp_all only [vq] <;> rfl))
    · exact rti (ep (rz 0) <| eg (G.at 0) <| en4 z0 <| en7 z1 <| xL <| e0) (rs := []) (ims' := [((Mm.cs m) ++ (Cl.cs c ++ (Cl.cs d ++ (Evt.cs e ++ [C.slice 5 (List.map Ou.cs l)]))))]) (by first | (simp only [z0, z1, vq] <;> rfl) | (simp_all only [vq] <;> rfl))
  · exact rti (ep (rz 0) <| eg (G.at 0) <| en4 z0 <| xO <| et6 <| e0) (rs := []) (ims' := [((Mm.cs m) ++ (Cl.cs c ++ (Cl.cs d ++ (Evt.cs e ++ [C.slice 5 (List.map Ou.cs l)]))))]) (by first | (simp only [z0, vq] <;> rfl) | (simp_all only [vq] <;> rfl))
theorem uJ (m : Mm) (c : Cl) (d : Cl) (e : Evt) (l : List Ou) (kd : Int) (id : Int) (er : Int) (data : ByteArray) (hn : (Rq.id m.w0 == id) = false) (hw : Rq.on m.w0 = true) (k : Nat) : ag PP GL XX HH NN (k + 3) 21 [A.imp 0, A.agg [ii kd, ii 0, ii id, ii er, st data]] [Sp.cs (Sp.mk m c d e l)] = some ([], [Sp.cs (Sp.mk m c d e l)]) := by
  rcases bft (kd == 2) with z0 | z0
  · rcases bft (er == 0) with z1 | z1
    · rcases bft (Evt.kind e == 4) with z2 | z2
      · exact rti (ep (rz 0) <| eg (G.at 0) <| en4 z0 <| en7 z1 <| eb4 z2 <| et7 <| e0) (rs := []) (ims' := [((Mm.cs m) ++ (Cl.cs c ++ (Cl.cs d ++ (Evt.cs e ++ [C.slice 5 (List.map Ou.cs l)]))))]) (by first | (simp only [z0, z1, z2, vq] <;> rfl) | (simp_all only [vq] <;> rfl))
      · exact rti (ep (rz 0) <| eg (G.at 0) <| en4 z0 <| en7 z1 <| eb4 z2 <| en6 hw <| en hn <| e0) (rs := []) (ims' := [((Mm.cs m) ++ (Cl.cs c ++ (Cl.cs d ++ (Evt.cs e ++ [C.slice 5 (List.map Ou.cs l)]))))]) (by first | (simp only [z0, z1, z2, vq] <;> rfl) | (simp_all only [vq] <;> rfl))
    · exact rti (ep (rz 0) <| eg (G.at 0) <| en4 z0 <| en7 z1 <| xL <| e0) (rs := []) (ims' := [((Mm.cs m) ++ (Cl.cs c ++ (Cl.cs d ++ (Evt.cs e ++ [C.slice 5 (List.map Ou.cs l)]))))]) (by first | (simp only [z0, z1, vq] <;> rfl) | (simp_all only [vq] <;> rfl))
  · exact rti (ep (rz 0) <| eg (G.at 0) <| en4 z0 <| xO <| et6 <| e0) (rs := []) (ims' := [((Mm.cs m) ++ (Cl.cs c ++ (Cl.cs d ++ (Evt.cs e ++ [C.slice 5 (List.map Ou.cs l)]))))]) (by first | (simp only [z0, vq] <;> rfl) | (simp_all only [vq] <;> rfl))
theorem xb (m : Mm) (c : Cl) (d : Cl) (e : Evt) (l : List Ou) (id : Int) (data : ByteArray) (m1 : Mm) (h4 : (Evt.kind e == 4) = false) (hw : Rq.on m.w0 = true) (hid : (Rq.id m.w0 == id) = true) (hA : ∀ k, ag PP GL XX HH NN (k + 2) 47 [A.imp 0, A.c (ii 0), A.agg (Rq.cs m.w0)] [Sp.cs (Sp.mk (({ m with w0 := rq0, count := IntKind.wrap .i64 (Mm.count m + 1) } : Mm)) c d e l)] = some ([], [Sp.cs (Sp.mk m1 c d e l)])) (h9 : (Evt.kind e == 9) = false) (k : Nat) : ag PP GL XX HH NN (k + 3) 21 [A.imp 0, A.agg [ii 2, ii 0, ii id, ii 0, st data]] [Sp.cs (Sp.mk m c d e l)] = some ([], [Sp.cs (Sp.mk m1 c d e l)]) := by
  exact rti (ep (rz 0) <| eg (G.at 0) <| qu <| eb4 h4 <| en6 hw <| en hid <| ep (rz 0) <| eg (G.at 0) <| ec (hA k) <| eb9 h9 <| ef <| e0) (rs := []) (ims' := [((Mm.cs m1) ++ (Cl.cs c ++ (Cl.cs d ++ (Evt.cs e ++ [C.slice 5 (List.map Ou.cs l)]))))]) rfl
theorem vx (m : Mm) (c : Cl) (d : Cl) (e : Evt) (l : List Ou) (id : Int) (data : ByteArray) (m1 : Mm) (h4 : (Evt.kind e == 4) = false) (hw : Rq.on m.w0 = true) (hid : (Rq.id m.w0 == id) = true) (hA : ∀ k, ag PP GL XX HH NN (k + 2) 47 [A.imp 0, A.c (ii 0), A.agg (Rq.cs m.w0)] [Sp.cs (Sp.mk (({ m with w0 := rq0, count := IntKind.wrap .i64 (Mm.count m + 1) } : Mm)) c d e l)] = some ([], [Sp.cs (Sp.mk m1 c d e l)])) (hn : (Evt.node e == 0) = false) (k : Nat) : ag PP GL XX HH NN (k + 3) 21 [A.imp 0, A.agg [ii 2, ii 0, ii id, ii 0, st data]] [Sp.cs (Sp.mk m c d e l)] = some ([], [Sp.cs (Sp.mk m1 c d e l)]) := by
  rcases bft (Evt.kind e == 9) with z0 | z0
  · exact rti (ep (rz 0) <| eg (G.at 0) <| qu <| eb4 h4 <| en6 hw <| en hid <| ep (rz 0) <| eg (G.at 0) <| ec (hA k) <| eb9 z0 <| eb hn <| e0) (rs := []) (ims' := [((Mm.cs m1) ++ (Cl.cs c ++ (Cl.cs d ++ (Evt.cs e ++ [C.slice 5 (List.map Ou.cs l)]))))]) (by first | (simp only [z0, vq] <;> rfl) | (simp_all only [vq] <;> rfl))
  · exact rti (ep (rz 0) <| eg (G.at 0) <| qu <| eb4 h4 <| en6 hw <| en hid <| ep (rz 0) <| eg (G.at 0) <| ec (hA k) <| eb9 z0 <| ef <| e0) (rs := []) (ims' := [((Mm.cs m1) ++ (Cl.cs c ++ (Cl.cs d ++ (Evt.cs e ++ [C.slice 5 (List.map Ou.cs l)]))))]) (by first | (simp only [z0, vq] <;> rfl) | (simp_all only [vq] <;> rfl))
theorem xy (m : Mm) (c : Cl) (d : Cl) (e : Evt) (l : List Ou) (id : Int) (data : ByteArray) (m1 : Mm) (h4 : (Evt.kind e == 4) = false) (hw : Rq.on m.w0 = true) (hid : (Rq.id m.w0 == id) = true) (hA : ∀ k, ag PP GL XX HH NN (k + 2) 47 [A.imp 0, A.c (ii 0), A.agg (Rq.cs m.w0)] [Sp.cs (Sp.mk (({ m with w0 := rq0, count := IntKind.wrap .i64 (Mm.count m + 1) } : Mm)) c d e l)] = some ([], [Sp.cs (Sp.mk m1 c d e l)])) (m2 : Mm) (h9 : (Evt.kind e == 9) = true) (hn : (Evt.node e == 0) = true) (hB : ∀ k, ag PP GL XX HH NN (k + 2) 47 [A.imp 0, A.c (ii 1), A.agg (Rq.cs m.w0)] [Sp.cs (Sp.mk m1 c d e l)] = some ([], [Sp.cs (Sp.mk m2 c d e l)])) (k : Nat) : ag PP GL XX HH NN (k + 3) 21 [A.imp 0, A.agg [ii 2, ii 0, ii id, ii 0, st data]] [Sp.cs (Sp.mk m c d e l)] = some ([], [Sp.cs (Sp.mk m2 c d e l)]) := by
  exact rti (ep (rz 0) <| eg (G.at 0) <| qu <| eb4 h4 <| en6 hw <| en hid <| ep (rz 0) <| eg (G.at 0) <| ec (hA k) <| eb9 h9 <| eb hn <| ec (hB k) <| e0) (rs := []) (ims' := [((Mm.cs m2) ++ (Cl.cs c ++ (Cl.cs d ++ (Evt.cs e ++ [C.slice 5 (List.map Ou.cs l)]))))]) rfl
theorem AG (m : Mm) (c : Cl) (d : Cl) (l : List Ou) (id : Int) (bl : Int) (data : ByteArray) (nn : Int) (ks : List Bool) (hl : l.length ≤ 1000000) (hr : cm l (1 : Int) = true) (k : Nat) : ag PP GL XX HH NN (k + 6) 20 [A.imp 0] [Sp.cs (Sp.mk m c d ((Evt.mk 5 1 id bl data nn ks)) l)] = some ([], [Sp.cs (Sp.mk m c d ((Evt.mk 5 1 id bl data nn ks)) l)]) := by
  exact rti (ef4 <| et3 <| ef <| et <| ef5 <| ec (fD m c d ((Evt.mk 5 1 id bl data nn ks)) l 1 hl k) <| ef <| eb hr <| e0) (rs := []) (ims' := [((Mm.cs m) ++ (Cl.cs c ++ (Cl.cs d ++ [ii 5, ii 1, ii id, ii bl, st data, u nn, C.slice 1 (List.map eB ks), C.slice 5 (List.map Ou.cs l)])))]) rfl
theorem Cm (m : Mm) (c : Cl) (d : Cl) (l : List Ou) (id : Int) (bl : Int) (data : ByteArray) (nn : Int) (ks : List Bool) (m1 : Mm) (hl : l.length ≤ 1000000) (hr : cm l (1 : Int) = false) (hu : Lk.up c.link = false) (hB : ∀ k, ag PP GL XX HH NN (k + 5) 46 [A.imp 0, A.c (ii 1)] [Sp.cs (Sp.mk m c d ((Evt.mk 5 1 id bl data nn ks)) l)] = some ([], [Sp.cs (Sp.mk m1 c d ((Evt.mk 5 1 id bl data nn ks)) l)])) (k : Nat) : ag PP GL XX HH NN (k + 6) 20 [A.imp 0] [Sp.cs (Sp.mk m c d ((Evt.mk 5 1 id bl data nn ks)) l)] = some ([], [Sp.cs (Sp.mk (({ m1 with w1 := (Rq.mk true id bl data) } : Mm)) c d ((Evt.mk 5 1 id bl data nn ks)) l)]) := by
  exact rti (ef4 <| et3 <| ef <| et <| ef5 <| ec (fD m c d ((Evt.mk 5 1 id bl data nn ks)) l 1 hl k) <| ef <| eb hr <| ec (hB k) <| eb hu <| ep (rz 1) <| eg (G.at 1) <| e0) (rs := []) (ims' := [([C.slice 1 (List.map eS m1.n0.acked), C.slice 1 (List.map eL m1.n0.begun), C.slice 1 (List.map eI m1.n0.last), C.slice 1 (List.map eS m1.n1.acked), C.slice 1 (List.map eL m1.n1.begun), C.slice 1 (List.map eI m1.n1.last), C.slice 1 (List.map eS m1.s0.acked), C.slice 1 (List.map eL m1.s0.begun), C.slice 1 (List.map eI m1.s0.last), C.slice 1 (List.map eS m1.s1.acked), C.slice 1 (List.map eL m1.s1.begun), C.slice 1 (List.map eI m1.s1.last), bo m1.h0, bo m1.h1, bo m1.d0, bo m1.d1, bo m1.w0.on, ii m1.w0.id, ii m1.w0.block, st m1.w0.data, bo true, ii id, ii bl, st data, ii m1.count, ii m1.lost] ++ (Cl.cs c ++ (Cl.cs d ++ [ii 5, ii 1, ii id, ii bl, st data, u nn, C.slice 1 (List.map eB ks), C.slice 5 (List.map Ou.cs l)])))]) rfl
theorem B0 (m : Mm) (c : Cl) (d : Cl) (l : List Ou) (id : Int) (bl : Int) (data : ByteArray) (nn : Int) (ks : List Bool) (m1 : Mm) (m2 : Mm) (hl : l.length ≤ 1000000) (hr : cm l (1 : Int) = false) (hu : Lk.up c.link = true) (hB : ∀ k, ag PP GL XX HH NN (k + 5) 46 [A.imp 0, A.c (ii 1)] [Sp.cs (Sp.mk m c d ((Evt.mk 5 1 id bl data nn ks)) l)] = some ([], [Sp.cs (Sp.mk m1 c d ((Evt.mk 5 1 id bl data nn ks)) l)])) (hC : ∀ k, ag PP GL XX HH NN (k + 5) 46 [A.imp 0, A.c (ii 0)] [Sp.cs (Sp.mk m1 c d ((Evt.mk 5 1 id bl data nn ks)) l)] = some ([], [Sp.cs (Sp.mk m2 c d ((Evt.mk 5 1 id bl data nn ks)) l)])) (k : Nat) : ag PP GL XX HH NN (k + 6) 20 [A.imp 0] [Sp.cs (Sp.mk m c d ((Evt.mk 5 1 id bl data nn ks)) l)] = some ([], [Sp.cs (Sp.mk (({ m2 with w1 := (Rq.mk true id bl data) } : Mm)) c d ((Evt.mk 5 1 id bl data nn ks)) l)]) := by
  exact rti (ef4 <| et3 <| ef <| et <| ef5 <| ec (fD m c d ((Evt.mk 5 1 id bl data nn ks)) l 1 hl k) <| ef <| eb hr <| ec (hB k) <| eb hu <| ec (hC k) <| ep (rz 1) <| eg (G.at 1) <| e0) (rs := []) (ims' := [([C.slice 1 (List.map eS m2.n0.acked), C.slice 1 (List.map eL m2.n0.begun), C.slice 1 (List.map eI m2.n0.last), C.slice 1 (List.map eS m2.n1.acked), C.slice 1 (List.map eL m2.n1.begun), C.slice 1 (List.map eI m2.n1.last), C.slice 1 (List.map eS m2.s0.acked), C.slice 1 (List.map eL m2.s0.begun), C.slice 1 (List.map eI m2.s0.last), C.slice 1 (List.map eS m2.s1.acked), C.slice 1 (List.map eL m2.s1.begun), C.slice 1 (List.map eI m2.s1.last), bo m2.h0, bo m2.h1, bo m2.d0, bo m2.d1, bo m2.w0.on, ii m2.w0.id, ii m2.w0.block, st m2.w0.data, bo true, ii id, ii bl, st data, ii m2.count, ii m2.lost] ++ (Cl.cs c ++ (Cl.cs d ++ [ii 5, ii 1, ii id, ii bl, st data, u nn, C.slice 1 (List.map eB ks), C.slice 5 (List.map Ou.cs l)])))]) rfl
theorem vk (m : Mm) (c : Cl) (d : Cl) (e : Evt) (l : List Ou) (kd : Int) (id : Int) (er : Int) (data : ByteArray) (hn : (kd == 2) = false) (k : Nat) : ag PP GL XX HH NN (k + 3) 21 [A.imp 0, A.agg [ii kd, ii 1, ii id, ii er, st data]] [Sp.cs (Sp.mk m c d e l)] = some ([], [Sp.cs (Sp.mk m c d e l)]) := by
  exact rti (ep (rz 1) <| eg (G.at 1) <| en4 hn <| xO <| et6 <| e0) (rs := []) (ims' := [((Mm.cs m) ++ (Cl.cs c ++ (Cl.cs d ++ (Evt.cs e ++ [C.slice 5 (List.map Ou.cs l)]))))]) rfl
theorem uE (m : Mm) (c : Cl) (d : Cl) (e : Evt) (l : List Ou) (kd : Int) (id : Int) (er : Int) (data : ByteArray) (hn : (er == 0) = false) (k : Nat) : ag PP GL XX HH NN (k + 3) 21 [A.imp 0, A.agg [ii kd, ii 1, ii id, ii er, st data]] [Sp.cs (Sp.mk m c d e l)] = some ([], [Sp.cs (Sp.mk m c d e l)]) := by
  rcases bft (kd == 2) with z0 | z0
  · exact rti (ep (rz 1) <| eg (G.at 1) <| en4 z0 <| en7 hn <| xL <| e0) (rs := []) (ims' := [((Mm.cs m) ++ (Cl.cs c ++ (Cl.cs d ++ (Evt.cs e ++ [C.slice 5 (List.map Ou.cs l)]))))]) (by first | (simp only [z0, vq] <;> rfl) | (simp_all only [vq] <;> rfl))
  · exact rti (ep (rz 1) <| eg (G.at 1) <| en4 z0 <| xO <| et6 <| e0) (rs := []) (ims' := [((Mm.cs m) ++ (Cl.cs c ++ (Cl.cs d ++ (Evt.cs e ++ [C.slice 5 (List.map Ou.cs l)]))))]) (by first | (simp only [z0, vq] <;> rfl) | (simp_all only [vq] <;> rfl))
theorem uW (m : Mm) (c : Cl) (d : Cl) (e : Evt) (l : List Ou) (kd : Int) (id : Int) (er : Int) (data : ByteArray) (hn : (Evt.kind e == 4) = true) (k : Nat) : ag PP GL XX HH NN (k + 3) 21 [A.imp 0, A.agg [ii kd, ii 1, ii id, ii er, st data]] [Sp.cs (Sp.mk m c d e l)] = some ([], [Sp.cs (Sp.mk m c d e l)]) := by
  rcases bft (kd == 2) with z0 | z0
  · rcases bft (er == 0) with z1 | z1
    · exact rti (ep (rz 1) <| eg (G.at 1) <| en4 z0 <| en7 z1 <| eb4 hn <| et7 <| e0) (rs := []) (ims' := [((Mm.cs m) ++ (Cl.cs c ++ (Cl.cs d ++ (Evt.cs e ++ [C.slice 5 (List.map Ou.cs l)]))))]) (by first | (simp only [z0, z1, vq] <;> rfl) | (simp_all only [vq] <;> rfl))
    · exact rti (ep (rz 1) <| eg (G.at 1) <| en4 z0 <| en7 z1 <| xL <| e0) (rs := []) (ims' := [((Mm.cs m) ++ (Cl.cs c ++ (Cl.cs d ++ (Evt.cs e ++ [C.slice 5 (List.map Ou.cs l)]))))]) (by first | (simp only [z0, z1, vq] <;> rfl) | (simp_all only [vq] <;> rfl))
  · exact rti (ep (rz 1) <| eg (G.at 1) <| en4 z0 <| xO <| et6 <| e0) (rs := []) (ims' := [((Mm.cs m) ++ (Cl.cs c ++ (Cl.cs d ++ (Evt.cs e ++ [C.slice 5 (List.map Ou.cs l)]))))]) (by first | (simp only [z0, vq] <;> rfl) | (simp_all only [vq] <;> rfl))
theorem we (m : Mm) (c : Cl) (d : Cl) (e : Evt) (l : List Ou) (kd : Int) (id : Int) (er : Int) (data : ByteArray) (hn : Rq.on m.w1 = false) (k : Nat) : ag PP GL XX HH NN (k + 3) 21 [A.imp 0, A.agg [ii kd, ii 1, ii id, ii er, st data]] [Sp.cs (Sp.mk m c d e l)] = some ([], [Sp.cs (Sp.mk m c d e l)]) := by
  rcases bft (kd == 2) with z0 | z0
  · rcases bft (er == 0) with z1 | z1
    · rcases bft (Evt.kind e == 4) with z2 | z2
      · exact rti (ep (rz 1) <| eg (G.at 1) <| en4 z0 <| en7 z1 <| eb4 z2 <| et7 <| e0) (rs := []) (ims' := [((Mm.cs m) ++ (Cl.cs c ++ (Cl.cs d ++ (Evt.cs e ++ [C.slice 5 (List.map Ou.cs l)]))))]) (by first | (simp only [z0, z1, z2, vq] <;> rfl) | (simp_all only [vq] <;> rfl))
      · exact rti (ep (rz 1) <| eg (G.at 1) <| en4 z0 <| en7 z1 <| eb4 z2 <| en6 hn <| et <| e0) (rs := []) (ims' := [((Mm.cs m) ++ (Cl.cs c ++ (Cl.cs d ++ (Evt.cs e ++ [C.slice 5 (List.map Ou.cs l)]))))]) (by first | (simp only [z0, z1, z2, vq] <;> rfl) | (simp_all only [vq] <;> rfl))
    · exact rti (ep (rz 1) <| eg (G.at 1) <| en4 z0 <| en7 z1 <| xL <| e0) (rs := []) (ims' := [((Mm.cs m) ++ (Cl.cs c ++ (Cl.cs d ++ (Evt.cs e ++ [C.slice 5 (List.map Ou.cs l)]))))]) (by first | (simp only [z0, z1, vq] <;> rfl) | (simp_all only [vq] <;> rfl))
  · exact rti (ep (rz 1) <| eg (G.at 1) <| en4 z0 <| xO <| et6 <| e0) (rs := []) (ims' := [((Mm.cs m) ++ (Cl.cs c ++ (Cl.cs d ++ (Evt.cs e ++ [C.slice 5 (List.map Ou.cs l)]))))]) (by first | (simp only [z0, vq] <;> rfl) | (simp_all only [vq] <;> rfl))
theorem xC (m : Mm) (c : Cl) (d : Cl) (e : Evt) (l : List Ou) (kd : Int) (id : Int) (er : Int) (data : ByteArray) (hn : (Rq.id m.w1 == id) = false) (hw : Rq.on m.w1 = true) (k : Nat) : ag PP GL XX HH NN (k + 3) 21 [A.imp 0, A.agg [ii kd, ii 1, ii id, ii er, st data]] [Sp.cs (Sp.mk m c d e l)] = some ([], [Sp.cs (Sp.mk m c d e l)]) := by
  rcases bft (kd == 2) with z0 | z0
  · rcases bft (er == 0) with z1 | z1
    · rcases bft (Evt.kind e == 4) with z2 | z2
      · exact rti (ep (rz 1) <| eg (G.at 1) <| en4 z0 <| en7 z1 <| eb4 z2 <| et7 <| e0) (rs := []) (ims' := [((Mm.cs m) ++ (Cl.cs c ++ (Cl.cs d ++ (Evt.cs e ++ [C.slice 5 (List.map Ou.cs l)]))))]) (by first | (simp only [z0, z1, z2, vq] <;> rfl) | (simp_all only [vq] <;> rfl))
      · exact rti (ep (rz 1) <| eg (G.at 1) <| en4 z0 <| en7 z1 <| eb4 z2 <| en6 hw <| en hn <| e0) (rs := []) (ims' := [((Mm.cs m) ++ (Cl.cs c ++ (Cl.cs d ++ (Evt.cs e ++ [C.slice 5 (List.map Ou.cs l)]))))]) (by first | (simp only [z0, z1, z2, vq] <;> rfl) | (simp_all only [vq] <;> rfl))
    · exact rti (ep (rz 1) <| eg (G.at 1) <| en4 z0 <| en7 z1 <| xL <| e0) (rs := []) (ims' := [((Mm.cs m) ++ (Cl.cs c ++ (Cl.cs d ++ (Evt.cs e ++ [C.slice 5 (List.map Ou.cs l)]))))]) (by first | (simp only [z0, z1, vq] <;> rfl) | (simp_all only [vq] <;> rfl))
  · exact rti (ep (rz 1) <| eg (G.at 1) <| en4 z0 <| xO <| et6 <| e0) (rs := []) (ims' := [((Mm.cs m) ++ (Cl.cs c ++ (Cl.cs d ++ (Evt.cs e ++ [C.slice 5 (List.map Ou.cs l)]))))]) (by first | (simp only [z0, vq] <;> rfl) | (simp_all only [vq] <;> rfl))
theorem xg (m : Mm) (c : Cl) (d : Cl) (e : Evt) (l : List Ou) (id : Int) (data : ByteArray) (m1 : Mm) (h4 : (Evt.kind e == 4) = false) (hw : Rq.on m.w1 = true) (hid : (Rq.id m.w1 == id) = true) (hA : ∀ k, ag PP GL XX HH NN (k + 2) 47 [A.imp 0, A.c (ii 1), A.agg (Rq.cs m.w1)] [Sp.cs (Sp.mk (({ m with w1 := rq0, count := IntKind.wrap .i64 (Mm.count m + 1) } : Mm)) c d e l)] = some ([], [Sp.cs (Sp.mk m1 c d e l)])) (h9 : (Evt.kind e == 9) = false) (k : Nat) : ag PP GL XX HH NN (k + 3) 21 [A.imp 0, A.agg [ii 2, ii 1, ii id, ii 0, st data]] [Sp.cs (Sp.mk m c d e l)] = some ([], [Sp.cs (Sp.mk m1 c d e l)]) := by
  exact rti (ep (rz 1) <| eg (G.at 1) <| qu <| eb4 h4 <| en6 hw <| en hid <| ep (rz 1) <| eg (G.at 1) <| ec (hA k) <| eb9 h9 <| ef <| e0) (rs := []) (ims' := [((Mm.cs m1) ++ (Cl.cs c ++ (Cl.cs d ++ (Evt.cs e ++ [C.slice 5 (List.map Ou.cs l)]))))]) rfl
theorem wa (m : Mm) (c : Cl) (d : Cl) (e : Evt) (l : List Ou) (id : Int) (data : ByteArray) (m1 : Mm) (h4 : (Evt.kind e == 4) = false) (hw : Rq.on m.w1 = true) (hid : (Rq.id m.w1 == id) = true) (hA : ∀ k, ag PP GL XX HH NN (k + 2) 47 [A.imp 0, A.c (ii 1), A.agg (Rq.cs m.w1)] [Sp.cs (Sp.mk (({ m with w1 := rq0, count := IntKind.wrap .i64 (Mm.count m + 1) } : Mm)) c d e l)] = some ([], [Sp.cs (Sp.mk m1 c d e l)])) (hn : (Evt.node e == 1) = false) (k : Nat) : ag PP GL XX HH NN (k + 3) 21 [A.imp 0, A.agg [ii 2, ii 1, ii id, ii 0, st data]] [Sp.cs (Sp.mk m c d e l)] = some ([], [Sp.cs (Sp.mk m1 c d e l)]) := by
  rcases bft (Evt.kind e == 9) with z0 | z0
  · exact rti (ep (rz 1) <| eg (G.at 1) <| qu <| eb4 h4 <| en6 hw <| en hid <| ep (rz 1) <| eg (G.at 1) <| ec (hA k) <| eb9 z0 <| eb hn <| e0) (rs := []) (ims' := [((Mm.cs m1) ++ (Cl.cs c ++ (Cl.cs d ++ (Evt.cs e ++ [C.slice 5 (List.map Ou.cs l)]))))]) (by first | (simp only [z0, vq] <;> rfl) | (simp_all only [vq] <;> rfl))
  · exact rti (ep (rz 1) <| eg (G.at 1) <| qu <| eb4 h4 <| en6 hw <| en hid <| ep (rz 1) <| eg (G.at 1) <| ec (hA k) <| eb9 z0 <| ef <| e0) (rs := []) (ims' := [((Mm.cs m1) ++ (Cl.cs c ++ (Cl.cs d ++ (Evt.cs e ++ [C.slice 5 (List.map Ou.cs l)]))))]) (by first | (simp only [z0, vq] <;> rfl) | (simp_all only [vq] <;> rfl))
theorem ww (m : Mm) (c : Cl) (d : Cl) (e : Evt) (l : List Ou) (id : Int) (data : ByteArray) (m1 : Mm) (h4 : (Evt.kind e == 4) = false) (hw : Rq.on m.w1 = true) (hid : (Rq.id m.w1 == id) = true) (hA : ∀ k, ag PP GL XX HH NN (k + 2) 47 [A.imp 0, A.c (ii 1), A.agg (Rq.cs m.w1)] [Sp.cs (Sp.mk (({ m with w1 := rq0, count := IntKind.wrap .i64 (Mm.count m + 1) } : Mm)) c d e l)] = some ([], [Sp.cs (Sp.mk m1 c d e l)])) (m2 : Mm) (h9 : (Evt.kind e == 9) = true) (hn : (Evt.node e == 1) = true) (hB : ∀ k, ag PP GL XX HH NN (k + 2) 47 [A.imp 0, A.c (ii 0), A.agg (Rq.cs m.w1)] [Sp.cs (Sp.mk m1 c d e l)] = some ([], [Sp.cs (Sp.mk m2 c d e l)])) (k : Nat) : ag PP GL XX HH NN (k + 3) 21 [A.imp 0, A.agg [ii 2, ii 1, ii id, ii 0, st data]] [Sp.cs (Sp.mk m c d e l)] = some ([], [Sp.cs (Sp.mk m2 c d e l)]) := by
  exact rti (ep (rz 1) <| eg (G.at 1) <| qu <| eb4 h4 <| en6 hw <| en hid <| ep (rz 1) <| eg (G.at 1) <| ec (hA k) <| eb9 h9 <| eb hn <| ec (hB k) <| e0) (rs := []) (ims' := [((Mm.cs m2) ++ (Cl.cs c ++ (Cl.cs d ++ (Evt.cs e ++ [C.slice 5 (List.map Ou.cs l)]))))]) rfl
end Go.Dm
namespace Go.Dm
open Go
set_option maxHeartbeats 1000000
theorem nL {v : Vl} {b : Int} (h : ge v b = true) : ∃ i : Nat, b = (i : Int) ∧ i < v.acked.length := by
  unfold ge at h
  rw [Bool.and_eq_true] at h
  have h1 := of_decide_eq_true h.1
  have h2 := of_decide_eq_true h.2
  exact ⟨b.toNat, by omega, by omega⟩
theorem G4 {N M : Nat} {m : Mm} (h : Mg N M m) (hN : N ≤ 100000) (hM : M ≤ 100000) (c d : Cl) (e : Evt) (l : List Ou) (k : Nat) : ag PP GL XX HH NN (k + 2) 46 [.imp 0, .c (ii 0)] [Sp.cs ⟨m, c, d, e, l⟩] = some ([], [Sp.cs ⟨co m 0 e, c, d, e, l⟩]) := by
  have hv := h.v0
  have hw := h.w0
  cases hb : ge m.n0 e.block with
  | false =>
    have : co m 0 e = m := by show ({ m with n0 := f7 m.n0 e.block e.data } : Mm) = m; rw [pE hb]
    rw [this]; exact AV m c d e l hb k
  | true =>
    obtain ⟨i, hi, hlt⟩ := nL hb
    have h2 : i < m.n0.begun.length := by rw [hv.b, ← hv.a]; exact hlt
    have hy : m.n0.begun[i]? = some m.n0.begun[i] := List.getElem?_eq_getElem h2
    have hB := hw.b _ (List.getElem_mem h2)
    have := Bv m c d e l i _ hb hi hlt h2 (by rw [hv.l, ← hv.a]; exact hlt) (by rw [hv.a]; omega) (by rw [hv.b]; omega) (by rw [hv.l]; omega) hy (by omega) k
    rw [this]
    have e1 : co m 0 e = ⟨⟨m.n0.acked, m.n0.begun.set i (m.n0.begun[i] ++ [e.data]), m.n0.last⟩, m.n1, m.s0, m.s1, m.h0, m.h1, m.d0, m.d1, m.w0, m.w1, m.count, m.lost⟩ := by
      show ({ m with n0 := f7 m.n0 e.block e.data } : Mm) = _
      rw [nb hb hi hy]
    rw [e1]
theorem G7 {N M : Nat} {m : Mm} (h : Mg N M m) (hN : N ≤ 100000) (hM : M ≤ 100000) (c d : Cl) (e : Evt) (l : List Ou) (k : Nat) : ag PP GL XX HH NN (k + 2) 46 [.imp 0, .c (ii 1)] [Sp.cs ⟨m, c, d, e, l⟩] = some ([], [Sp.cs ⟨co m 1 e, c, d, e, l⟩]) := by
  have hv := h.v1
  have hw := h.w1
  cases hb : ge m.n1 e.block with
  | false =>
    have : co m 1 e = m := by show ({ m with n1 := f7 m.n1 e.block e.data } : Mm) = m; rw [pE hb]
    rw [this]; exact AW m c d e l hb k
  | true =>
    obtain ⟨i, hi, hlt⟩ := nL hb
    have h2 : i < m.n1.begun.length := by rw [hv.b, ← hv.a]; exact hlt
    have hy : m.n1.begun[i]? = some m.n1.begun[i] := List.getElem?_eq_getElem h2
    have hB := hw.b _ (List.getElem_mem h2)
    have := Bo m c d e l i _ hb hi hlt h2 (by rw [hv.l, ← hv.a]; exact hlt) (by rw [hv.a]; omega) (by rw [hv.b]; omega) (by rw [hv.l]; omega) hy (by omega) k
    rw [this]
    have e1 : co m 1 e = ⟨m.n0, ⟨m.n1.acked, m.n1.begun.set i (m.n1.begun[i] ++ [e.data]), m.n1.last⟩, m.s0, m.s1, m.h0, m.h1, m.d0, m.d1, m.w0, m.w1, m.count, m.lost⟩ := by
      show ({ m with n1 := f7 m.n1 e.block e.data } : Mm) = _
      rw [nb hb hi hy]
    rw [e1]
theorem GY {N M : Nat} {m : Mm} (h : Mg N M m) (hN : N ≤ 100000) (c d : Cl) (e : Evt) (l : List Ou) (r : Rq) (k : Nat) : ag PP GL XX HH NN (k + 2) 47 [.imp 0, .c (ii 0), .agg r.cs] [Sp.cs ⟨m, c, d, e, l⟩] = some ([], [Sp.cs ⟨iE m 0 r, c, d, e, l⟩]) := by
  have hv := h.v0
  cases hb : ge m.n0 r.block with
  | false =>
    have : iE m 0 r = m := by show ({ m with n0 := uB m.n0 r m.count } : Mm) = m; rw [va hb]
    rw [this]; exact Gk m c d e l r hb k
  | true =>
    obtain ⟨i, hi, hlt⟩ := nL hb
    have := Fk m c d e l r i hb hi hlt (by rw [hv.b, ← hv.a]; exact hlt) (by rw [hv.l, ← hv.a]; exact hlt) (by rw [hv.a]; omega) (by rw [hv.b]; omega) (by rw [hv.l]; omega) k
    rw [this]
    have e1 : iE m 0 r = ⟨⟨m.n0.acked.set i r.data, m.n0.begun.set i [], m.n0.last.set i m.count⟩, m.n1, m.s0, m.s1, m.h0, m.h1, m.d0, m.d1, m.w0, m.w1, m.count, m.lost⟩ := by
      show ({ m with n0 := uB m.n0 r m.count } : Mm) = _
      rw [rZ hb hi]
    rw [e1]
theorem G5 {N M : Nat} {m : Mm} (h : Mg N M m) (hN : N ≤ 100000) (c d : Cl) (e : Evt) (l : List Ou) (r : Rq) (k : Nat) : ag PP GL XX HH NN (k + 2) 47 [.imp 0, .c (ii 1), .agg r.cs] [Sp.cs ⟨m, c, d, e, l⟩] = some ([], [Sp.cs ⟨iE m 1 r, c, d, e, l⟩]) := by
  have hv := h.v1
  cases hb : ge m.n1 r.block with
  | false =>
    have : iE m 1 r = m := by show ({ m with n1 := uB m.n1 r m.count } : Mm) = m; rw [va hb]
    rw [this]; exact F2 m c d e l r hb k
  | true =>
    obtain ⟨i, hi, hlt⟩ := nL hb
    have := FO m c d e l r i hb hi hlt (by rw [hv.b, ← hv.a]; exact hlt) (by rw [hv.l, ← hv.a]; exact hlt) (by rw [hv.a]; omega) (by rw [hv.b]; omega) (by rw [hv.l]; omega) k
    rw [this]
    have e1 : iE m 1 r = ⟨m.n0, ⟨m.n1.acked.set i r.data, m.n1.begun.set i [], m.n1.last.set i m.count⟩, m.s0, m.s1, m.h0, m.h1, m.d0, m.d1, m.w0, m.w1, m.count, m.lost⟩ := by
      show ({ m with n1 := uB m.n1 r m.count } : Mm) = _
      rw [rZ hb hi]
    rw [e1]
theorem BV {N M : Nat} {m : Mm} (h : Mg N M m) (hN : N ≤ 100000) (hM : M + 1 ≤ 100000) (c d : Cl) (e : Evt) (l : List Ou) (hl : l.length ≤ 1000000) (k : Nat) : ag PP GL XX HH NN (k + 6) 20 [.imp 0] [Sp.cs ⟨m, c, d, e, l⟩] = some ([], [Sp.cs ⟨bk m c e l, c, d, e, l⟩]) := by
  cases hk : e.kind == 5 with
  | false =>
    have : bk m c e l = m := by unfold bk; rw [hk]; rfl
    rw [this]; exact Eo m c d e l hk k
  | true =>
    cases q0 : e.node == 0 with
    | true =>
      obtain ⟨kd, nd, id, bl, data, nn, ks⟩ := e
      obtain rfl : kd = 5 := eq_of_beq hk
      obtain rfl : nd = 0 := eq_of_beq q0
      cases hr : cm l 0 with
      | true =>
        have : bk m c ⟨5, 0, id, bl, data, nn, ks⟩ l = m := by unfold bk; rw [hr]; rfl
        rw [this]; exact BP m c d l id bl data nn ks hl hr k
      | false =>
        have hb := fun k => G4 h hN (by omega) c d ⟨5, 0, id, bl, data, nn, ks⟩ l (k + 3)
        have h1 := gy h 0 ⟨5, 0, id, bl, data, nn, ks⟩
        cases hu : c.link.up with
        | false =>
          have : bk m c ⟨5, 0, id, bl, data, nn, ks⟩ l = oU (co m 0 ⟨5, 0, id, bl, data, nn, ks⟩) 0 ⟨true, id, bl, data⟩ := by unfold bk eK; rw [hr, hu]; rfl
          rw [this]; exact AR m c d l id bl data nn ks _ hl hr hu hb k
        | true =>
          have hc := fun k => G7 h1 hN hM c d ⟨5, 0, id, bl, data, nn, ks⟩ l (k + 3)
          have : bk m c ⟨5, 0, id, bl, data, nn, ks⟩ l = oU (co (co m 0 ⟨5, 0, id, bl, data, nn, ks⟩) 1 ⟨5, 0, id, bl, data, nn, ks⟩) 0 ⟨true, id, bl, data⟩ := by unfold bk eK; rw [hr, hu]; rfl
          rw [this]; exact BA m c d l id bl data nn ks _ _ hl hr hu hb hc k
    | false =>
      cases q1 : e.node == 1 with
      | false =>
        have : bk m c e l = m := by unfold bk; rw [q0, q1]; simp
        rw [this]; exact Ez m c d e l q0 q1 k
      | true =>
        obtain ⟨kd, nd, id, bl, data, nn, ks⟩ := e
        obtain rfl : kd = 5 := eq_of_beq hk
        obtain rfl : nd = 1 := eq_of_beq q1
        cases hr : cm l 1 with
        | true =>
          have : bk m c ⟨5, 1, id, bl, data, nn, ks⟩ l = m := by unfold bk; rw [hr]; rfl
          rw [this]; exact AG m c d l id bl data nn ks hl hr k
        | false =>
          have hb := fun k => G7 h hN (by omega) c d ⟨5, 1, id, bl, data, nn, ks⟩ l (k + 3)
          have h1 := gy h 1 ⟨5, 1, id, bl, data, nn, ks⟩
          cases hu : c.link.up with
          | false =>
            have : bk m c ⟨5, 1, id, bl, data, nn, ks⟩ l = oU (co m 1 ⟨5, 1, id, bl, data, nn, ks⟩) 1 ⟨true, id, bl, data⟩ := by unfold bk eK; rw [hr, hu]; rfl
            rw [this]; exact Cm m c d l id bl data nn ks _ hl hr hu hb k
          | true =>
            have hc := fun k => G4 h1 hN hM c d ⟨5, 1, id, bl, data, nn, ks⟩ l (k + 3)
            have : bk m c ⟨5, 1, id, bl, data, nn, ks⟩ l = oU (co (co m 1 ⟨5, 1, id, bl, data, nn, ks⟩) 0 ⟨5, 1, id, bl, data, nn, ks⟩) 1 ⟨true, id, bl, data⟩ := by unfold bk eK; rw [hr, hu]; rfl
            rw [this]; exact B0 m c d l id bl data nn ks _ _ hl hr hu hb hc k
theorem zC {N M : Nat} {m : Mm} (h : Mg N M m) (hN : N ≤ 100000) (hc : m.count < 1000000) (c d : Cl) (e : Evt) (l : List Ou) (o : Ou) (ho : o.node = 0 ∨ o.node = 1) (k : Nat) : ag PP GL XX HH NN (k + 3) 21 [.imp 0, .agg o.cs] [Sp.cs ⟨m, c, d, e, l⟩] = some ([], [Sp.cs ⟨a5 e m o, c, d, e, l⟩]) := by
  obtain ⟨kd, nd, id, er, data⟩ := o
  have no : lB m e ⟨kd, nd, id, er, data⟩ = false → a5 e m ⟨kd, nd, id, er, data⟩ = m := fun hi => by unfold a5; rw [hi]; rfl
  cases k1 : kd == 2 with
  | false =>
    rw [no (by unfold lB; rw [k1]; rfl)]
    rcases ho with rfl | rfl
    · exact vp m c d e l kd id er data k1 k
    · exact vk m c d e l kd id er data k1 k
  | true =>
    cases k2 : er == 0 with
    | false =>
      rw [no (by unfold lB; rw [k1, k2]; rfl)]
      rcases ho with rfl | rfl
      · exact wH m c d e l kd id er data k2 k
      · exact uE m c d e l kd id er data k2 k
    | true =>
      cases k3 : e.kind == 4 with
      | true =>
        rw [no (by unfold lB; rw [k1, k2, k3]; rfl)]
        rcases ho with rfl | rfl
        · exact vh m c d e l kd id er data k3 k
        · exact uW m c d e l kd id er data k3 k
      | false =>
        obtain rfl : kd = 2 := eq_of_beq k1
        obtain rfl : er = 0 := eq_of_beq k2
        rcases ho with rfl | rfl
        · cases k4 : m.w0.on with
          | false =>
            rw [no (by show (true && true && !(e.kind == 4) && m.w0.on && _) = false; rw [k4]; simp)]
            exact xE m c d e l 2 id 0 data k4 k
          | true =>
            cases k5 : m.w0.id == id with
            | false =>
              rw [no (by show (true && true && !(e.kind == 4) && m.w0.on && (m.w0.id == id)) = false; rw [k5]; simp)]
              exact uJ m c d e l 2 id 0 data k5 k4 k
            | true =>
              have hi : lB m e ⟨2, 0, id, 0, data⟩ = true := by show (true && true && !(e.kind == 4) && m.w0.on && (m.w0.id == id)) = true; rw [k3, k4, k5]; rfl
              obtain ⟨g1, e1⟩ := kX h hc 0
              have hA := fun k => GY g1 hN c d e l m.w0 k
              have g2 := nV g1 0 m.w0
              have hB := fun k => G5 g2 hN c d e l m.w0 k
              cases k9 : e.kind == 9 with
              | false =>
                have : a5 e m ⟨2, 0, id, 0, data⟩ = iE (cV m 0) 0 m.w0 := by unfold a5; rw [hi, k9]; rfl
                rw [this]; exact xb m c d e l id data _ k3 k4 k5 hA k9 k
              | true =>
                cases kn : e.node == 0 with
                | false =>
                  have : a5 e m ⟨2, 0, id, 0, data⟩ = iE (cV m 0) 0 m.w0 := by unfold a5; rw [hi, k9, kn]; rfl
                  rw [this]; exact vx m c d e l id data _ k3 k4 k5 hA kn k
                | true =>
                  have : a5 e m ⟨2, 0, id, 0, data⟩ = iE (iE (cV m 0) 0 m.w0) 1 m.w0 := by unfold a5; rw [hi, k9, kn]; rfl
                  rw [this]; exact xy m c d e l id data _ k3 k4 k5 hA _ k9 kn hB k
        · cases k4 : m.w1.on with
          | false =>
            rw [no (by show (true && true && !(e.kind == 4) && m.w1.on && _) = false; rw [k4]; simp)]
            exact we m c d e l 2 id 0 data k4 k
          | true =>
            cases k5 : m.w1.id == id with
            | false =>
              rw [no (by show (true && true && !(e.kind == 4) && m.w1.on && (m.w1.id == id)) = false; rw [k5]; simp)]
              exact xC m c d e l 2 id 0 data k5 k4 k
            | true =>
              have hi : lB m e ⟨2, 1, id, 0, data⟩ = true := by show (true && true && !(e.kind == 4) && m.w1.on && (m.w1.id == id)) = true; rw [k3, k4, k5]; rfl
              obtain ⟨g1, e1⟩ := kX h hc 1
              have hA := fun k => G5 g1 hN c d e l m.w1 k
              have g2 := nV g1 1 m.w1
              have hB := fun k => GY g2 hN c d e l m.w1 k
              cases k9 : e.kind == 9 with
              | false =>
                have : a5 e m ⟨2, 1, id, 0, data⟩ = iE (cV m 1) 1 m.w1 := by unfold a5; rw [hi, k9]; rfl
                rw [this]; exact xg m c d e l id data _ k3 k4 k5 hA k9 k
              | true =>
                cases kn : e.node == 1 with
                | false =>
                  have : a5 e m ⟨2, 1, id, 0, data⟩ = iE (cV m 1) 1 m.w1 := by unfold a5; rw [hi, k9, kn]; rfl
                  rw [this]; exact wa m c d e l id data _ k3 k4 k5 hA kn k
                | true =>
                  have : a5 e m ⟨2, 1, id, 0, data⟩ = iE (iE (cV m 1) 1 m.w1) 0 m.w1 := by unfold a5; rw [hi, k9, kn]; rfl
                  rw [this]; exact ww m c d e l id data _ k3 k4 k5 hA _ k9 kn hB k
end Go.Dm
namespace Go.Dm
open Go
set_option maxHeartbeats 1000000
set_option maxHeartbeats 0
def Sst (m : Mm) (c : Cl) (d : Cl) (e : Evt) (l : List Ou) (c0 : Int) (c1 : Sp) : St := St.mk (hs 8 (T.k (K.v (V.ptr 3 0)) :: T.hole :: T.k (K.v (V.ptr 4 0)) :: T.k (K.v (V.ptr 5 0)) :: hs 15 (tc (C.slice 5 (List.map Ou.cs l)) :: tc (ii (↑(l.length) : Int)) :: tc (ii c0) :: hs 37 []))) [(List.map V.c (Mm.cs m)), List.map V.c (Cl.cs c), [V.c (ii e.kind), V.c (ii e.node), V.c (ii e.id), V.c (ii e.block), V.c (st e.data), V.c (u e.n), V.c (C.slice 1 (List.map eB e.keeps))], List.map V.c (Cl.cs d), [V.own 1 [] Tk.exact, V.own 1 [] Tk.exact, V.own 1 [] Tk.exact, V.own 1 [] Tk.exact, V.own 1 [] Tk.exact, V.own 1 [] Tk.exact, V.own 1 [] Tk.exact, V.own 1 [] Tk.exact, V.own 1 [] Tk.exact, V.own 1 [] Tk.exact, V.own 1 [] Tk.exact, V.own 1 [] Tk.exact, V.c (bo false), V.c (bo false), V.c (bo false), V.c (bo false), V.c (bo false), V.c (ii 0), V.c (ii 0), V.c (st ⟨#[]⟩), V.c (bo false), V.c (ii 0), V.c (ii 0), V.c (st ⟨#[]⟩), V.c (ii 0), V.c (ii 0)], List.map V.c (Sp.cs c1)] []
theorem FV (m : Mm) (c : Cl) (d : Cl) (e : Evt) (l : List Ou) (i : Nat) (x : Ou) (hx : l[i]? = some x) (s : Sp) (s' : Sp) (hA : ∀ k, ag PP GL XX HH NN (k + 7) 21 [A.imp 0, A.agg (Ou.cs x)] [Sp.cs s] = some ([], [Sp.cs s'])) (k : Nat) (z0 : (decide ((↑i : Int) < (↑(l.length) : Int))) = true) : ax (EE (k + 7)) (HH 11) NN (LB PP 11 5) 6 0 (Sst m c d e l (↑i : Int) s) (Sst m c d e l (IntKind.wrap .i64 ((↑i : Int) + 1)) s') :=
  nx (eb z0 <| ep (rz i) <| ep (ao (f := Ou.cs) hx) <| eg (G.idx i [ii x.kind, ii x.node, ii x.id, ii x.err, st x.data]) <| ec (hA k) <| e0)
def p9 (m : Mm) (c : Cl) (d : Cl) (e : Evt) (l : List Ou) (i : Nat) (s : Sp) : St := St.mk (hs 8 (T.k (K.v (V.ptr 3 0)) :: T.hole :: T.k (K.v (V.ptr 4 0)) :: T.k (K.v (V.ptr 5 0)) :: hs 15 (tc (C.slice 5 (List.map Ou.cs l)) :: tc (ii (↑(l.length) : Int)) :: tc (ii (↑i : Int)) :: tc (bo (decide ((↑i : Int) < (↑(l.length) : Int)))) :: hs 36 []))) [(List.map V.c (Mm.cs m)), List.map V.c (Cl.cs c), [V.c (ii e.kind), V.c (ii e.node), V.c (ii e.id), V.c (ii e.block), V.c (st e.data), V.c (u e.n), V.c (C.slice 1 (List.map eB e.keeps))], List.map V.c (Cl.cs d), [V.own 1 [] Tk.exact, V.own 1 [] Tk.exact, V.own 1 [] Tk.exact, V.own 1 [] Tk.exact, V.own 1 [] Tk.exact, V.own 1 [] Tk.exact, V.own 1 [] Tk.exact, V.own 1 [] Tk.exact, V.own 1 [] Tk.exact, V.own 1 [] Tk.exact, V.own 1 [] Tk.exact, V.own 1 [] Tk.exact, V.c (bo false), V.c (bo false), V.c (bo false), V.c (bo false), V.c (bo false), V.c (ii 0), V.c (ii 0), V.c (st ⟨#[]⟩), V.c (bo false), V.c (ii 0), V.c (ii 0), V.c (st ⟨#[]⟩), V.c (ii 0), V.c (ii 0)], (List.map V.c (Sp.cs s))] []
theorem Ge (m : Mm) (c : Cl) (d : Cl) (e : Evt) (l : List Ou) (i : Nat) (s : Sp) (k : Nat) (z0 : (decide ((↑i : Int) < (↑(l.length) : Int))) = false) : bj (EE (k + 7)) (HH 11) NN (LB PP 11 5) (Sst m c d e l (↑i : Int) s) (Ext.exit 0) (p9 m c d e l i s) :=
  ou (eb z0 <| e0)
def Ssu (m : Mm) (c : Cl) (d : Cl) (e : Evt) (c0 : Int) (c1 : Sp) : St := St.mk (hs 10 (T.k (K.v (V.ptr 4 0)) :: T.k (K.v (V.ptr 5 0)) :: hs 26 (T.k (K.agg (List.map V.c (Nd.cs d.n0) ++ List.map V.c (Nd.cs d.n1))) :: tc (ii c0) :: hs 27 []))) [(List.map V.c (Mm.cs m)), List.map V.c (Cl.cs c), [V.c (ii e.kind), V.c (ii e.node), V.c (ii e.id), V.c (ii e.block), V.c (st e.data), V.c (u e.n), V.c (C.slice 1 (List.map eB e.keeps))], List.map V.c (Cl.cs d), [V.own 1 [] Tk.exact, V.own 1 [] Tk.exact, V.own 1 [] Tk.exact, V.own 1 [] Tk.exact, V.own 1 [] Tk.exact, V.own 1 [] Tk.exact, V.own 1 [] Tk.exact, V.own 1 [] Tk.exact, V.own 1 [] Tk.exact, V.own 1 [] Tk.exact, V.own 1 [] Tk.exact, V.own 1 [] Tk.exact, V.c (bo false), V.c (bo false), V.c (bo false), V.c (bo false), V.c (bo false), V.c (ii 0), V.c (ii 0), V.c (st ⟨#[]⟩), V.c (bo false), V.c (ii 0), V.c (ii 0), V.c (st ⟨#[]⟩), V.c (ii 0), V.c (ii 0)], List.map V.c (Sp.cs c1)] []
end Go.Dm
namespace Go.Dm
open Go
set_option maxHeartbeats 1000000
set_option maxHeartbeats 0
theorem BJ (m : Mm) (c : Cl) (d : Cl) (e : Evt) (l : List Ou) (ms : Mm) (m2 : Mm) (hr : Rq.on d.n0.req = true) (hu : Nd.up d.n0 = true) (hN : ∀ k, ag PP GL XX HH NN (k + 7) 22 [A.imp 0, A.c (ii 0), A.agg (Su.cs d.n0.store.super)] [Sp.cs (Sp.mk ms c d e l)] = some ([], [Sp.cs (Sp.mk m2 c d e l)])) (k : Nat) : ax (EE (k + 7)) (HH 11) NN (LB PP 11 10) 6 0 (Ssu m c d e 0 (Sp.mk ms c d e l)) (Ssu m c d e 1 (Sp.mk m2 c d e l)) :=
  nx (et <| ep (rz 0) <| eg (G.at 0) <| en hr <| eb hu <| ec (hN k) <| e0)
theorem A8 (m : Mm) (c : Cl) (d : Cl) (e : Evt) (l : List Ou) (ms : Mm) (hr : Rq.on d.n0.req = true) (hu : Nd.up d.n0 = false) (k : Nat) : ax (EE (k + 7)) (HH 11) NN (LB PP 11 10) 6 0 (Ssu m c d e 0 (Sp.mk ms c d e l)) (Ssu m c d e 1 (Sp.mk ms c d e l)) :=
  nx (et <| ep (rz 0) <| eg (G.at 0) <| en hr <| eb hu <| e0)
theorem Cw (m : Mm) (c : Cl) (d : Cl) (e : Evt) (l : List Ou) (ms : Mm) (m2 : Mm) (hr : Rq.on d.n0.req = false) (hu : Nd.up d.n0 = true) (hN : ∀ k, ag PP GL XX HH NN (k + 7) 22 [A.imp 0, A.c (ii 0), A.agg (Su.cs d.n0.store.super)] [Sp.cs (Sp.mk (({ ms with w0 := rq0 } : Mm)) c d e l)] = some ([], [Sp.cs (Sp.mk m2 c d e l)])) (k : Nat) : ax (EE (k + 7)) (HH 11) NN (LB PP 11 10) 6 0 (Ssu m c d e 0 (Sp.mk ms c d e l)) (Ssu m c d e 1 (Sp.mk m2 c d e l)) :=
  nx (et <| ep (rz 0) <| eg (G.at 0) <| en hr <| ep (rz 0) <| eg (G.at 0) <| eb hu <| ec (hN k) <| e0)
theorem Cd (m : Mm) (c : Cl) (d : Cl) (e : Evt) (l : List Ou) (ms : Mm) (hr : Rq.on d.n0.req = false) (hu : Nd.up d.n0 = false) (k : Nat) : ax (EE (k + 7)) (HH 11) NN (LB PP 11 10) 6 0 (Ssu m c d e 0 (Sp.mk ms c d e l)) (Ssu m c d e 1 (Sp.mk (({ ms with w0 := rqz } : Mm)) c d e l)) :=
  nx (et <| ep (rz 0) <| eg (G.at 0) <| en hr <| ep (rz 0) <| eg (G.at 0) <| eb hu <| e0)
theorem Ba (m : Mm) (c : Cl) (d : Cl) (e : Evt) (l : List Ou) (ms : Mm) (m2 : Mm) (hr : Rq.on d.n1.req = true) (hu : Nd.up d.n1 = true) (hN : ∀ k, ag PP GL XX HH NN (k + 7) 22 [A.imp 0, A.c (ii 1), A.agg (Su.cs d.n1.store.super)] [Sp.cs (Sp.mk ms c d e l)] = some ([], [Sp.cs (Sp.mk m2 c d e l)])) (k : Nat) : ax (EE (k + 7)) (HH 11) NN (LB PP 11 10) 6 0 (Ssu m c d e 1 (Sp.mk ms c d e l)) (Ssu m c d e 2 (Sp.mk m2 c d e l)) :=
  nx (et <| ep (rz 1) <| eg (G.at 1) <| en hr <| eb hu <| ec (hN k) <| e0)
theorem B3 (m : Mm) (c : Cl) (d : Cl) (e : Evt) (l : List Ou) (ms : Mm) (hr : Rq.on d.n1.req = true) (hu : Nd.up d.n1 = false) (k : Nat) : ax (EE (k + 7)) (HH 11) NN (LB PP 11 10) 6 0 (Ssu m c d e 1 (Sp.mk ms c d e l)) (Ssu m c d e 2 (Sp.mk ms c d e l)) :=
  nx (et <| ep (rz 1) <| eg (G.at 1) <| en hr <| eb hu <| e0)
theorem AH (m : Mm) (c : Cl) (d : Cl) (e : Evt) (l : List Ou) (ms : Mm) (m2 : Mm) (hr : Rq.on d.n1.req = false) (hu : Nd.up d.n1 = true) (hN : ∀ k, ag PP GL XX HH NN (k + 7) 22 [A.imp 0, A.c (ii 1), A.agg (Su.cs d.n1.store.super)] [Sp.cs (Sp.mk (({ ms with w1 := rq0 } : Mm)) c d e l)] = some ([], [Sp.cs (Sp.mk m2 c d e l)])) (k : Nat) : ax (EE (k + 7)) (HH 11) NN (LB PP 11 10) 6 0 (Ssu m c d e 1 (Sp.mk ms c d e l)) (Ssu m c d e 2 (Sp.mk m2 c d e l)) :=
  nx (et <| ep (rz 1) <| eg (G.at 1) <| en hr <| ep (rz 1) <| eg (G.at 1) <| eb hu <| ec (hN k) <| e0)
theorem BH (m : Mm) (c : Cl) (d : Cl) (e : Evt) (l : List Ou) (ms : Mm) (hr : Rq.on d.n1.req = false) (hu : Nd.up d.n1 = false) (k : Nat) : ax (EE (k + 7)) (HH 11) NN (LB PP 11 10) 6 0 (Ssu m c d e 1 (Sp.mk ms c d e l)) (Ssu m c d e 2 (Sp.mk (({ ms with w1 := rqz } : Mm)) c d e l)) :=
  nx (et <| ep (rz 1) <| eg (G.at 1) <| en hr <| ep (rz 1) <| eg (G.at 1) <| eb hu <| e0)
def pF (m : Mm) (c : Cl) (d : Cl) (e : Evt) (s : Sp) : St := St.mk (hs 10 (T.k (K.v (V.ptr 4 0)) :: T.k (K.v (V.ptr 5 0)) :: hs 26 (T.k (K.agg (List.map V.c (Nd.cs d.n0) ++ List.map V.c (Nd.cs d.n1))) :: tc (ii 2) :: tc (bo false) :: hs 26 []))) [(List.map V.c (Mm.cs m)), List.map V.c (Cl.cs c), [V.c (ii e.kind), V.c (ii e.node), V.c (ii e.id), V.c (ii e.block), V.c (st e.data), V.c (u e.n), V.c (C.slice 1 (List.map eB e.keeps))], List.map V.c (Cl.cs d), [V.own 1 [] Tk.exact, V.own 1 [] Tk.exact, V.own 1 [] Tk.exact, V.own 1 [] Tk.exact, V.own 1 [] Tk.exact, V.own 1 [] Tk.exact, V.own 1 [] Tk.exact, V.own 1 [] Tk.exact, V.own 1 [] Tk.exact, V.own 1 [] Tk.exact, V.own 1 [] Tk.exact, V.own 1 [] Tk.exact, V.c (bo false), V.c (bo false), V.c (bo false), V.c (bo false), V.c (bo false), V.c (ii 0), V.c (ii 0), V.c (st ⟨#[]⟩), V.c (bo false), V.c (ii 0), V.c (ii 0), V.c (st ⟨#[]⟩), V.c (ii 0), V.c (ii 0)], (List.map V.c (Sp.cs s))] []
theorem Fp (m : Mm) (c : Cl) (d : Cl) (e : Evt) (s : Sp) (k : Nat) : bj (EE (k + 7)) (HH 11) NN (LB PP 11 10) (Ssu m c d e 2 s) (Ext.exit 2) (pF m c d e s) :=
  ou (ef <| e0)
end Go.Dm
namespace Go.Dm
open Go
set_option maxHeartbeats 1000000
set_option maxHeartbeats 0
theorem Fg (m : Mm) (c : Cl) (d : Cl) (e : Evt) (l : List Ou) (s1 : Sp) (s2 : Sp) (s3 : Sp) (s4 : Sp) (hS : ∀ k, ag PP GL XX HH NN (k + 7) 19 [A.imp 0] [Sp.cs (Sp.mk m c d e l)] = some ([], [Sp.cs s1])) (hW : ∀ k, ag PP GL XX HH NN (k + 7) 20 [A.imp 0] [Sp.cs s1] = some ([], [Sp.cs s2])) (hL : ∀ k, aA (EE (k + 7)) (HH 11) NN (LB PP 11 5) (Sst m c d e l 0 s2) (Ext.exit 0) (p9 m c d e l (l.length) s3)) (hM : ∀ k, aA (EE (k + 7)) (HH 11) NN (LB PP 11 10) (Ssu m c d e 0 s3) (Ext.exit 2) (pF m c d e s4)) (k : Nat) : ag PP GL XX HH NN (k + 8) 11 [A.agg (Mm.cs m), A.agg (Cl.cs c), A.agg (Evt.cs e), A.agg (Cl.cs d), A.c (C.slice 5 (List.map Ou.cs l))] [] = some ([Res.agg (Mm.cs s4.m)], []) := by
  exact rt (ec (hS k) <| ec (hW k) <| ep (af (Ou.cs) (l)) <| eg (G.len (l.length)) <| eg (G.loop (Ext.exit 0) (p9 m c d e l (l.length) s3)) <| ep (hL k) <| eg (G.loop (Ext.exit 2) (pF m c d e s4)) <| ep (hM k) <| e0) (rs := [Res.agg (Mm.cs s4.m)]) rfl
theorem sd (m : Mm) (n : Nd) : (bE m n).n0 = m.n0 ∧ (bE m n).n1 = m.n1 := by unfold bE; cases n.req.on <;> exact ⟨rfl, rfl⟩
theorem wT (m : Mm) (b : Su) : (dg m b).n1 = m.n1 := by unfold dg; cases b.inc <;> cases m.h0 <;> rfl
theorem Br (m : Mm) (n : Nd) : (oG m n).n1 = m.n1 := by
  unfold oG
  exact ai (p := fun (x : Mm) => x.n1 = m.n1) ((wT _ _).trans (sd m n).2) (sd m n).2
theorem Gt {N M : Nat} (m : Mm) (c d : Cl) (e : Evt) (l : List Ou) (m0 : Mm) (h : Mg N M m0) (hN : N ≤ 100000) (hc : m0.count + l.length < 1000000) (hn : ∀ o ∈ l, o.node = 0 ∨ o.node = 1) (k : Nat) :
    aA (EE (k + 7)) (HH 11) NN (LB PP 11 5) (Sst m c d e l 0 ⟨m0, c, d, e, l⟩) (.exit 0) (p9 m c d e l l.length ⟨l.foldl (a5 e) m0, c, d, e, l⟩) := by
  have hlen : l.length ≤ 1000000 := by have := h.c; omega
  refine cq (E := EE (k + 7)) (H := HH 11) (n := NN) (b := LB PP 11 5) (s0 := Sst m c d e l 0 ⟨m0, c, d, e, l⟩) (fun (s : Mm) (i : Nat) => Sst m c d e l (i : Nat) ⟨s, c, d, e, l⟩) (fun i s => Mg N M s ∧ s.count ≤ m0.count + i) l (a5 e) m0 (nv := 6) (nt := 0) (e := .exit 0) (t := fun s => p9 m c d e l l.length ⟨s, c, d, e, l⟩) rfl (by kernel_rfl) (by kernel_rfl) ⟨h, by simp⟩ (fun s i x hx hp => ?_) (fun _ => Ge m c d e l _ _ k dge) (by unfold NN; omega)
  obtain ⟨hg, hcs⟩ := hp
  have hlt := bO hx
  have ho := hn x (List.mem_of_getElem? hx)
  have hw := mq hx (by omega)
  have hm := m7 hg (by omega) e x
  refine ⟨?_, hm.g, by have := hm.c2; omega⟩
  have := FV m c d e l i x hx ⟨s, c, d, e, l⟩ ⟨a5 e s x, c, d, e, l⟩ (fun k => zC hg hN (by omega) c d e l x ho (k + 4)) k (dlt hx)
  rwa [hw] at this
def upG (d : Cl) (s : Mm) (i : Nat) : Mm := if i = 0 then oG s d.n0 else qw s d.n1
theorem EQ (m : Mm) (c d : Cl) (e : Evt) (l : List Ou) (m0 : Mm) (h0 : m0.n0.last.length ≤ 1000000) (h1 : m0.n1.last.length ≤ 1000000) (k : Nat) :
    aA (EE (k + 7)) (HH 11) NN (LB PP 11 10) (Ssu m c d e 0 ⟨m0, c, d, e, l⟩) (.exit 2) (pF m c d e ⟨qw (oG m0 d.n0) d.n1, c, d, e, l⟩) := by
  refine cq (E := EE (k + 7)) (H := HH 11) (n := NN) (b := LB PP 11 10) (s0 := Ssu m c d e 0 ⟨m0, c, d, e, l⟩) (fun (s : Mm) (i : Nat) => Ssu m c d e (i : Nat) ⟨s, c, d, e, l⟩) (fun i s => (i = 0 → s.n0.last.length ≤ 1000000) ∧ (i ≤ 1 → s.n1.last.length ≤ 1000000)) [0, 1] (upG d) m0 (nv := 6) (nt := 0) (e := .exit 2) (t := fun s => pF m c d e ⟨s, c, d, e, l⟩) rfl (by kernel_rfl) (by kernel_rfl) ⟨fun _ => h0, fun _ => h1⟩ (fun s i x hx hp => ?_) (fun _ => Fp m c d e _ k) (by unfold NN; decide)
  match i, hx with
  | 0, hx =>
    obtain rfl : x = 0 := by simpa using hx.symm
    have hl := hp.1 rfl
    have hb := hp.2 (by omega)
    refine ⟨?_, fun h => absurd h (by simp), fun _ => by show (oG s d.n0).n1.last.length ≤ _; rw [Br]; exact hb⟩
    show ax _ _ _ _ _ _ (Ssu m c d e 0 ⟨s, c, d, e, l⟩) (Ssu m c d e 1 ⟨oG s d.n0, c, d, e, l⟩)
    cases hr : d.n0.req.on with
    | true =>
      have e1 : bE s d.n0 = s := by unfold bE; rw [hr]; rfl
      cases hu : d.n0.up with
      | true =>
        have : oG s d.n0 = dg s d.n0.store.super := by unfold oG; rw [hu, e1]; rfl
        rw [this]
        exact BJ m c d e l s _ hr hu (fun k => Ar s c d e l d.n0.store.super hl (k + 4)) k
      | false =>
        have : oG s d.n0 = s := by unfold oG; rw [hu, e1]; rfl
        rw [this]
        exact A8 m c d e l s hr hu k
    | false =>
      have e1 : bE s d.n0 = { s with w0 := rq0 } := by unfold bE; rw [hr]; rfl
      cases hu : d.n0.up with
      | true =>
        have : oG s d.n0 = dg { s with w0 := rq0 } d.n0.store.super := by unfold oG; rw [hu, e1]; rfl
        rw [this]
        exact Cw m c d e l s _ hr hu (fun k => Ar { s with w0 := rq0 } c d e l d.n0.store.super hl (k + 4)) k
      | false =>
        have : oG s d.n0 = { s with w0 := rq0 } := by unfold oG; rw [hu, e1]; rfl
        rw [this]
        exact Cd m c d e l s hr hu k
  | 1, hx =>
    obtain rfl : x = 1 := by simpa using hx.symm
    have hl := hp.2 (by omega)
    refine ⟨?_, fun h => absurd h (by simp), fun h => absurd h (by omega)⟩
    show ax _ _ _ _ _ _ (Ssu m c d e 1 ⟨s, c, d, e, l⟩) (Ssu m c d e 2 ⟨qw s d.n1, c, d, e, l⟩)
    cases hr : d.n1.req.on with
    | true =>
      have e1 : bI s d.n1 = s := by unfold bI; rw [hr]; rfl
      cases hu : d.n1.up with
      | true =>
        have : qw s d.n1 = dz s d.n1.store.super := by unfold qw; rw [hu, e1]; rfl
        rw [this]
        exact Ba m c d e l s _ hr hu (fun k => Ag s c d e l d.n1.store.super hl (k + 4)) k
      | false =>
        have : qw s d.n1 = s := by unfold qw; rw [hu, e1]; rfl
        rw [this]
        exact B3 m c d e l s hr hu k
    | false =>
      have e1 : bI s d.n1 = { s with w1 := rq0 } := by unfold bI; rw [hr]; rfl
      cases hu : d.n1.up with
      | true =>
        have : qw s d.n1 = dz { s with w1 := rq0 } d.n1.store.super := by unfold qw; rw [hu, e1]; rfl
        rw [this]
        exact AH m c d e l s _ hr hu (fun k => Ag { s with w1 := rq0 } c d e l d.n1.store.super hl (k + 4)) k
      | false =>
        have : qw s d.n1 = { s with w1 := rq0 } := by unfold qw; rw [hu, e1]; rfl
        rw [this]
        exact BH m c d e l s hr hu k
  | i + 2, hx => exact absurd hx (by simp)
theorem Al {N M : Nat} {m : Mm} (h : Mg N M m) (hN : N ≤ 100000) (hM : M + 2 ≤ 100000) (c d : Cl) (e : Evt) (l : List Ou) (hc : m.count + l.length < 1000000) (hn : ∀ o ∈ l, o.node = 0 ∨ o.node = 1) (k : Nat) :
    ag PP GL XX HH NN (k + 8) 11 [.agg m.cs, .agg c.cs, .agg e.cs, .agg d.cs, .c (.slice 5 (l.map Ou.cs))] [] = some ([.agg (my m c e d l).cs], []) := by
  have hlen : l.length ≤ 1000000 := by have := h.c; omega
  obtain ⟨g1, _⟩ := mV h c
  have g2 := pi g1 c e l
  obtain ⟨n1, _⟩ := sw (aN m c) c e l
  have hc2 : (bk (aN m c) c e l).count + l.length < 1000000 := by rw [n1]; exact hc
  have g3 := jM e l g2 hc2
  exact Fg m c d e l ⟨aN m c, c, d, e, l⟩ ⟨bk (aN m c) c e l, c, d, e, l⟩ ⟨l.foldl (a5 e) (bk (aN m c) c e l), c, d, e, l⟩ ⟨my m c e d l, c, d, e, l⟩
    (fun k => yQ m c d e l (k + 6)) (fun k => BV g1 hN (by omega) c d e l hlen (k + 1)) (fun k => Gt m c d e l _ g2 hN hc2 hn k) (fun k => EQ m c d e l _ (by rw [g3.g.v0.l]; omega) (by rw [g3.g.v1.l]; omega) k) k
end Go.Dm
namespace Go.Dm
open Go
set_option maxHeartbeats 1000000
set_option maxHeartbeats 0
abbrev Bf (l : List ByteArray) : List C := [.slice 1 (l.map eS), .slice 1 (List.replicate l.length [.slice 1 []]), .slice 1 (List.replicate l.length [ii 0])]
theorem r5 (l : List ByteArray) : Bf l = (Bh l).cs := by
  have e1 : (List.replicate l.length ([] : List ByteArray)).map eL = List.replicate l.length [.slice 1 []] := by rw [List.map_replicate]; rfl
  have e2 : (List.replicate l.length (0 : Int)).map eI = List.replicate l.length [ii 0] := by rw [List.map_replicate]
  show _ = [C.slice 1 (l.map eS), .slice 1 ((List.replicate l.length ([] : List ByteArray)).map eL), .slice 1 ((List.replicate l.length (0 : Int)).map eI)]
  rw [e1, e2]
theorem EU (c : Cl) (l0 : List ByteArray) (l1 : List ByteArray) (er0 : Int) (er1 : Int) (hA : ∀ k, ag PP GL XX HH NN (k + 6) 17 [A.agg (Dk.cs c.n0.store.disk)] [] = some ([Res.top 1 (List.map eS l0), Res.c (ii er0)], [])) (hB : ∀ k, ag PP GL XX HH NN (k + 6) 17 [A.agg (Dk.cs c.n1.store.disk)] [] = some ([Res.top 1 (List.map eS l1), Res.c (ii er1)], [])) (b0 : l0.length ≤ 1000000) (b1 : l1.length ≤ 1000000) (k : Nat) : ag PP GL XX HH NN (k + 7) 9 [A.agg (Cl.cs c)] [] = some ([Res.agg (Bf l0 ++ (Bf l1 ++ (Vl.cs vl0 ++ (Vl.cs vl0 ++ ([bo false, bo false, bo false, bo false] ++ (Rq.cs rq0 ++ (Rq.cs rq0 ++ [ii 0, ii 0])))))))], []) := by
  exact rt (eg (G.un) <| et <| ep (rz 0) <| eg (G.at 0) <| ec (hA k) <| ep (af (eS) (l0)) <| eg (G.len (l0.length)) <| ep (rfl : (↑(l0.length) : Int) = (↑(l0.length) : Int)) <| ep (rfl : (↑(l0.length) : Int) = (↑(l0.length) : Int)) <| ep (show l0.length ≤ 1073741824 from by omega) <| eg (G.at (l0.length)) <| ep (af (eS) (l0)) <| eg (G.len (l0.length)) <| ep (rfl : (↑(l0.length) : Int) = (↑(l0.length) : Int)) <| ep (rfl : (↑(l0.length) : Int) = (↑(l0.length) : Int)) <| ep (show l0.length ≤ 1073741824 from by omega) <| eg (G.at (l0.length)) <| ep (rz 0) <| eg (G.at 0) <| et <| ep (rz 1) <| eg (G.at 1) <| ec (hB k) <| ep (af (eS) (l1)) <| eg (G.len (l1.length)) <| ep (rfl : (↑(l1.length) : Int) = (↑(l1.length) : Int)) <| ep (rfl : (↑(l1.length) : Int) = (↑(l1.length) : Int)) <| ep (show l1.length ≤ 1073741824 from by omega) <| eg (G.at (l1.length)) <| ep (af (eS) (l1)) <| eg (G.len (l1.length)) <| ep (rfl : (↑(l1.length) : Int) = (↑(l1.length) : Int)) <| ep (rfl : (↑(l1.length) : Int) = (↑(l1.length) : Int)) <| ep (show l1.length ≤ 1073741824 from by omega) <| eg (G.at (l1.length)) <| ep (rz 1) <| eg (G.at 1) <| ef <| e0) (rs := [Res.agg [C.slice 1 (List.map eS l0), C.slice 1 (List.replicate (l0.length) (List.reverse [C.slice (Program.cellsOf (Env.P (nI PP (ag PP GL XX HH NN (k + 6)) GL HH NN 6)) 9) []])), C.slice 1 (List.replicate (l0.length) (List.reverse [ii 0])), C.slice 1 (List.map eS l1), C.slice 1 (List.replicate (l1.length) (List.reverse [C.slice (Program.cellsOf (Env.P (nI PP (ag PP GL XX HH NN (k + 6)) GL HH NN 6)) 9) []])), C.slice 1 (List.replicate (l1.length) (List.reverse [ii 0])), C.slice 1 [], C.slice 1 [], C.slice 1 [], C.slice 1 [], C.slice 1 [], C.slice 1 [], bo false, bo false, bo false, bo false, bo false, ii 0, ii 0, st ⟨#[]⟩, bo false, ii 0, ii 0, st ⟨#[]⟩, ii 0, ii 0]]) rfl
theorem AE (c : Cl) (s0 : c.n0.store.disk.sure.length ≤ 100000) (s1 : c.n1.store.disk.sure.length ≤ 100000) (c0 : c.n0.store.disk.cache.length ≤ 1000000) (c1 : c.n1.store.disk.cache.length ≤ 1000000) (k : Nat) : ag PP GL XX HH NN (k + 7) 9 [.agg c.cs] [] = some ([.agg (uz c).cs], []) := by
  have hlen : ∀ d : Dk, (iD d).1.length ≤ d.sure.length := fun d => by
    unfold iD
    split
    · exact Nat.zero_le _
    · simp
  have := EU c (iD c.n0.store.disk).1 (iD c.n1.store.disk).1 _ _ (fun k => C3 c.n0.store.disk (by omega) c0 (k + 1)) (fun k => C3 c.n1.store.disk (by omega) c1 (k + 1)) (by have := hlen c.n0.store.disk; omega) (by have := hlen c.n1.store.disk; omega) k
  rw [this, r5, r5]
  rfl
end Go.Dm
namespace Go.Dm
open Go
set_option maxHeartbeats 1000000
set_option maxHeartbeats 0
theorem D7 (a : Mm) (b : Mm) (s0 : Bool) (s1 : Bool) (hA : ∀ k, ag PP GL XX HH NN (k + 7) 24 [A.c (C.slice 3 [Vl.cs a.n0, Vl.cs a.n1]), A.c (C.slice 3 [Vl.cs b.n0, Vl.cs b.n1]), A.c (C.fn 25 [])] [] = some ([Res.c (bo s0)], [])) (q : s0 = false) (k : Nat) : ag PP GL XX HH NN (k + 8) 13 [A.agg (Mm.cs a), A.agg (Mm.cs b)] [] = some ([Res.c (bo false)], []) := by
  exact rt (ec (hA k) <| eb6 q <| kj <| kj <| ef6 <| e0) (rs := [Res.c (bo false)]) rfl
theorem Em (a : Mm) (b : Mm) (s0 : Bool) (s1 : Bool) (hA : ∀ k, ag PP GL XX HH NN (k + 7) 24 [A.c (C.slice 3 [Vl.cs a.n0, Vl.cs a.n1]), A.c (C.slice 3 [Vl.cs b.n0, Vl.cs b.n1]), A.c (C.fn 25 [])] [] = some ([Res.c (bo s0)], [])) (hB : ∀ k, ag PP GL XX HH NN (k + 7) 24 [A.c (C.slice 3 [Vl.cs a.s0, Vl.cs a.s1]), A.c (C.slice 3 [Vl.cs b.s0, Vl.cs b.s1]), A.c (C.fn 25 [])] [] = some ([Res.c (bo s1)], [])) (q : s0 = true) (q1 : s1 = true) (e0' : (Mm.h0 a == Mm.h0 b) = true) (e1' : (Mm.h1 a == Mm.h1 b) = true) (e2' : (Mm.d0 a == Mm.d0 b) = true) (e3' : (Mm.d1 a == Mm.d1 b) = true) (f0 : (Rq.on a.w0 == Rq.on b.w0) = true) (f1 : (Rq.id a.w0 == Rq.id b.w0) = true) (f2 : (Rq.block a.w0 == Rq.block b.w0) = true) (f3 : (Rq.data a.w0 == Rq.data b.w0) = true) (g0 : (Rq.on a.w1 == Rq.on b.w1) = true) (g1 : (Rq.id a.w1 == Rq.id b.w1) = true) (g2 : (Rq.block a.w1 == Rq.block b.w1) = true) (g3 : (Rq.data a.w1 == Rq.data b.w1) = true) (u0 : (Mm.count a == Mm.count b) = true) (u1 : (Mm.lost a == Mm.lost b) = true) (k : Nat) : ag PP GL XX HH NN (k + 8) 13 [A.agg (Mm.cs a), A.agg (Mm.cs b)] [] = some ([Res.c (bo true)], []) := by
  rcases bft (Mm.h0 a == Mm.h0 b && (Mm.h1 a == Mm.h1 b && true)) with z0 | z0
  · rcases bft (Mm.d0 a == Mm.d0 b && (Mm.d1 a == Mm.d1 b && true)) with z1 | z1
    · rcases bft (Rq.on a.w0 == Rq.on b.w0 && (Rq.id a.w0 == Rq.id b.w0 && (Rq.block a.w0 == Rq.block b.w0 && (Rq.data a.w0 == Rq.data b.w0 && true))) && (Rq.on a.w1 == Rq.on b.w1 && (Rq.id a.w1 == Rq.id b.w1 && (Rq.block a.w1 == Rq.block b.w1 && (Rq.data a.w1 == Rq.data b.w1 && true))) && true)) with z2 | z2
      · exact rt (ec (hA k) <| eb5 q <| ec (hB k) <| eb q <| eb6 q1 <| eb6 z0 <| eb6 z1 <| eb6 z2 <| eb6 u0 <| e0) (rs := [Res.c (bo (Mm.lost a == Mm.lost b))]) (by first | (simp only [z0, z1, z2, vq] <;> rfl) | (simp_all only [vq] <;> rfl))
      · exact rt (ec (hA k) <| eb5 q <| ec (hB k) <| eb q <| eb6 q1 <| eb6 z0 <| eb6 z1 <| eb6 z2 <| ef6 <| e0) (rs := [Res.c (bo false)]) (by first | (simp only [z0, z1, z2, vq] <;> rfl) | (simp_all only [vq] <;> rfl))
    · exact rt (ec (hA k) <| eb5 q <| ec (hB k) <| eb q <| eb6 q1 <| eb6 z0 <| eb6 z1 <| kj <| e0) (rs := [Res.c (bo false)]) (by first | (simp only [z0, z1, vq] <;> rfl) | (simp_all only [vq] <;> rfl))
  · exact rt (ec (hA k) <| eb5 q <| ec (hB k) <| eb q <| eb6 q1 <| eb6 z0 <| kj <| ef6 <| e0) (rs := [Res.c (bo false)]) (by first | (simp only [z0, vq] <;> rfl) | (simp_all only [vq] <;> rfl))
def Sfi (v : Vl) (n : Nd) (c0 : Int) : St := St.mk (T.hole :: T.hole :: T.k (K.v (V.ptr 0 0)) :: T.k (K.v (V.ptr 1 0)) :: hs 7 (tc (ii n.store.super.blocks) :: tc (ii c0) :: hs 37 [])) [[V.c (C.slice 1 (List.map eS v.acked)), V.c (C.slice 1 (List.map eL v.begun)), V.c (C.slice 1 (List.map eI v.last))], (List.map V.c (Nd.cs n))] []
theorem FM (v : Vl) (n : Nd) (i : Nat) (x : ByteArray) (hx : v.acked[i]? = some x) (hc : n.store.disk.cache.length ≤ 1000000) (k : Nat) (z0 : (decide ((↑i : Int) < Su.blocks n.store.super)) = true) (z1 : (Prod.snd (ak n.store.disk (↑i : Int)) == 0) = true) (z2 : (ge v (↑i : Int)) = true) (z3 : (Prod.fst (ak n.store.disk (↑i : Int)) == x) = true) : ax (EE (k + 6)) (HH 23) NN (LB PP 23 2) 2 0 (Sfi v n (↑i : Int)) (Sfi v n (IntKind.wrap .i64 ((↑i : Int) + 1))) :=
  nx (eb z0 <| ec (rU n.store ((↑i : Int)) hc (k + 1)) <| en3 z1 <| ec (lj v ((↑i : Int)) (k + 5)) <| en2 z1 <| en5 z2 <| ep (rz i) <| ep (ao (f := eS) hx) <| eg (G.idx i [st x]) <| en3 z2 <| en8 z3 <| en z2 <| en z3 <| en z2 <| ef <| e0)
theorem Gv (v : Vl) (n : Nd) (i : Nat) (x : ByteArray) (y : List ByteArray) (hx : v.acked[i]? = some x) (hy : v.begun[i]? = some y) (hyl : y.length ≤ 1000000) (hc : n.store.disk.cache.length ≤ 1000000) (k : Nat) (z0 : (decide ((↑i : Int) < Su.blocks n.store.super)) = true) (z1 : (Prod.snd (ak n.store.disk (↑i : Int)) == 0) = true) (z2 : (ge v (↑i : Int)) = true) (z3 : (Prod.fst (ak n.store.disk (↑i : Int)) == x) = false) (z4 : (List.contains y (ak n.store.disk (↑i : Int)).1) = true) : ax (EE (k + 6)) (HH 23) NN (LB PP 23 2) 2 0 (Sfi v n (↑i : Int)) (Sfi v n (IntKind.wrap .i64 ((↑i : Int) + 1))) :=
  nx (eb z0 <| ec (rU n.store ((↑i : Int)) hc (k + 1)) <| en3 z1 <| ec (lj v ((↑i : Int)) (k + 5)) <| en2 z1 <| en5 z2 <| ep (rz i) <| ep (ao (f := eS) hx) <| eg (G.idx i [st x]) <| en3 z2 <| en4 z3 <| ep (rz i) <| ep (ao (f := eL) hy) <| eg (G.idx i [C.slice 1 (List.map eS y)]) <| en3 z3 <| ec (m4 y (ak n.store.disk (↑i : Int)).1 hyl (k + 3)) <| en z3 <| en z2 <| en z3 <| en z2 <| en z4 <| e0)
def sT (v : Vl) (n : Nd) (i : Nat) (x : ByteArray) (y : List ByteArray) : St := St.mk [T.hole, T.hole, T.k (K.v (V.ptr 0 0)), T.k (K.v (V.ptr 1 0)), tc (bo false), tc (ii (↑i : Int)), tc (st (ak n.store.disk (↑i : Int)).1), tc (ii (ak n.store.disk (↑i : Int)).2), T.hole, T.hole, T.hole, tc (ii n.store.super.blocks), tc (ii (↑i : Int)), tc (bo (decide ((↑i : Int) < Su.blocks n.store.super))), tc (ii (↑i : Int)), T.tup [K.v (V.c (st (ak n.store.disk (↑i : Int)).1)), K.v (V.c (ii (ak n.store.disk (↑i : Int)).2))], T.k (K.v (V.ptr 1 2)), T.k (K.agg [V.c (C.slice 1 (List.map eS n.store.disk.sure)), V.c (C.slice 2 (List.map Wr.cs n.store.disk.cache)), V.c (ii n.store.disk.fuse), V.c (bo n.store.disk.dead), V.c (ii n.store.super.blocks), V.c (u n.store.super.v.cur), V.c (u n.store.super.v.bit), V.c (u n.store.super.v.o0), V.c (u n.store.super.v.o1), V.c (bo n.store.super.inc), V.c (bo n.store.super.pri), V.c (bo n.store.super.dis), V.c (w4 (mi n.store.mask))]), tc (ii (↑i : Int)), T.tup [K.v (V.c (st (ak n.store.disk (↑i : Int)).1)), K.v (V.c (ii (ak n.store.disk (↑i : Int)).2))], tc (st (ak n.store.disk (↑i : Int)).1), tc (ii (ak n.store.disk (↑i : Int)).2), tc (ii (ak n.store.disk (↑i : Int)).2), tc (bo (Prod.snd (ak n.store.disk (↑i : Int)) != 0)), tc (bo (Prod.snd (ak n.store.disk (↑i : Int)) != 0)), T.k (K.agg [V.c (C.slice 1 (List.map eS v.acked)), V.c (C.slice 1 (List.map eL v.begun)), V.c (C.slice 1 (List.map eI v.last))]), tc (ii (↑i : Int)), tc (bo (ge v (↑i : Int))), tc (bo !ge v (↑i : Int)), tc (bo !ge v (↑i : Int)), tc (bo !ge v (↑i : Int)), tc (st (ak n.store.disk (↑i : Int)).1), T.k (K.v (V.ptr 0 0)), tc (C.slice 1 (List.map eS v.acked)), tc (ii (↑i : Int)), tc (C.rptr [st x]), tc (st x), tc (bo !Prod.fst (ak n.store.disk (↑i : Int)) == x), tc (bo !Prod.fst (ak n.store.disk (↑i : Int)) == x), T.k (K.v (V.ptr 0 1)), tc (C.slice 1 (List.map eL v.begun)), tc (ii (↑i : Int)), tc (C.rptr [C.slice 1 (List.map eS y)]), tc (C.slice 1 (List.map eS y)), tc (st (ak n.store.disk (↑i : Int)).1), tc (bo (List.contains y (ak n.store.disk (↑i : Int)).1)), tc (bo !List.contains y (ak n.store.disk (↑i : Int)).1), tc (bo !List.contains y (ak n.store.disk (↑i : Int)).1), tc (bo !List.contains y (ak n.store.disk (↑i : Int)).1), T.hole] [[V.c (C.slice 1 (List.map eS v.acked)), V.c (C.slice 1 (List.map eL v.begun)), V.c (C.slice 1 (List.map eI v.last))], (List.map V.c (Nd.cs n))] []
theorem Fs (v : Vl) (n : Nd) (i : Nat) (x : ByteArray) (y : List ByteArray) (hx : v.acked[i]? = some x) (hy : v.begun[i]? = some y) (hyl : y.length ≤ 1000000) (hc : n.store.disk.cache.length ≤ 1000000) (k : Nat) (z0 : (decide ((↑i : Int) < Su.blocks n.store.super)) = true) (z1 : (Prod.snd (ak n.store.disk (↑i : Int)) == 0) = true) (z2 : (ge v (↑i : Int)) = true) (z3 : (Prod.fst (ak n.store.disk (↑i : Int)) == x) = false) (z4 : (List.contains y (ak n.store.disk (↑i : Int)).1) = false) : bj (EE (k + 6)) (HH 23) NN (LB PP 23 2) (Sfi v n (↑i : Int)) (Ext.ret) (sT v n i x y) :=
  ou (eb z0 <| ec (rU n.store ((↑i : Int)) hc (k + 1)) <| en3 z1 <| ec (lj v ((↑i : Int)) (k + 5)) <| en2 z1 <| en5 z2 <| ep (rz i) <| ep (ao (f := eS) hx) <| eg (G.idx i [st x]) <| en3 z2 <| en4 z3 <| ep (rz i) <| ep (ao (f := eL) hy) <| eg (G.idx i [C.slice 1 (List.map eS y)]) <| en3 z3 <| ec (m4 y (ak n.store.disk (↑i : Int)).1 hyl (k + 3)) <| en z3 <| en z2 <| en z3 <| en z2 <| en z4 <| e0)
def r7 (v : Vl) (n : Nd) (i : Nat) : St := St.mk (T.hole :: T.hole :: T.k (K.v (V.ptr 0 0)) :: T.k (K.v (V.ptr 1 0)) :: tc (bo false) :: tc (ii (↑i : Int)) :: tc (st (ak n.store.disk (↑i : Int)).1) :: tc (ii (ak n.store.disk (↑i : Int)).2) :: T.hole :: T.hole :: T.hole :: tc (ii n.store.super.blocks) :: tc (ii (↑i : Int)) :: tc (bo (decide ((↑i : Int) < Su.blocks n.store.super))) :: tc (ii (↑i : Int)) :: T.tup [K.v (V.c (st (ak n.store.disk (↑i : Int)).1)), K.v (V.c (ii (ak n.store.disk (↑i : Int)).2))] :: T.k (K.v (V.ptr 1 2)) :: T.k (K.agg [V.c (C.slice 1 (List.map eS n.store.disk.sure)), V.c (C.slice 2 (List.map Wr.cs n.store.disk.cache)), V.c (ii n.store.disk.fuse), V.c (bo n.store.disk.dead), V.c (ii n.store.super.blocks), V.c (u n.store.super.v.cur), V.c (u n.store.super.v.bit), V.c (u n.store.super.v.o0), V.c (u n.store.super.v.o1), V.c (bo n.store.super.inc), V.c (bo n.store.super.pri), V.c (bo n.store.super.dis), V.c (w4 (mi n.store.mask))]) :: tc (ii (↑i : Int)) :: T.tup [K.v (V.c (st (ak n.store.disk (↑i : Int)).1)), K.v (V.c (ii (ak n.store.disk (↑i : Int)).2))] :: tc (st (ak n.store.disk (↑i : Int)).1) :: tc (ii (ak n.store.disk (↑i : Int)).2) :: tc (ii (ak n.store.disk (↑i : Int)).2) :: tc (bo (Prod.snd (ak n.store.disk (↑i : Int)) != 0)) :: tc (bo (Prod.snd (ak n.store.disk (↑i : Int)) != 0)) :: ks 4 (tc (bo true) :: tc (bo true) :: ks 17 [tc (bo true), T.hole])) [[V.c (C.slice 1 (List.map eS v.acked)), V.c (C.slice 1 (List.map eL v.begun)), V.c (C.slice 1 (List.map eI v.last))], (List.map V.c (Nd.cs n))] []
theorem GO (v : Vl) (n : Nd) (i : Nat) (hc : n.store.disk.cache.length ≤ 1000000) (k : Nat) (z0 : (decide ((↑i : Int) < Su.blocks n.store.super)) = true) (z1 : (Prod.snd (ak n.store.disk (↑i : Int)) == 0) = false) : bj (EE (k + 6)) (HH 23) NN (LB PP 23 2) (Sfi v n (↑i : Int)) (Ext.ret) (r7 v n i) :=
  ou (eb z0 <| ec (rU n.store ((↑i : Int)) hc (k + 1)) <| en5 z1 <| xL <| e0)
def rP (v : Vl) (n : Nd) (i : Nat) : St := St.mk (T.hole :: T.hole :: T.k (K.v (V.ptr 0 0)) :: T.k (K.v (V.ptr 1 0)) :: hs 7 (tc (ii n.store.super.blocks) :: tc (ii (↑i : Int)) :: tc (bo (decide ((↑i : Int) < Su.blocks n.store.super))) :: hs 36 [])) [[V.c (C.slice 1 (List.map eS v.acked)), V.c (C.slice 1 (List.map eL v.begun)), V.c (C.slice 1 (List.map eI v.last))], (List.map V.c (Nd.cs n))] []
theorem GM (v : Vl) (n : Nd) (i : Nat) (k : Nat) (z0 : (decide ((↑i : Int) < Su.blocks n.store.super)) = false) : bj (EE (k + 6)) (HH 23) NN (LB PP 23 2) (Sfi v n (↑i : Int)) (Ext.exit 0) (rP v n i) :=
  ou (eb z0 <| e0)
theorem Hs (v : Vl) (n : Nd) (i : Nat) (x : ByteArray) (y : List ByteArray) (hL : ∀ k, aA (EE (k + 6)) (HH 23) NN (LB PP 23 2) (Sfi v n 0) Ext.ret (sT v n i x y)) (k : Nat) : ag PP GL XX HH NN (k + 7) 23 [A.agg (Vl.cs v), A.agg (Nd.cs n)] [] = some ([Res.c (bo false)], []) := by
  exact rt (eg (G.loop Ext.ret (sT v n i x y)) <| ep (hL k) <| e0) (rs := [Res.c (bo false)]) rfl
theorem HF (v : Vl) (n : Nd) (i : Nat) (hL : ∀ k, aA (EE (k + 6)) (HH 23) NN (LB PP 23 2) (Sfi v n 0) Ext.ret (r7 v n i)) (k : Nat) : ag PP GL XX HH NN (k + 7) 23 [A.agg (Vl.cs v), A.agg (Nd.cs n)] [] = some ([Res.c (bo false)], []) := by
  exact rt (eg (G.loop Ext.ret (r7 v n i)) <| ep (hL k) <| e0) (rs := [Res.c (bo false)]) rfl
theorem Ht (v : Vl) (n : Nd) (i : Nat) (hL : ∀ k, aA (EE (k + 6)) (HH 23) NN (LB PP 23 2) (Sfi v n 0) (Ext.exit 0) (rP v n i)) (k : Nat) : ag PP GL XX HH NN (k + 7) 23 [A.agg (Vl.cs v), A.agg (Nd.cs n)] [] = some ([Res.c (bo true)], []) := by
  exact rt (eg (G.loop (Ext.exit 0) (rP v n i)) <| ep (hL k) <| e0) (rs := [Res.c (bo true)]) rfl
def EH (v : Vl) (n : Nd) (b : Nat) : Bool := !((ak n.store.disk (b : Int)).2 == 0 && Gc v b (ak n.store.disk (b : Int)).1)
theorem zQ {N : Nat} {v : Vl} (hv : VL N v) (hN : N ≤ 100000) (hw : ∀ x ∈ v.begun, x.length ≤ 1000000) (n : Nd) (B : Nat) (hb : n.store.super.blocks = (B : Int)) (hB : B ≤ N) (hc : n.store.disk.cache.length ≤ 1000000) (k : Nat) : ag PP GL XX HH NN (k + 7) 23 [.agg v.cs, .agg n.cs] [] = some ([.c (bo (xn v n))], []) := by
  have hf : xn v n = !((List.range B).any (EH v n)) := by
    unfold xn
    rw [hb, Int.toNat_natCast, List.all_eq_not_any_not]
    rfl
  rw [hf]
  have hx : ∀ q : Nat, q < B → v.acked[q]? = some (v.acked.getD q ⟨#[]⟩) := fun q hq => by
    have : q < v.acked.length := by rw [hv.a]; omega
    rw [List.getD_eq_getElem?_getD, List.getElem?_eq_getElem this]; rfl
  have hy : ∀ q : Nat, q < B → v.begun[q]? = some (v.begun.getD q []) := fun q hq => by
    have : q < v.begun.length := by rw [hv.b]; omega
    rw [List.getD_eq_getElem?_getD, List.getElem?_eq_getElem this]; rfl
  have hyl : ∀ q : Nat, q < B → (v.begun.getD q []).length ≤ 1000000 := fun q hq => hw _ (List.mem_of_getElem? (hy q hq))
  have hlt : ∀ q : Nat, q < B → decide ((q : Int) < n.store.super.blocks) = true := fun q hq => decide_eq_true (by rw [hb]; omega)
  have hvh : ∀ q : Nat, q < B → ge v (q : Int) = true := fun q hq => by
    unfold ge
    rw [Bool.and_eq_true]
    exact ⟨decide_eq_true (by omega), decide_eq_true (by rw [hv.a]; omega)⟩
  have hbc : ∀ q : Nat, q < B → EH v n q = !((ak n.store.disk (q : Int)).2 == 0 && ((ak n.store.disk (q : Int)).1 == v.acked.getD q ⟨#[]⟩ || (v.begun.getD q []).contains (ak n.store.disk (q : Int)).1)) := fun q hq => by
    unfold EH Gc
    have : decide (q < v.acked.length) = true := decide_eq_true (by rw [hv.a]; omega)
    rw [this, Bool.true_and]
  rcases gA (E := fun k => EE (k + 6)) (H := HH 23) (n := NN) (b := LB PP 23 2) (fun j => Sfi v n (j : Nat)) (List.range B) (EH v n) (fun j q => if ((ak n.store.disk (q : Int)).2 == 0) = true then sT v n q (v.acked.getD q ⟨#[]⟩) (v.begun.getD q []) else r7 v n q) (rP v n B) (nv := 2) (nt := 0) (e := .ret) (e' := .exit 0) (by kernel_rfl) (by kernel_rfl)
    (fun k j q hq hp => by
      obtain ⟨rfl, hj⟩ := eu hq
      rw [hbc q hj] at hp
      simp only [Bool.not_eq_false', Bool.and_eq_true] at hp
      obtain ⟨p1, p2⟩ := hp
      have e64 := w64 hj (show B < 9223372036854775808 by omega)
      cases h3 : (ak n.store.disk (q : Int)).1 == v.acked.getD q ⟨#[]⟩ with
      | true =>
        have := FM v n q _ (hx q hj) hc k (hlt q hj) p1 (hvh q hj) h3
        rwa [e64] at this
      | false =>
        rw [h3, Bool.false_or] at p2
        have := Gv v n q _ _ (hx q hj) (hy q hj) (hyl q hj) hc k (hlt q hj) p1 (hvh q hj) h3 p2
        rwa [e64] at this)
    (fun k j q hq hp => by
      obtain ⟨rfl, hj⟩ := eu hq
      rw [hbc q hj] at hp
      cases h1 : (ak n.store.disk (q : Int)).2 == 0 with
      | false =>
        rw [if_neg (by simp)]
        exact GO v n q hc k (hlt q hj) h1
      | true =>
        rw [if_pos rfl]
        rw [h1, Bool.true_and] at hp
        simp only [Bool.not_eq_true', Bool.or_eq_false_iff] at hp
        exact Fs v n q _ _ (hx q hj) (hy q hj) (hyl q hj) hc k (hlt q hj) h1 (hvh q hj) hp.1 hp.2)
    (fun k => by rw [List.length_range]; exact GM v n B k (decide_eq_false (by rw [hb]; omega))) (by rw [List.length_range]; unfold NN; omega) with ⟨h1, h2⟩ | ⟨h1, j, q, hq, hp, hf, _, h2⟩
  · rw [h1]; exact Ht v n _ h2 k
  · rw [h1]
    by_cases h3 : ((ak n.store.disk (q : Int)).2 == 0) = true
    · rw [if_pos h3] at h2
      exact Hs v n q _ _ h2 k
    · rw [if_neg h3] at h2
      exact HF v n q h2 k
theorem GU (m : Mm) (c : Cl) (f0 : Bool) (f1 : Bool) (hA : ∀ k, ag PP GL XX HH NN (k + 7) 23 [A.agg (Vl.cs m.n0), A.agg (Nd.cs c.n0)] [] = some ([Res.c (bo f0)], [])) (hB : ∀ k, ag PP GL XX HH NN (k + 7) 23 [A.agg (Vl.cs m.n1), A.agg (Nd.cs c.n1)] [] = some ([Res.c (bo f1)], [])) (k : Nat) : ag PP GL XX HH NN (k + 8) 12 [A.agg (Mm.cs m), A.agg (Cl.cs c)] [] = some ([Res.c (bo ((!Nd.up c.n0 || Su.inc c.n0.store.super || f0) && (!Nd.up c.n1 || Su.inc c.n1.store.super || f1)))], []) := by
  rcases bft c.n0.up with z0 | z0
  · rcases bft c.n0.store.super.inc with z1 | z1
    · rcases bft c.n1.up with z2 | z2
      · rcases bft c.n1.store.super.inc with z3 | z3
        · exact rt (eg (G.un) <| et <| ep (rz 0) <| eg (G.at 0) <| eb6 z0 <| en8 z1 <| ef <| et <| ep (rz 1) <| eg (G.at 1) <| eb6 z2 <| en8 z3 <| ef2 <| e0) (rs := [Res.c (bo true)]) (by first | (simp only [z0, z1, z2, z3, vq] <;> rfl) | (simp_all only [vq] <;> rfl))
        · rcases bft (f1) with z4 | z4
          · exact rt (eg (G.un) <| et <| ep (rz 0) <| eg (G.at 0) <| eb6 z0 <| en8 z1 <| ef <| et <| ep (rz 1) <| eg (G.at 1) <| eb6 z2 <| en3 z3 <| ep (rz 1) <| eg (G.at 1) <| en3 z3 <| ec (hB k) <| en2 z3 <| en z4 <| ef <| e0) (rs := [Res.c (bo true)]) (by first | (simp only [z0, z1, z2, z3, z4, vq] <;> rfl) | (simp_all only [vq] <;> rfl))
          · exact rt (eg (G.un) <| et <| ep (rz 0) <| eg (G.at 0) <| eb6 z0 <| en8 z1 <| ef <| et <| ep (rz 1) <| eg (G.at 1) <| eb6 z2 <| en3 z3 <| ep (rz 1) <| eg (G.at 1) <| en3 z3 <| ec (hB k) <| en2 z3 <| en z4 <| e0) (rs := [Res.c (bo false)]) (by first | (simp only [z0, z1, z2, z3, z4, vq] <;> rfl) | (simp_all only [vq] <;> rfl))
      · exact rt (eg (G.un) <| et <| ep (rz 0) <| eg (G.at 0) <| eb6 z0 <| en8 z1 <| ef <| et <| ep (rz 1) <| eg (G.at 1) <| eb6 z2 <| zZ <| e0) (rs := [Res.c (bo true)]) (by first | (simp only [z0, z1, z2, vq] <;> rfl) | (simp_all only [vq] <;> rfl))
    · rcases bft (f0) with z2 | z2
      · rcases bft c.n1.up with z3 | z3
        · rcases bft c.n1.store.super.inc with z4 | z4
          · exact rt (eg (G.un) <| et <| ep (rz 0) <| eg (G.at 0) <| eb6 z0 <| en3 z1 <| ep (rz 0) <| eg (G.at 0) <| en3 z1 <| ec (hA k) <| en2 z1 <| en z2 <| et <| ep (rz 1) <| eg (G.at 1) <| eb6 z3 <| en8 z4 <| ef2 <| e0) (rs := [Res.c (bo true)]) (by first | (simp only [z0, z1, z2, z3, z4, vq] <;> rfl) | (simp_all only [vq] <;> rfl))
          · rcases bft (f1) with z5 | z5
            · exact rt (eg (G.un) <| et <| ep (rz 0) <| eg (G.at 0) <| eb6 z0 <| en3 z1 <| ep (rz 0) <| eg (G.at 0) <| en3 z1 <| ec (hA k) <| en2 z1 <| en z2 <| et <| ep (rz 1) <| eg (G.at 1) <| eb6 z3 <| en3 z4 <| ep (rz 1) <| eg (G.at 1) <| en3 z4 <| ec (hB k) <| en2 z4 <| en z5 <| ef <| e0) (rs := [Res.c (bo true)]) (by first | (simp only [z0, z1, z2, z3, z4, z5, vq] <;> rfl) | (simp_all only [vq] <;> rfl))
            · exact rt (eg (G.un) <| et <| ep (rz 0) <| eg (G.at 0) <| eb6 z0 <| en3 z1 <| ep (rz 0) <| eg (G.at 0) <| en3 z1 <| ec (hA k) <| en2 z1 <| en z2 <| et <| ep (rz 1) <| eg (G.at 1) <| eb6 z3 <| en3 z4 <| ep (rz 1) <| eg (G.at 1) <| en3 z4 <| ec (hB k) <| en2 z4 <| en z5 <| e0) (rs := [Res.c (bo false)]) (by first | (simp only [z0, z1, z2, z3, z4, z5, vq] <;> rfl) | (simp_all only [vq] <;> rfl))
        · exact rt (eg (G.un) <| et <| ep (rz 0) <| eg (G.at 0) <| eb6 z0 <| en3 z1 <| ep (rz 0) <| eg (G.at 0) <| en3 z1 <| ec (hA k) <| en2 z1 <| en z2 <| et <| ep (rz 1) <| eg (G.at 1) <| eb6 z3 <| zZ <| e0) (rs := [Res.c (bo true)]) (by first | (simp only [z0, z1, z2, z3, vq] <;> rfl) | (simp_all only [vq] <;> rfl))
      · exact rt (eg (G.un) <| et <| ep (rz 0) <| eg (G.at 0) <| eb6 z0 <| en3 z1 <| ep (rz 0) <| eg (G.at 0) <| en3 z1 <| ec (hA k) <| en2 z1 <| en z2 <| e0) (rs := [Res.c (bo false)]) (by first | (simp only [z0, z1, z2, vq] <;> rfl) | (simp_all only [vq] <;> rfl))
  · rcases bft c.n1.up with z1 | z1
    · rcases bft c.n1.store.super.inc with z2 | z2
      · exact rt (eg (G.un) <| et <| ep (rz 0) <| eg (G.at 0) <| eb6 z0 <| ef9 <| et <| ep (rz 1) <| eg (G.at 1) <| eb6 z1 <| en8 z2 <| ef2 <| e0) (rs := [Res.c (bo true)]) (by first | (simp only [z0, z1, z2, vq] <;> rfl) | (simp_all only [vq] <;> rfl))
      · rcases bft (f1) with z3 | z3
        · exact rt (eg (G.un) <| et <| ep (rz 0) <| eg (G.at 0) <| eb6 z0 <| ef9 <| et <| ep (rz 1) <| eg (G.at 1) <| eb6 z1 <| en3 z2 <| ep (rz 1) <| eg (G.at 1) <| en3 z2 <| ec (hB k) <| en2 z2 <| en z3 <| ef <| e0) (rs := [Res.c (bo true)]) (by first | (simp only [z0, z1, z2, z3, vq] <;> rfl) | (simp_all only [vq] <;> rfl))
        · exact rt (eg (G.un) <| et <| ep (rz 0) <| eg (G.at 0) <| eb6 z0 <| ef9 <| et <| ep (rz 1) <| eg (G.at 1) <| eb6 z1 <| en3 z2 <| ep (rz 1) <| eg (G.at 1) <| en3 z2 <| ec (hB k) <| en2 z2 <| en z3 <| e0) (rs := [Res.c (bo false)]) (by first | (simp only [z0, z1, z2, z3, vq] <;> rfl) | (simp_all only [vq] <;> rfl))
    · exact rt (eg (G.un) <| et <| ep (rz 0) <| eg (G.at 0) <| eb6 z0 <| ef9 <| et <| ep (rz 1) <| eg (G.at 1) <| eb6 z1 <| zZ <| e0) (rs := [Res.c (bo true)]) (by first | (simp only [z0, z1, vq] <;> rfl) | (simp_all only [vq] <;> rfl))
end Go.Dm
namespace Go.Dm
open Go
set_option maxHeartbeats 1000000
set_option maxHeartbeats 0
theorem zn (l : List Evt) (m : Int) (hm : m ≤ 1000000) (k : Nat) : ag PP GL XX HH NN (k + 2) 14 [.c (.slice 7 (l.map Evt.cs)), .c (ii m)] [] = some ([.c (bo (fF l m))], []) := by
  cases he : decide ((l.length : Int) > m) with
  | true =>
    unfold fF
    rw [he]
    exact zS l m he k
  | false =>
    simp at he
    exact AN l m (by omega) k
theorem zV (l : List Evt) (m : Int) (hm : m ≤ 1000000) (k : Nat) : ag PP GL XX HH NN (k + 3) 6 [A.c (C.slice 7 (List.map Evt.cs l)), A.c (ii m)] [] = some ([Res.c (bo (fF l m))], []) := by
  exact rt (ec (zn l m hm k) <| e0) (rs := [Res.c (bo (fF l m))]) rfl
theorem Bd (b : Int) (es : List (List C)) (c : Cl) (hR : ∀ k, ag PP GL XX HH NN (k + 17) 16 [A.c (by8 b), A.c (C.slice 7 es)] [] = some ([Res.agg (Cl.cs c)], [])) (k : Nat) : ag PP GL XX HH NN (k + 18) 8 [A.c (by8 b), A.c (C.slice 7 es)] [] = some ([Res.agg (Cl.cs c)], []) := by
  exact rt (ec (hR k) <| e0) (rs := [Res.agg (Cl.cs c)]) rfl
theorem Bb (b : Int) (c : Cl) (hR : ∀ k, ag PP GL XX HH NN (k + 17) 16 [A.c (by8 b), A.nil] [] = some ([Res.agg (Cl.cs c)], [])) (k : Nat) : ag PP GL XX HH NN (k + 18) 8 [A.c (by8 b), A.nil] [] = some ([Res.agg (Cl.cs c)], []) := by
  exact rt (ec (hR k) <| e0) (rs := [Res.agg (Cl.cs c)]) rfl
theorem Dn (c : Cl) (d : Cl) (e : Evt) (o : List Ou) (hR : ∀ k, ag PP GL XX HH NN (k + 14) 18 [A.agg (Cl.cs c), A.agg (Evt.cs e)] [] = some ([Res.agg (Cl.cs d), Res.top 5 (List.map Ou.cs o)], [])) (k : Nat) : ag PP GL XX HH NN (k + 15) 10 [A.agg (Cl.cs c), A.agg (Evt.cs e)] [] = some ([Res.agg (Cl.cs d), Res.top 5 (List.map Ou.cs o)], []) := by
  exact rt (ec (hR k) <| eq1 (List.length (List.map Ou.cs o)) <| e0) (rs := [Res.agg (Cl.cs d), Res.top 5 (List.map Ou.cs o)]) rfl
theorem wX {l : List Evt} {m : Int} (h : fF l m = false) : (l.length : Int) ≤ m := by
  unfold fF at h
  cases hq : decide ((l.length : Int) > m) with
  | true => rw [hq] at h; cases h
  | false => simp at hq; exact hq
theorem tj {l : List Evt} {m : Int} (h : fF l m = false) : ∀ e ∈ l, e.data.size ≤ 300 := fun e he => by
  unfold fF at h
  cases hq : decide ((l.length : Int) > m) with
  | true => rw [hq] at h; cases h
  | false =>
    rw [hq, cond_false] at h
    have := List.any_eq_false.1 h e he
    unfold mp at this
    simp at this
    omega
def CK : List Evt := [⟨1, 0, 0, 0, ⟨#[]⟩, 0, []⟩, ⟨13, 0, 0, 0, ⟨#[]⟩, 9, []⟩]
def wrE : Evt := ⟨5, 0, 4, 1, ⟨#[97, 98, 99, 100, 101, 102, 103, 104]⟩, 0, []⟩
theorem C4 (c : Cl) (d : Cl) (m : Mm) (x : Mm) (o : List Ou) (xa : ByteArray) (ya : ByteArray) (xl : Int) (hR : ∀ k, ag PP GL XX HH NN (k + 18) 8 [A.c (by8 1), A.c (C.slice 7 [[ii 1, ii 0, ii 0, ii 0, st ⟨#[]⟩, u 0, C.slice 1 []], [ii 13, ii 0, ii 0, ii 0, st ⟨#[]⟩, u 9, C.slice 1 []]])] [] = some ([Res.agg (Cl.cs c)], [])) (hN : ∀ k, ag PP GL XX HH NN (k + 18) 9 [A.agg (Cl.cs c)] [] = some ([Res.agg (Mm.cs m)], [])) (hD : ∀ k, ag PP GL XX HH NN (k + 18) 10 [A.agg (Cl.cs c), A.agg [ii 5, ii 0, ii 4, ii 1, st (ByteArray.mk #[(97 : UInt8), (98 : UInt8), (99 : UInt8), (100 : UInt8), (101 : UInt8), (102 : UInt8), (103 : UInt8), (104 : UInt8)]), u 0, C.slice 1 []]] [] = some ([Res.agg (Cl.cs d), Res.top 5 (List.map Ou.cs o)], [])) (hS : ∀ k, ag PP GL XX HH NN (k + 18) 11 [A.agg (Mm.cs m), A.agg (Cl.cs c), A.agg [ii 5, ii 0, ii 4, ii 1, st (ByteArray.mk #[(97 : UInt8), (98 : UInt8), (99 : UInt8), (100 : UInt8), (101 : UInt8), (102 : UInt8), (103 : UInt8), (104 : UInt8)]), u 0, C.slice 1 []], A.agg (Cl.cs d), A.c (C.slice 5 (List.map Ou.cs o))] [] = some ([Res.agg (Mm.cs x)], [])) (l0 : ((↑(m.n0.acked.length) : Int) == 2) = true) (l1 : ((↑(x.n0.acked.length) : Int) == 2) = true) (l2 : ((↑(x.n1.acked.length) : Int) == 2) = true) (l3 : ((↑(x.n0.last.length) : Int) == 2) = true) (a0 : x.n0.acked[1]? = some xa) (a1 : x.n0.last[1]? = some xl) (a2 : x.n1.acked[1]? = some ya) (b0 : (xa == ByteArray.mk #[(97 : UInt8), (98 : UInt8), (99 : UInt8), (100 : UInt8), (101 : UInt8), (102 : UInt8), (103 : UInt8), (104 : UInt8)]) = true) (b1 : (xl == 1) = true) (b2 : (ya == ByteArray.mk #[(97 : UInt8), (98 : UInt8), (99 : UInt8), (100 : UInt8), (101 : UInt8), (102 : UInt8), (103 : UInt8), (104 : UInt8)]) = false) (b3 : (Mm.count x == 1) = true) (b4 : (Mm.lost x == 0) = true) (f1 : ∀ k, ag PP GL XX HH NN (k + 18) 12 [A.agg (Mm.cs m), A.agg (Cl.cs c)] [] = some ([Res.c (bo true)], [])) (f2 : ∀ k, ag PP GL XX HH NN (k + 18) 12 [A.agg (Mm.cs x), A.agg (Cl.cs d)] [] = some ([Res.c (bo true)], [])) (f3 : ∀ k, ag PP GL XX HH NN (k + 18) 12 [A.agg (Mm.cs m), A.agg (Cl.cs d)] [] = some ([Res.c (bo false)], [])) (g1 : ∀ k, ag PP GL XX HH NN (k + 18) 13 [A.agg (Mm.cs m), A.agg (Mm.cs m)] [] = some ([Res.c (bo true)], [])) (g2 : ∀ k, ag PP GL XX HH NN (k + 18) 13 [A.agg (Mm.cs m), A.agg (Mm.cs x)] [] = some ([Res.c (bo false)], [])) (k : Nat) : ag PP GL XX HH NN (k + 19) 5 [] [] = some ([Res.c (bo true)], []) := by
  exact rt (ec (hR k) <| ec (hN k) <| ec (hD k) <| ec (hS k) <| ep (af (eS) m.n0.acked) <| eg (G.len (m.n0.acked.length)) <| en5 l0 <| ep (af (eS) x.n0.acked) <| eg (G.len (x.n0.acked.length)) <| en2 l0 <| en5 l1 <| ep (af (eS) x.n1.acked) <| eg (G.len (x.n1.acked.length)) <| en2 l1 <| en5 l2 <| ep (af (eI) x.n0.last) <| eg (G.len (x.n0.last.length)) <| en2 l2 <| en l3 <| ep (rfl : (1 : Int) = (1 : Int)) <| ep (ao (f := eS) a0) <| eg (G.idx 1 [st xa]) <| eb5 b0 <| ep (rfl : (1 : Int) = (1 : Int)) <| ep (ao (f := eI) a1) <| eg (G.idx 1 [ii xl]) <| eb3 b0 <| eb5 b1 <| ep (rfl : (1 : Int) = (1 : Int)) <| ep (ao (f := eS) a2) <| eg (G.idx 1 [st ya]) <| eb3 b1 <| en4 b2 <| eb4 b3 <| eb3 b4 <| ec (f1 k) <| eb b4 <| et3 <| ec (f2 k) <| et4 <| ec (f3 k) <| et5 <| ec (g1 k) <| et4 <| ec (g2 k) <| et2 <| e0) (rs := [Res.c (bo true)]) rfl
end Go.Dm
namespace Go.Dm
open Go
set_option maxHeartbeats 1000000
set_option maxHeartbeats 0
set_option maxRecDepth 100000
theorem As {N : Nat} (c : Cl) (h0 : (iD c.n0.store.disk).1.length = N) (h1 : (iD c.n1.store.disk).1.length = N) : Mg N 0 (uz c) := by
  have v : ∀ l : List ByteArray, l.length = N → VL N (Bh l) := fun l h => ⟨h, by simp [Bh, h], by simp [Bh, h]⟩
  have w : ∀ l : List ByteArray, VW 0 0 (Bh l) := fun l => ⟨fun x hx => by have := List.eq_of_mem_replicate hx; omega, fun x hx => by have := List.eq_of_mem_replicate hx; subst this; exact Nat.le_refl _⟩
  have z : VW 0 0 vl0 := ⟨fun x hx => absurd hx (by simp [vl0]), fun x hx => absurd hx (by simp [vl0])⟩
  exact ⟨v _ h0, v _ h1, fun h => absurd h (by simp [uz]), fun h => absurd h (by simp [uz]), w _, w _, z, z, Int.le_refl _, Int.le_refl _⟩
def aC : Cl := mC 1 CK
def aD : Cl := (doM aC wrE).1
def aO : List Ou := (doM aC wrE).2
def aM : Mm := uz aC
def aX : Mm := my aM aC wrE aD aO
theorem H1 : ∀ e ∈ CK, e.data.size ≤ 300 := by decide
theorem Ae : ClB 4 8 2 12 aC := AO 1 (by decide) CK
theorem EN : ClB 4 12 3 18 aD := (xq Ae wrE).1
theorem D2 : Mg 2 0 aM := As aC (by kernel_rfl) (by kernel_rfl)
theorem BE {B : Nat} {m : Mm} (v0 : VL B m.n0) (v1 : VL B m.n1) (hB : B ≤ 100000) (s0 : (m.n0.begun.all fun x => decide (x.length ≤ 1000000)) = true) (s1 : (m.n1.begun.all fun x => decide (x.length ≤ 1000000)) = true) (c : Cl) (b0 : c.n0.store.super.blocks = (B : Int)) (b1 : c.n1.store.super.blocks = (B : Int)) (c0 : c.n0.store.disk.cache.length ≤ 1000000) (c1 : c.n1.store.disk.cache.length ≤ 1000000) (q : Bool) (hq : Ej m c = q) (k : Nat) : ag PP GL XX HH NN (k + 8) 12 [.agg m.cs, .agg c.cs] [] = some ([.c (bo q)], []) := by
  have t0 : ∀ x ∈ m.n0.begun, x.length ≤ 1000000 := fun x hx => of_decide_eq_true (List.all_eq_true.1 s0 x hx)
  have t1 : ∀ x ∈ m.n1.begun, x.length ≤ 1000000 := fun x hx => of_decide_eq_true (List.all_eq_true.1 s1 x hx)
  rw [← hq]
  exact GU m c _ _ (fun k => zQ v0 hB t0 c.n0 B b0 (Nat.le_refl _) c0 k) (fun k => zQ v1 hB t1 c.n1 B b1 (Nat.le_refl _) c1 k) k
theorem th (a b : Vl) (h : VB a) (q : Bool) (hq : fq a b = q) (k : Nat) : ag PP GL XX HH NN (k + 5) 25 [.agg a.cs, .agg b.cs] [] = some ([.c (bo q)], []) := by
  rw [← hq]; exact D9 a b h.h1 h.h2 h.h3 h.h4 k
theorem zJ {a : Vl} (h1 : decide (a.acked.length ≤ 1000000) = true) (h2 : decide (a.last.length ≤ 1000000) = true) (h3 : decide (a.begun.length ≤ 1000000) = true) (h4 : (a.begun.all fun x => decide (x.length ≤ 1000000)) = true) : VB a :=
  ⟨of_decide_eq_true h1, of_decide_eq_true h2, of_decide_eq_true h3, fun x hx => of_decide_eq_true (List.all_eq_true.1 h4 x hx)⟩
theorem vb0 : VB aM.n0 := zJ (by kernel_rfl) (by kernel_rfl) (by kernel_rfl) (by kernel_rfl)
theorem vb1 : VB aM.n1 := zJ (by kernel_rfl) (by kernel_rfl) (by kernel_rfl) (by kernel_rfl)
theorem vb2 : VB aM.s0 := zJ (by kernel_rfl) (by kernel_rfl) (by kernel_rfl) (by kernel_rfl)
theorem vb3 : VB aM.s1 := zJ (by kernel_rfl) (by kernel_rfl) (by kernel_rfl) (by kernel_rfl)
theorem aS1 (k : Nat) : ag PP GL XX HH NN (k + 8) 13 [.agg aM.cs, .agg aM.cs] [] = some ([.c (bo true)], []) :=
  Em aM aM true true (fun k => vy aM.n0 aM.n1 aM.n0 aM.n1 (fun k => th _ _ vb0 _ rfl k) (fun k => th _ _ vb1 _ rfl k) (k + 1) |>.trans (by rw [show fq aM.n0 aM.n0 = true by kernel_rfl, show fq aM.n1 aM.n1 = true by kernel_rfl]; rfl))
    (fun k => vy aM.s0 aM.s1 aM.s0 aM.s1 (fun k => th _ _ vb2 _ rfl k) (fun k => th _ _ vb3 _ rfl k) (k + 1) |>.trans (by rw [show fq aM.s0 aM.s0 = true by kernel_rfl, show fq aM.s1 aM.s1 = true by kernel_rfl]; rfl))
    rfl rfl (by kernel_rfl) (by kernel_rfl) (by kernel_rfl) (by kernel_rfl) (by kernel_rfl) (by kernel_rfl) (by kernel_rfl) (by kernel_rfl) (by kernel_rfl) (by kernel_rfl) (by kernel_rfl) (by kernel_rfl) (by kernel_rfl) (by kernel_rfl) k
theorem aS2 (k : Nat) : ag PP GL XX HH NN (k + 8) 13 [.agg aM.cs, .agg aX.cs] [] = some ([.c (bo false)], []) :=
  D7 aM aX false true (fun k => vy aM.n0 aM.n1 aX.n0 aX.n1 (fun k => th _ _ vb0 _ rfl k) (fun k => th _ _ vb1 _ rfl k) (k + 1) |>.trans (by rw [show (fq aM.n0 aX.n0 && fq aM.n1 aX.n1) = false by kernel_rfl])) rfl k
theorem Hx : VL 2 aX.n0 := ⟨by kernel_rfl, by kernel_rfl, by kernel_rfl⟩
theorem Hd : VL 2 aX.n1 := ⟨by kernel_rfl, by kernel_rfl, by kernel_rfl⟩
theorem H0 : ∀ o ∈ aO, o.node = 0 ∨ o.node = 1 := fun o ho => by
  have h : (aO.all fun o => o.node == 0 || o.node == 1) = true := by kernel_rfl
  have := List.all_eq_true.1 h o ho
  simpa using this
theorem Hn : aM.count + aO.length < 1000000 := by
  have h : decide (aM.count + aO.length < 1000000) = true := by kernel_rfl
  exact of_decide_eq_true h
theorem vH (k : Nat) : ag PP GL XX HH NN (k + 19) 5 [] [] = some ([.c (bo true)], []) :=
  C4 aC aD aM aX aO (aX.n0.acked.getD 1 ⟨#[]⟩) (aX.n1.acked.getD 1 ⟨#[]⟩) (aX.n0.last.getD 1 0)
    (fun k => Bd 1 (CK.map Evt.cs) aC (fun k => Cr 1 (by decide) CK (by decide) H1 k) k)
    (fun k => AE aC (Nat.le_trans (Nat.le_of_eq Ae.n0.1.1) (by decide)) (Nat.le_trans (Nat.le_of_eq Ae.n1.1.1) (by decide)) (Nat.le_trans Ae.n0.2.1 (by decide)) (Nat.le_trans Ae.n1.2.1 (by decide)) (k + 11))
    (fun k => Dn aC aD wrE aO (fun k => Ft aC wrE Ae (by decide) (by decide) (by decide) (by decide) (by decide) (by decide) k) (k + 3))
    (fun k => Al D2 (by decide) (by decide) aC aD wrE aO Hn H0 (k + 10))
    (by kernel_rfl) (by kernel_rfl) (by kernel_rfl) (by kernel_rfl) (by kernel_rfl) (by kernel_rfl) (by kernel_rfl) (by kernel_rfl) (by kernel_rfl) (by kernel_rfl) (by kernel_rfl) (by kernel_rfl)
    (fun k => BE D2.v0 D2.v1 (by decide) (by kernel_rfl) (by kernel_rfl) aC (by kernel_rfl) (by kernel_rfl) (Nat.le_trans Ae.n0.2.1 (by decide)) (Nat.le_trans Ae.n1.2.1 (by decide)) true (by kernel_rfl) (k + 10))
    (fun k => BE Hx Hd (by decide) (by kernel_rfl) (by kernel_rfl) aD (by kernel_rfl) (by kernel_rfl) (Nat.le_trans EN.n0.2.1 (by decide)) (Nat.le_trans EN.n1.2.1 (by decide)) true (by kernel_rfl) (k + 10))
    (fun k => BE D2.v0 D2.v1 (by decide) (by kernel_rfl) (by kernel_rfl) aD (by kernel_rfl) (by kernel_rfl) (Nat.le_trans EN.n0.2.1 (by decide)) (Nat.le_trans EN.n1.2.1 (by decide)) false (by kernel_rfl) (k + 10))
    (fun k => aS1 (k + 10)) (fun k => aS2 (k + 10)) k
end Go.Dm
namespace Go.Dm
open Go
set_option maxHeartbeats 1000000
set_option maxHeartbeats 0
set_option maxRecDepth 100000
def Sco (l : List Evt) (c0 : Int) (c1 : Cl) (c2 : Mm) : St := St.mk (T.hole :: tc (C.slice 7 (List.map Evt.cs l)) :: T.hole :: T.hole :: T.hole :: T.k (K.v (V.ptr 0 0)) :: T.k (K.v (V.ptr 1 0)) :: tc (ii c0) :: hs 121 []) [List.map V.c (Cl.cs c1), List.map V.c (Mm.cs c2)] []
def Skk (l : List Evt) (i : Int) (c : Cl) (m : Mm) (d : Cl) (x : Mm) (o : List Ou) (k : Int) : St := St.mk (T.hole :: tc (C.slice (7 : Nat) (l.map Evt.cs)) :: T.hole :: T.hole :: T.hole :: T.k (K.v (V.ptr (0 : Nat) (0 : Nat))) :: T.k (K.v (V.ptr (1 : Nat) (0 : Nat))) :: tc (ii i) :: T.k (K.v (V.ptr (2 : Nat) (0 : Nat))) :: T.hole :: T.k (K.v (V.ptr (3 : Nat) (0 : Nat))) :: tc (ii k) :: hs (117 : Nat) []) [List.map V.c (Cl.cs c), List.map V.c (Mm.cs m), List.map V.c (Cl.cs d), List.map V.c (Mm.cs x)] [List.length (o.map Ou.cs)]
def Sb (l : List Evt) (i : Int) (c : Cl) (m : Mm) (d : Cl) (x : Mm) (o : List Ou) (k b : Int) : St := St.mk (T.hole :: tc (C.slice (7 : Nat) (l.map Evt.cs)) :: T.hole :: T.hole :: T.hole :: T.k (K.v (V.ptr (0 : Nat) (0 : Nat))) :: T.k (K.v (V.ptr (1 : Nat) (0 : Nat))) :: tc (ii i) :: T.k (K.v (V.ptr (2 : Nat) (0 : Nat))) :: T.hole :: T.k (K.v (V.ptr (3 : Nat) (0 : Nat))) :: tc (ii k) :: tc (ii b) :: hs (116 : Nat) []) [List.map V.c (Cl.cs c), List.map V.c (Mm.cs m), List.map V.c (Cl.cs d), List.map V.c (Mm.cs x)] [List.length (o.map Ou.cs)]
theorem Gw (l : List Evt) (i : Int) (c : Cl) (m : Mm) (d : Cl) (x : Mm) (o : List Ou) (j : Nat) (y : Int) (hy : x.n0.last[j]? = some y) (hle : decide (y > Mm.count x) = false) (k : Nat) (z0 : (decide ((↑j : Int) < (↑(x.n0.last.length) : Int))) = true) : ax (EE (k + 19)) (HH 4) NN (LB PP 4 20) 4 1 (Sb l i c m d x o 0 (↑j : Int)) (Sb l i c m d x o 0 (IntKind.wrap .i64 ((↑j : Int) + 1))) :=
  nx (ep (rz 0) <| eg (G.at 0) <| ep (af (eI) x.n0.last) <| eg (G.len (x.n0.last.length)) <| eb z0 <| ep (rz 0) <| eg (G.at 0) <| ep (rfl : (↑j : Int) = (↑j : Int)) <| ep (ao (f := eI) hy) <| eg (G.idx j [ii y]) <| eb hle <| e0)
def rY (l : List Evt) (i : Int) (c : Cl) (m : Mm) (d : Cl) (x : Mm) (o : List Ou) (j : Nat) : St := St.mk (T.hole :: tc (C.slice 7 (List.map Evt.cs l)) :: T.hole :: T.hole :: T.hole :: T.k (K.v (V.ptr 0 0)) :: T.k (K.v (V.ptr 1 0)) :: tc (ii i) :: T.k (K.v (V.ptr 2 0)) :: T.hole :: T.k (K.v (V.ptr 3 0)) :: tc (ii 0) :: tc (ii (↑j : Int)) :: hs 93 (tc (ii (↑j : Int)) :: tc (ii 0) :: T.k (K.v (V.ptr 3 0)) :: T.k (K.v (V.ptr 3 0)) :: T.k (K.v (V.ptr 3 2)) :: tc (C.slice 1 (List.map eI x.n0.last)) :: tc (ii (↑(x.n0.last.length) : Int)) :: tc (bo (decide ((↑j : Int) < (↑(x.n0.last.length) : Int)))) :: hs 15 [])) [List.map V.c (Cl.cs c), (List.map V.c (Mm.cs m)), List.map V.c (Cl.cs d), (List.map V.c (Mm.cs x))] [List.length (List.map Ou.cs o)]
theorem Fz (l : List Evt) (i : Int) (c : Cl) (m : Mm) (d : Cl) (x : Mm) (o : List Ou) (j : Nat) (k : Nat) (z0 : (decide ((↑j : Int) < (↑(x.n0.last.length) : Int))) = false) : bj (EE (k + 19)) (HH 4) NN (LB PP 4 20) (Sb l i c m d x o 0 (↑j : Int)) (Ext.exit 4) (rY l i c m d x o j) :=
  ou (ep (rz 0) <| eg (G.at 0) <| ep (af (eI) x.n0.last) <| eg (G.len (x.n0.last.length)) <| eb z0 <| e0)
theorem F5 (l : List Evt) (i : Int) (c : Cl) (m : Mm) (d : Cl) (x : Mm) (o : List Ou) (j : Nat) (y : Int) (hy : x.n1.last[j]? = some y) (hle : decide (y > Mm.count x) = false) (k : Nat) (z0 : (decide ((↑j : Int) < (↑(x.n1.last.length) : Int))) = true) : ax (EE (k + 19)) (HH 4) NN (LB PP 4 20) 4 1 (Sb l i c m d x o 1 (↑j : Int)) (Sb l i c m d x o 1 (IntKind.wrap .i64 ((↑j : Int) + 1))) :=
  nx (ep (rz 1) <| eg (G.at 1) <| ep (af (eI) x.n1.last) <| eg (G.len (x.n1.last.length)) <| eb z0 <| ep (rz 1) <| eg (G.at 1) <| ep (rfl : (↑j : Int) = (↑j : Int)) <| ep (ao (f := eI) hy) <| eg (G.idx j [ii y]) <| eb hle <| e0)
def rJ (l : List Evt) (i : Int) (c : Cl) (m : Mm) (d : Cl) (x : Mm) (o : List Ou) (j : Nat) : St := St.mk (T.hole :: tc (C.slice 7 (List.map Evt.cs l)) :: T.hole :: T.hole :: T.hole :: T.k (K.v (V.ptr 0 0)) :: T.k (K.v (V.ptr 1 0)) :: tc (ii i) :: T.k (K.v (V.ptr 2 0)) :: T.hole :: T.k (K.v (V.ptr 3 0)) :: tc (ii 1) :: tc (ii (↑j : Int)) :: hs 93 (tc (ii (↑j : Int)) :: tc (ii 1) :: T.k (K.v (V.ptr 3 0)) :: T.k (K.v (V.ptr 3 3)) :: T.k (K.v (V.ptr 3 5)) :: tc (C.slice 1 (List.map eI x.n1.last)) :: tc (ii (↑(x.n1.last.length) : Int)) :: tc (bo (decide ((↑j : Int) < (↑(x.n1.last.length) : Int)))) :: hs 15 [])) [List.map V.c (Cl.cs c), (List.map V.c (Mm.cs m)), List.map V.c (Cl.cs d), (List.map V.c (Mm.cs x))] [List.length (List.map Ou.cs o)]
theorem F6 (l : List Evt) (i : Int) (c : Cl) (m : Mm) (d : Cl) (x : Mm) (o : List Ou) (j : Nat) (k : Nat) (z0 : (decide ((↑j : Int) < (↑(x.n1.last.length) : Int))) = false) : bj (EE (k + 19)) (HH 4) NN (LB PP 4 20) (Sb l i c m d x o 1 (↑j : Int)) (Ext.exit 4) (rJ l i c m d x o j) :=
  ou (ep (rz 1) <| eg (G.at 1) <| ep (af (eI) x.n1.last) <| eg (G.len (x.n1.last.length)) <| eb z0 <| e0)
theorem Lb0 (l : List Evt) (i : Int) (c : Cl) (m : Mm) (d : Cl) (x : Mm) (o : List Ou) (hle : ∀ y ∈ x.n0.last, y ≤ x.count) (hlen : x.n0.last.length ≤ 1000000) (k : Nat) : aA (EE (k + 19)) (HH 4) NN (LB PP 4 20) (Sb l i c m d x o 0 0) (.exit 4) (rY l i c m d x o x.n0.last.length) := by
  have hb : x.n0.last.any (fun y => decide (y > x.count)) = false := by
    rw [List.any_eq_false]
    intro y hy
    have := hle y hy
    simp
    omega
  refine gz (E := EE (k + 19)) (n := NN) (b := LB PP 4 20) (fun j => Sb l i c m d x o 0 (j : Nat)) x.n0.last (fun y => decide (y > x.count)) (nv := 4) (nt := 1) rfl (by kernel_rfl) (by kernel_rfl) (fun j y hy hp => ?_) ?_ (fv hb) (by unfold NN; omega)
  · have := Gw l i c m d x o j y hy hp k (dlt hy)
    rwa [mq hy (by omega)] at this
  · exact Fz l i c m d x o _ k dge
theorem E7 (l : List Evt) (i : Int) (c : Cl) (m : Mm) (d : Cl) (x : Mm) (o : List Ou) (w : (Rq.on x.w0 == Rq.on d.n0.req) = true) (q : ((↑(x.n0.acked.length) : Int) == (↑(m.n0.acked.length) : Int)) = true) (j : Nat) (hL : ∀ k, aA (EE (k + 19)) (HH 4) NN (LB PP 4 20) (Sb l i c m d x o 0 0) (Ext.exit 4) (rY l i c m d x o j)) (k : Nat) : ax (EE (k + 19)) (HH 4) NN (LB PP 4 15) 4 1 (Skk l i c m d x o 0) (Skk l i c m d x o 1) :=
  nx (et <| ep (rz 0) <| eg (G.at 0) <| ep (rz 0) <| eg (G.at 0) <| en3 w <| ep (rz 0) <| eg (G.at 0) <| en3 w <| ep (af (eS) x.n0.acked) <| eg (G.len (x.n0.acked.length)) <| en3 w <| ep (rz 0) <| eg (G.at 0) <| en3 w <| ep (af (eS) m.n0.acked) <| eg (G.len (m.n0.acked.length)) <| en2 w <| en q <| eg (G.loop (Ext.exit 4) (rY l i c m d x o j)) <| ep (hL k) <| e0)
theorem Lb1 (l : List Evt) (i : Int) (c : Cl) (m : Mm) (d : Cl) (x : Mm) (o : List Ou) (hle : ∀ y ∈ x.n1.last, y ≤ x.count) (hlen : x.n1.last.length ≤ 1000000) (k : Nat) : aA (EE (k + 19)) (HH 4) NN (LB PP 4 20) (Sb l i c m d x o 1 0) (.exit 4) (rJ l i c m d x o x.n1.last.length) := by
  have hb : x.n1.last.any (fun y => decide (y > x.count)) = false := by
    rw [List.any_eq_false]
    intro y hy
    have := hle y hy
    simp
    omega
  refine gz (E := EE (k + 19)) (n := NN) (b := LB PP 4 20) (fun j => Sb l i c m d x o 1 (j : Nat)) x.n1.last (fun y => decide (y > x.count)) (nv := 4) (nt := 1) rfl (by kernel_rfl) (by kernel_rfl) (fun j y hy hp => ?_) ?_ (fv hb) (by unfold NN; omega)
  · have := F5 l i c m d x o j y hy hp k (dlt hy)
    rwa [mq hy (by omega)] at this
  · exact F6 l i c m d x o _ k dge
theorem ES (l : List Evt) (i : Int) (c : Cl) (m : Mm) (d : Cl) (x : Mm) (o : List Ou) (w : (Rq.on x.w1 == Rq.on d.n1.req) = true) (q : ((↑(x.n1.acked.length) : Int) == (↑(m.n1.acked.length) : Int)) = true) (j : Nat) (hL : ∀ k, aA (EE (k + 19)) (HH 4) NN (LB PP 4 20) (Sb l i c m d x o 1 0) (Ext.exit 4) (rJ l i c m d x o j)) (k : Nat) : ax (EE (k + 19)) (HH 4) NN (LB PP 4 15) 4 1 (Skk l i c m d x o 1) (Skk l i c m d x o 2) :=
  nx (et <| ep (rz 1) <| eg (G.at 1) <| ep (rz 1) <| eg (G.at 1) <| en3 w <| ep (rz 1) <| eg (G.at 1) <| en3 w <| ep (af (eS) x.n1.acked) <| eg (G.len (x.n1.acked.length)) <| en3 w <| ep (rz 1) <| eg (G.at 1) <| en3 w <| ep (af (eS) m.n1.acked) <| eg (G.len (m.n1.acked.length)) <| en2 w <| en q <| eg (G.loop (Ext.exit 4) (rJ l i c m d x o j)) <| ep (hL k) <| e0)
def o7 (l : List Evt) (i : Int) (c : Cl) (m : Mm) (d : Cl) (x : Mm) (o : List Ou) : St := St.mk (T.hole :: tc (C.slice 7 (List.map Evt.cs l)) :: T.hole :: T.hole :: T.hole :: T.k (K.v (V.ptr 0 0)) :: T.k (K.v (V.ptr 1 0)) :: tc (ii i) :: T.k (K.v (V.ptr 2 0)) :: T.hole :: T.k (K.v (V.ptr 3 0)) :: tc (ii 2) :: hs 63 (tc (ii 2) :: tc (bo false) :: hs 52 [])) [List.map V.c (Cl.cs c), (List.map V.c (Mm.cs m)), List.map V.c (Cl.cs d), (List.map V.c (Mm.cs x))] [List.length (List.map Ou.cs o)]
theorem GJ (l : List Evt) (i : Int) (c : Cl) (m : Mm) (d : Cl) (x : Mm) (o : List Ou) (k : Nat) : bj (EE (k + 19)) (HH 4) NN (LB PP 4 15) (Skk l i c m d x o 2) (Ext.exit 2) (o7 l i c m d x o) :=
  ou (ef <| e0)
theorem Lkk (l : List Evt) (i : Int) (c : Cl) (m : Mm) (d : Cl) (x : Mm) (o : List Ou) (w0 : (x.w0.on == d.n0.req.on) = true) (w1 : (x.w1.on == d.n1.req.on) = true) (q0 : ((x.n0.acked.length : Int) == (m.n0.acked.length : Int)) = true) (q1 : ((x.n1.acked.length : Int) == (m.n1.acked.length : Int)) = true) (l0 : ∀ y ∈ x.n0.last, y ≤ x.count) (l1 : ∀ y ∈ x.n1.last, y ≤ x.count) (b0 : x.n0.last.length ≤ 1000000) (b1 : x.n1.last.length ≤ 1000000) (k : Nat) : aA (EE (k + 19)) (HH 4) NN (LB PP 4 15) (Skk l i c m d x o 0) (.exit 2) (o7 l i c m d x o) := by
  refine cq (E := EE (k + 19)) (H := HH 4) (n := NN) (b := LB PP 4 15) (s0 := Skk l i c m d x o 0) (fun (_ : Unit) (j : Nat) => Skk l i c m d x o (j : Nat)) (fun _ _ => True) [0, 1] (fun s (_ : Nat) => s) () (nv := 4) (nt := 1) (e := .exit 2) (t := fun _ => o7 l i c m d x o) rfl (by kernel_rfl) (by kernel_rfl) trivial (fun s j y hy _ => ⟨?_, trivial⟩) (fun _ => GJ l i c m d x o k) (by unfold NN; decide)
  match j, hy with
  | 0, _ => exact E7 l i c m d x o w0 q0 _ (fun k => Lb0 l i c m d x o l0 b0 k) k
  | 1, _ => exact ES l i c m d x o w1 q1 _ (fun k => Lb1 l i c m d x o l1 b1 k) k
  | j + 2, hy => exact absurd hy (by simp)
theorem GI (l : List Evt) (i : Nat) (e : Evt) (hx : l[i]? = some e) (c : Cl) (m : Mm) (d : Cl) (x : Mm) (o : List Ou) (hD : ∀ k, ag PP GL XX HH NN (k + 19) 10 [A.agg (Cl.cs c), A.agg (Evt.cs e)] [] = some ([Res.agg (Cl.cs d), Res.top 5 (List.map Ou.cs o)], [])) (hS : ∀ k, ag PP GL XX HH NN (k + 19) 11 [A.agg (Mm.cs m), A.agg (Cl.cs c), A.agg (Evt.cs e), A.agg (Cl.cs d), A.c (C.slice 5 (List.map Ou.cs o))] [] = some ([Res.agg (Mm.cs x)], [])) (y1 : decide (Mm.count x < Mm.count m) = false) (y2 : decide (Mm.count x > IntKind.wrap .i64 (Mm.count m + (↑(o.length) : Int))) = false) (y3 : decide (Mm.lost x < Mm.lost m) = false) (y4 : decide (Mm.lost x > IntKind.wrap .i64 (Mm.lost m + 2)) = false) (hL : ∀ k, aA (EE (k + 19)) (HH 4) NN (LB PP 4 15) (Skk l (↑i : Int) c m d x o 0) (Ext.exit 2) (o7 l (↑i : Int) c m d x o)) (k : Nat) (z0 : (decide ((↑i : Int) < (↑(l.length) : Int))) = true) : ax (EE (k + 19)) (HH 4) NN (LB PP 4 8) 2 0 (Sco l (↑i : Int) c m) (Sco l (IntKind.wrap .i64 ((↑i : Int) + 1)) d x) :=
  nx (ep (af (Evt.cs) (l)) <| eg (G.len (l.length)) <| eb z0 <| ep (rz i) <| ep (ao (f := Evt.cs) hx) <| eg (G.idx i [ii e.kind, ii e.node, ii e.id, ii e.block, st e.data, u e.n, C.slice 1 (List.map eB e.keeps)]) <| ec (hD k) <| ep (rz i) <| ep (ao (f := Evt.cs) hx) <| eg (G.idx i [ii e.kind, ii e.node, ii e.id, ii e.block, st e.data, u e.n, C.slice 1 (List.map eB e.keeps)]) <| ec (hS k) <| eb6 y1 <| ep (af (Ou.cs) (o)) <| eg (G.len (o.length)) <| eb3 y1 <| eb6 y2 <| eb7 y3 <| eb y4 <| eg (G.loop (Ext.exit 2) (o7 l (↑i : Int) c m d x o)) <| ep (hL k) <| e0)
def sN (l : List Evt) (i : Nat) (c : Cl) (m : Mm) : St := St.mk (T.hole :: tc (C.slice 7 (List.map Evt.cs l)) :: T.hole :: T.hole :: T.hole :: T.k (K.v (V.ptr 0 0)) :: T.k (K.v (V.ptr 1 0)) :: tc (ii (↑i : Int)) :: hs 13 (tc (ii (↑i : Int)) :: tc (C.slice 7 (List.map Evt.cs l)) :: tc (ii (↑(l.length) : Int)) :: tc (bo (decide ((↑i : Int) < (↑(l.length) : Int)))) :: hs 104 [])) [List.map V.c (Cl.cs c), (List.map V.c (Mm.cs m))] []
theorem Gr (l : List Evt) (i : Nat) (c : Cl) (m : Mm) (k : Nat) (z0 : (decide ((↑i : Int) < (↑(l.length) : Int))) = false) : bj (EE (k + 19)) (HH 4) NN (LB PP 4 8) (Sco l (↑i : Int) c m) (Ext.exit 0) (sN l i c m) :=
  ou (ep (af (Evt.cs) (l)) <| eg (G.len (l.length)) <| eb z0 <| e0)
end Go.Dm
namespace Go.Dm
open Go
set_option maxHeartbeats 1000000
set_option maxHeartbeats 0
set_option maxRecDepth 100000
theorem sF {Q : Prop} (i : Int) (n : Nat) : IP Q (fx i (bR n 7)) := by
  refine ⟨⟨?_, fun w hw => by cases hw⟩, fun h => absurd h (by simp [fx])⟩
  show OkB (IQ Q) (aY (aF n 7)).1
  exact wd (fun h => absurd h (by simp [aF]))
theorem w9 (i : Int) (d : Dk) : Rq2 (fx i d) := ⟨fun h => absurd h (by simp [fx, rq0]), fun h => absurd h (by simp [fx])⟩
theorem Et {N : Nat} (n : Nat) (h0 : (iD (gP n).n0.store.disk).1.length = N) (h1 : (iD (gP n).n1.store.disk).1.length = N) : Iw N 0 (gP n) (uz (gP n)) := by
  obtain ⟨a1, a2, a3⟩ := io (w9 0 (bR n 7)) []
  obtain ⟨b1, b2, b3⟩ := io (w9 1 (bR n 7)) []
  have r0 : (gP n).n0.req.on = false := by
    cases hr : (gP n).n0.req.on with
    | false => rfl
    | true => exact absurd (a3 hr).1 (by simp [fx, rq0])
  have r1 : (gP n).n1.req.on = false := by
    cases hr : (gP n).n1.req.on with
    | false => rfl
    | true => exact absurd (b3 hr).1 (by simp [fx, rq0])
  exact ⟨⟨a2, b2, a1, b1⟩, As _ h0 h1, ⟨iq (sF 0 n) _, iq (sF 1 n) _⟩, by rw [r0]; rfl, by rw [r1]; rfl⟩
theorem Hu (b : Int) (l : List Evt) (g1 : fF l (80 : Int) = true) (k : Nat) : ag PP GL XX HH NN (k + 20) 4 [A.c (by8 b), A.c (C.slice 7 (List.map Evt.cs l))] [] = some ([Res.c (bo true)], []) := by
  exact rt (ec (vH k) <| ef <| ec (zV l 80 (show (80 : Int) ≤ 1000000 from by decide) (k + 16)) <| eb g1 <| e0) (rs := [Res.c (bo true)]) rfl
theorem HS (b : Int) (l : List Evt) (c : Cl) (c2 : Cl) (m : Mm) (m2 : Mm) (g1 : fF l (80 : Int) = false) (hl : l.length ≤ 1000000) (hR : ∀ k, ag PP GL XX HH NN (k + 19) 8 [A.c (by8 b), A.nil] [] = some ([Res.agg (Cl.cs c)], [])) (hN : ∀ k, ag PP GL XX HH NN (k + 19) 9 [A.agg (Cl.cs c)] [] = some ([Res.agg (Mm.cs m)], [])) (hL : ∀ k, aA (EE (k + 19)) (HH 4) NN (LB PP 4 8) (Sco l 0 c m) (Ext.exit 0) (sN l (l.length) c2 m2)) (k : Nat) : ag PP GL XX HH NN (k + 20) 4 [A.c (by8 b), A.c (C.slice 7 (List.map Evt.cs l))] [] = some ([Res.c (bo true)], []) := by
  exact rt (ec (vH k) <| ef <| ec (zV l 80 (show (80 : Int) ≤ 1000000 from by decide) (k + 16)) <| eb g1 <| ec (hR k) <| ec (hN k) <| eg (G.loop (Ext.exit 0) (sN l (l.length) c2 m2)) <| ep (hL k) <| e0) (rs := [Res.c (bo true)]) rfl
end Go.Dm
namespace Go.Dm
open Go
set_option maxHeartbeats 1000000
set_option maxHeartbeats 0
set_option maxRecDepth 100000
theorem vz (n : Nat) (h : n = 1 ∨ n = 2 ∨ n = 3 ∨ n = 4) : (iD (gP n).n0.store.disk).1.length = n ∧ (iD (gP n).n1.store.disk).1.length = n := by
  rcases h with rfl | rfl | rfl | rfl <;> exact ⟨by kernel_rfl, by kernel_rfl⟩
def goM (s : Cl × Mm) (e : Evt) : Cl × Mm := ((doM s.1 e).1, my s.2 s.1 e (doM s.1 e).1 (doM s.1 e).2)
structure Pc (n i : Nat) (s : Cl × Mm) : Prop where
  b : ClB (n + 2) (4 * i) i (6 * i) s.1
  w : Iw n (2 * i) s.1 s.2
  c : s.2.count ≤ 18 * i
  u : s.2.lost ≤ 2 * i
theorem CE (b : Int) (hb : 0 ≤ b) (l : List Evt) (k : Nat) : ag PP GL XX HH NN (k + 20) 4 [.c (by8 b), .c (.slice 7 (l.map Evt.cs))] [] = some ([.c (bo true)], []) := by
  cases hg : fF l 80 with
  | true => exact Hu b l hg k
  | false =>
    have hlen := wX hg
    have hdat := tj hg
    have h4 := fH b hb
    obtain ⟨n, hn⟩ : ∃ n, dF b = n := ⟨_, rfl⟩
    rw [hn] at h4
    have hn4 : n ≤ 4 := by omega
    have hC : mC b [] = gP n := by show (pS (gP (dF b)) []).1 = gP n; rw [hn]; rfl
    have hB0 : ClB (n + 2) 0 0 0 (gP n) := BR n (Dt n h4)
    have hI0 := Et n (vz n h4).1 (vz n h4).2
    have hR : ∀ k, ag PP GL XX HH NN (k + 19) 8 [.c (by8 b), .nil] [] = some ([.agg (gP n).cs], []) := fun k => by
      rw [← hC]; exact Bb b (mC b []) (fun k => yh b hb k) (k + 1)
    have hN : ∀ k, ag PP GL XX HH NN (k + 19) 9 [.agg (gP n).cs] [] = some ([.agg (uz (gP n)).cs], []) := fun k =>
      AE (gP n) (by rw [hB0.n0.1.1]; omega) (by rw [hB0.n1.1.1]; omega) (Nat.le_trans hB0.n0.2.1 (by omega)) (Nat.le_trans hB0.n1.2.1 (by omega)) (k + 12)
    refine HS b l (gP n) (l.foldl goM (gP n, uz (gP n))).1 (uz (gP n)) (l.foldl goM (gP n, uz (gP n))).2 hg (by omega) hR hN (fun k => ?_) k
    refine cq (E := EE (k + 19)) (H := HH 4) (n := NN) (b := LB PP 4 8) (s0 := Sco l 0 (gP n) (uz (gP n))) (fun (s : Cl × Mm) (i : Nat) => Sco l (i : Nat) s.1 s.2) (Pc n) l goM (gP n, uz (gP n)) (nv := 2) (nt := 0) (e := .exit 0) (t := fun s => sN l l.length s.1 s.2) rfl (by kernel_rfl) (by kernel_rfl) ⟨hB0, hI0, by show (0 : Int) ≤ _; omega, by show (0 : Int) ≤ _; omega⟩ (fun s i e hx hp => ?_) (fun _ => Gr l _ _ _ k dge) (by unfold NN; omega)
    have hlt := bO hx
    have hed := hdat e (List.mem_of_getElem? hx)
    obtain ⟨pb, pw, pc, pu⟩ := hp
    obtain ⟨d1, d2⟩ := xq pb e
    have ho := d2.1
    have hcn := pw.g.c
    have hun := pw.g.u
    have hc : s.2.count + (doM s.1 e).2.length < 1000000 := by omega
    obtain ⟨s1, s2⟩ := BQ pw e hc (by omega)
    have ev := zO (e := e) pw.q
    have hs := fun k => Al pw.g (by omega) (by omega) s.1 (doM s.1 e).1 e (doM s.1 e).2 hc ev.nd (k + 11)
    have hD := fun k => Dn s.1 (doM s.1 e).1 e (doM s.1 e).2 (fun k => Ft s.1 e pb (by omega) (by omega) (by omega) (by omega) (by omega) hed k) (k + 4)
    have t1 := s2.c1
    have t2 := s2.c2
    have t3 := s2.u1
    have t4 := s2.u2
    have v0 := s1.g.v0
    have v1 := s1.g.v1
    refine ⟨?_, ⟨d1.le (by omega) (by omega) (by omega), s1, ?_, ?_⟩⟩
    · have := GI l i e hx s.1 s.2 (doM s.1 e).1 (my s.2 s.1 e (doM s.1 e).1 (doM s.1 e).2) (doM s.1 e).2 hD hs
        (decide_eq_false (by omega)) (decide_eq_false (by rw [cI (by omega) (by omega)]; omega)) (decide_eq_false (by omega)) (decide_eq_false (by rw [cI (by omega) (by omega)]; omega))
        (fun k => Lkk l i s.1 s.2 (doM s.1 e).1 _ (doM s.1 e).2 (by rw [s1.w0]; simp) (by rw [s1.w1]; simp) (by rw [v0.a, pw.g.v0.a]; simp) (by rw [v1.a, pw.g.v1.a]; simp) s1.g.w0.l s1.g.w1.l (by rw [v0.l]; omega) (by rw [v1.l]; omega) k) k (dlt hx)
      rwa [mq hx (by omega)] at this
    · show (my s.2 s.1 e (doM s.1 e).1 (doM s.1 e).2).count ≤ _
      omega
    · show (my s.2 s.1 e (doM s.1 e).1 (doM s.1 e).2).lost ≤ _
      omega
end Go.Dm
namespace Go.Proofs
open Go.RowKit Go.Shelf Go.Dm
attribute [local go_sem] Oper.semAt_some
def wk (l : List Wr) (k : Nat) : List (Nat × Wr) := (List.range k).map fun j => (l.length - 1 - j, l[l.length - 1 - j]?.getD default)
theorem rp (l : List Wr) (k : Nat) : wk l (k + 1) = wk l k ++ [(l.length - 1 - k, l[l.length - 1 - k]?.getD default)] := by simp [wk, List.range_succ]
theorem xK (l : List Wr) (k : Nat) : (wk l k).length = k := by simp [wk]
abbrev FF (x : Nat × Wr) : Array Value := #[.int .i64 (x.1 : Int), .agg #[.int .i64 x.2.sec, .string x.2.data]]
def KpW (n₀ Bs : Nat) (A B : World) : Prop := Below n₀ A B ∧ B.heap[Bs]? = A.heap[Bs]?
theorem KpW.refl (n₀ Bs : Nat) (A : World) : KpW n₀ Bs A A := ⟨Below.refl _ _, rfl⟩
theorem KpW.trans {n₀ Bs : Nat} {A B C : World} (h : KpW n₀ Bs A B) (k : KpW n₀ Bs B C) : KpW n₀ Bs A C := ⟨h.1.trans k.1, k.2.trans h.2⟩
theorem KpW.putObj {n₀ Bs : Nat} {w : World} (hn : n₀ ≤ w.heap.size) (hB : Bs < w.heap.size) (W : World) (l : Nat) (o o' : Obj) (hl : w.heap.size ≤ l) (h : W.heap[l]? = some o) (h1 : o.isCells = false) (h2 : o.isWalk = false) : KpW n₀ Bs W (W.putObj l o') :=
  ⟨belowK_b hn W l o o' hl h h1 h2, World.putObj_heap_other (by omega)⟩
set_option maxRecDepth 100000 in
set_option maxHeartbeats 2000000 in
theorem Dr.closure_in (F : Fence) (n : Nat) (h24 : F.fn 126) (hro : F.round = none) (hn : 1 ≤ n) (l Bs n₀ b off cap : Nat) (zs : List Wr) (hreach : zs.length ≤ 1000000) (hb : b < n₀) (J Jx : List (Nat × Wr) → World → Prop)
    (hY : ∀ pre x W, J pre W → pre.length < zs.length → YieldAt F (n - 1) Tryz.prog l (FF x) W fun e W' =>
      (e = .returned (.bool true) ∧ J (pre ++ [x]) W' ∧ KpW n₀ Bs W W') ∨ (e = .returned (.bool false) ∧ Jx (pre ++ [x]) W'))
    (W : World) (hBs : W.cell? ⟨Bs, 0, none⟩ = some (.slice (some ⟨b, off, none⟩) zs.length cap))
    (hc : ∀ j, j < zs.length → W.rangeAt b (off + j * 2) [.int .i64 (zs[j]?.getD default).sec, .string (zs[j]?.getD default).data]) (h0 : J [] W) :
    CallsIn F n Tryz.prog 126 #[.func (.yield l) #[] #[], .pointer (some ⟨Bs, 0, none⟩)] W fun e W' => (∃ v, e = .returned v) ∧
      ((∃ ys, ys = wk zs zs.length ∧ J ys W') ∨ (∃ pre, (∃ k, k ≤ zs.length ∧ pre = wk zs k) ∧ Jx pre W')) := by
  refine callsIn_of_wp Tryz.func126 rfl h24 ?_ hro
  simp only [Tryz.ntmps126, List.size_toArray, List.length_cons, List.length_nil, Nat.reduceAdd, Nat.reduceSub, Array.replicate_succ, Array.replicate_zero, List.push_toArray, List.append_toArray, List.nil_append, List.cons_append]
  gi_wp2
  gi_loopw [3] (fun i wr => ∃ k : Nat, k ≤ zs.length ∧ i = .int .i64 ((zs.length : Int) - 1 - k) ∧ J (wk zs k) wr ∧ KpW n₀ Bs W wr)
    (fun i _ => (intOf i + 1).toNat)
  case atStart => exact ⟨0, Nat.zero_le _, by simp, h0, KpW.refl _ _ _⟩
  case round =>
    obtain ⟨k, hk, rfl, hJs, hnx⟩ := hrel
    by_cases hlt : k < zs.length
    · obtain ⟨fn, tmps, assign, body, hy, hR⟩ := hY _ (zs.length - 1 - k, zs[zs.length - 1 - k]?.getD default) wr hJs (by rw [xK]; exact hlt)
      obtain ⟨q, hq⟩ : ∃ q, zs.length - 1 - k = q := ⟨_, rfl⟩
      have hqi : (zs.length : Int) - 1 - k = (q : Int) := by omega
      have hql : q < zs.length := by omega
      simp only [FF, hq] at hy
      rw [hqi]
      have hBx : wr.cell? ⟨Bs, 0, none⟩ = some (.slice (some ⟨b, off, none⟩) zs.length cap) := (World.cell?_of_block (w := W) hnx.2).trans hBs
      have hr := hc q hql
      have hx0 : wr.cell? ⟨b, off + q * 2, none⟩ = _ := (hnx.1.cell (p := ⟨b, off + q * 2, none⟩) hb).trans (hr 0 _ rfl)
      have hx1 : wr.cell? ⟨b, off + q * 2 + 1, none⟩ = _ := (hnx.1.cell (p := ⟨b, off + q * 2 + 1, none⟩) hb).trans (hr 1 _ rfl)
      clear hc
      simp only [List.getElem?_eq_getElem hql, Option.getD_some] at hy hx0 hx1
      gi_wp2
      refine hR.mono ?_
      rintro e W3 (⟨rfl, hJ3, hk3⟩ | ⟨rfl, hJx3⟩)
      · gi_wp2
        go_roundw
        case rel => exact ⟨k + 1, by omega, by simp; omega, by rw [rp]; exact hJ3, hnx.trans hk3⟩
        case measure => simp [intOf]
      · gi_wp2
        refine bodyPost_ret (results_none rfl _ _ _) rfl ?_
        exact ⟨⟨_, rfl⟩, .inr ⟨_, ⟨k + 1, by omega, (rp _ _).symm⟩, hJx3⟩⟩
    · obtain rfl : k = zs.length := by omega
      gi_wp2
      go_end0
      exact ⟨⟨_, rfl⟩, .inl ⟨_, rfl, hJs⟩⟩
set_option maxRecDepth 100000 in
set_option maxHeartbeats 1000000 in
theorem Dr.closure_nil_in (F : Fence) (n : Nat) (h24 : F.fn 126) (hro : F.round = none) (l Bs cap : Nat) (a : Option Addr) (J : List (Nat × Wr) → World → Prop) (W : World) (hBs : W.cell? ⟨Bs, 0, none⟩ = some (.slice a 0 cap)) (h0 : J [] W) :
    CallsIn F n Tryz.prog 126 #[.func (.yield l) #[] #[], .pointer (some ⟨Bs, 0, none⟩)] W fun e W' => (∃ v, e = .returned v) ∧ J [] W' := by
  refine callsIn_of_wp Tryz.func126 rfl h24 ?_ hro
  simp only [Tryz.ntmps126, List.size_toArray, List.length_cons, List.length_nil, Nat.reduceAdd, Nat.reduceSub, Array.replicate_succ, Array.replicate_zero, List.push_toArray, List.append_toArray, List.nil_append, List.cons_append]
  gi_wp2
  gi_loopw [3] (fun i wr => i = .int .i64 (-1) ∧ J [] wr) (fun _ _ => 0)
  case atStart => exact ⟨by simp, h0⟩
  case round =>
    obtain ⟨rfl, hJs⟩ := hrel
    gi_wp2
    go_end0
    exact ⟨⟨_, rfl⟩, hJs⟩
set_option maxHeartbeats 1000000 in
theorem Dr.backward_in (F : Fence) (n : Nat) (h22 : F.fn 95) (hro : F.round = none) (a : Option Addr) (len cap : Nat) (w : World) :
    CallsIn F n Tryz.prog 95 #[.slice a len cap] w fun e w' => e = .returned (.func (.func 126) #[] #[.pointer (some ⟨w.heap.size, 0, none⟩)]) ∧ w' = w.alloc (.cells #[.slice a len cap] 27) := by
  refine callsIn_of_wp Tryz.func95 rfl h22 ?_ hro
  simp only [Tryz.ntmps95, List.size_toArray, List.length_cons, List.length_nil, Nat.reduceAdd, Nat.reduceSub, Array.replicate_succ, Array.replicate_zero, List.push_toArray, List.append_toArray, List.nil_append, List.cons_append]
  gi_wp2
  go_ret
  exact ⟨rfl, rfl⟩
def gJ (n₀ : Nat) (W : World) (sv : Value) (zs : List Wr) : Prop :=
  (∃ a cap, sv = .slice a 0 cap ∧ zs = []) ∨ ∃ b off cap, sv = .slice (some ⟨b, off, none⟩) zs.length cap ∧ b < n₀ ∧
    ∀ j, j < zs.length → W.rangeAt b (off + j * 2) [.int .i64 (zs[j]?.getD default).sec, .string (zs[j]?.getD default).data]
theorem gJ.below {n₀ : Nat} {A B : World} (h : Below n₀ A B) {sv : Value} {zs : List Wr} : gJ n₀ A sv zs → gJ n₀ B sv zs
  | .inl e => .inl e
  | .inr ⟨b, off, cap, e, hb, hc⟩ => .inr ⟨b, off, cap, e, hb, fun j hj i v hv => (h.cell (p := ⟨b, off + j * 2 + i, none⟩) hb).trans (hc j hj i v hv)⟩
theorem Dr.stops (F : Fence) (n : Nat) (h24 : F.fn 126) (hro : F.round = none) (hn : 1 ≤ n) (Bs n₀ : Nat) (sv : Value) (zs : List Wr) (hreach : zs.length ≤ 1000000) (w : World) (hBs : Bs < w.heap.size) (hn₀ : n₀ ≤ w.heap.size)
    (hc : w.cell? ⟨Bs, 0, none⟩ = some sv) (hI : gJ n₀ w sv zs) :
    SeqStopsK F n Tryz.prog 126 #[.pointer (some ⟨Bs, 0, none⟩)] FF (KpW n₀ Bs) (fun ys => ys = wk zs zs.length) (fun pre => ∃ k, k ≤ zs.length ∧ pre = wk zs k) zs.length w := fun l J Jx W hW _ _ hY h0 => by
  have hc' := (hW.cell (p := ⟨Bs, 0, none⟩) hBs).trans hc
  rcases hI.below (hW.mono hn₀) with ⟨a, cap, rfl, rfl⟩ | ⟨b, off, cap, rfl, hb, hcs⟩
  · exact (Dr.closure_nil_in F n h24 hro l Bs cap a J W hc' h0).mono fun e W' ⟨he, hj⟩ => ⟨he, .inl ⟨_, rfl, hj⟩⟩
  · exact Dr.closure_in F n h24 hro hn l Bs n₀ b off cap zs hreach hb J Jx hY W hc' hcs h0
def oS (l : List (Nat × Wr)) (i : Int) : Option Wr := (l.find? fun x => x.2.sec == i).map (·.2)
theorem Es (l : List Wr) : (wk l l.length).map (·.2) = l.reverse := by
  apply List.ext_getElem
  · simp [wk]
  · intro i h1 h2
    have hi : i < l.length := by simpa using h2
    have : l.length - 1 - i < l.length := by omega
    simp [wk, this]
end Go.Proofs
namespace Go.Proofs
open Go.RowKit Go.Shelf Go.Dm
attribute [local go_sem] Oper.semAt_some
set_option maxHeartbeats 1000000 in
theorem Dr.there_in (F : Fence) (n : Nat) (h22 : F.fn 94) (hro : F.round = none) (a c : Option Addr) (len cap lc cc : Nat) (fu : Int) (de : Bool) (i : Int) (w : World) :
    CallsIn F n Tryz.prog 94 #[.agg #[.slice a len cap, .slice c lc cc, .int .i64 fu, .bool de], .int .i64 i] w fun e w' => e = .returned (.bool (decide (i ≥ 0) && decide (i < (len : Int)))) ∧ w' = w.alloc (.cells #[.slice a len cap, .slice c lc cc, .int .i64 fu, .bool de] 29) := by
  refine callsIn_of_wp Tryz.func94 rfl h22 ?_ hro
  simp only [Tryz.ntmps94, List.size_toArray, List.length_cons, List.length_nil, Nat.reduceAdd, Nat.reduceSub, Array.replicate_succ, Array.replicate_zero, List.push_toArray, List.append_toArray, List.nil_append, List.cons_append]
  gi_wp2
  · go_ret
    rename_i hx
    exact ⟨by simp_all, rfl⟩
  · go_ret
    rename_i hx
    exact ⟨by simp; omega, rfl⟩
def Blk (W : World) (B : Nat) (o : Obj) : Prop := W.heap[B]? = some o
theorem Blk.lt {W : World} {B : Nat} {o : Obj} (h : Blk W B o) : B < W.heap.size := (Array.getElem?_eq_some_iff.1 h).1
theorem Blk.kept {W W' : World} {row : Option Nat} {B : Nat} {o : Obj} (h : Blk W B o) (hg : W.grownBy W' row) (hne : some B ≠ row) : Blk W' B o := (hg.block B h.lt hne).trans h
theorem Blk.new (W : World) (o : Obj) : Blk (W.alloc o) W.heap.size o := World.alloc_heap_new W o
theorem Blk.alloc {W : World} {B : Nat} {o : Obj} (h : Blk W B o) (o' : Obj) : Blk (W.alloc o') B o := (Below.heap_alloc _ _ B h.lt).trans h
def Ac (n₀ : Nat) (W : World) (a : Option Addr) (len : Nat) (ss : List ByteArray) : Prop :=
  len = ss.length ∧ (ss = [] ∨ ∃ b off, a = some ⟨b, off, none⟩ ∧ b < n₀ ∧ ∀ j, j < ss.length → W.cell? ⟨b, off + j, none⟩ = some (.string (ss[j]?.getD default)))
set_option maxRecDepth 100000 in
set_option maxHeartbeats 2000000 in
theorem Dr.dead_in (F : Fence) (n : Nat) (h57 : F.fn 57) (hro : F.round = none) (aS aC : Option Addr) (lS cS lC cC : Nat) (fu i : Int) (w : World) :
    CallsIn F n Tryz.prog 57 #[.agg #[.slice aS lS cS, .slice aC lC cC, .int .i64 fu, .bool true], .int .i64 i] w fun e W' => e = .returned (.tuple #[.string ⟨#[]⟩, .int .i64 6]) ∧ Below w.heap.size w W' := by
  refine callsIn_of_wp Tryz.func57 rfl h57 ?_ hro
  simp only [Tryz.ntmps57, List.size_toArray, List.length_cons, List.length_nil, Nat.reduceAdd, Nat.reduceSub, Array.replicate_succ, Array.replicate_zero, List.push_toArray, List.append_toArray, List.nil_append, List.cons_append]
  gi_wp2
  refine bodyPost_ret (v := .tuple #[.string ⟨#[]⟩, .int .i64 6]) (by simp [results, Tryz.f57, go_sem]) rfl ?_
  exact ⟨rfl, ((((Below.refl _ w).alloc (Nat.le_refl _) _).alloc (by simp) _).alloc (by simp; omega) _).alloc (by simp; omega) _⟩
set_option maxRecDepth 100000 in
set_option maxHeartbeats 2000000 in
theorem Dr.out_in (F : Fence) (n : Nat) (h57 : F.fn 57) (h94 : F.fn 94) (hro : F.round = none) (hn : 1 ≤ n) (aS aC : Option Addr) (lS cS lC cC : Nat) (fu i : Int) (w : World) (hi : (decide (i ≥ 0) && decide (i < (lS : Int))) = false) :
    CallsIn F n Tryz.prog 57 #[.agg #[.slice aS lS cS, .slice aC lC cC, .int .i64 fu, .bool false], .int .i64 i] w fun e W' => e = .returned (.tuple #[.string ⟨#[]⟩, .int .i64 4]) ∧ Below w.heap.size w W' := by
  refine callsIn_of_wp Tryz.func57 rfl h57 ?_ hro
  simp only [Tryz.ntmps57, List.size_toArray, List.length_cons, List.length_nil, Nat.reduceAdd, Nat.reduceSub, Array.replicate_succ, Array.replicate_zero, List.push_toArray, List.append_toArray, List.nil_append, List.cons_append]
  gi_wp2_with (gi_at_call 94; refine (Dr.there_in F (n - 1) h94 hro _ _ _ _ _ _ _ _ _ _).mono ?_; rintro e w' ⟨rfl, rfl⟩; rw [hi])
  refine bodyPost_ret (v := .tuple #[.string ⟨#[]⟩, .int .i64 4]) (by simp [results, Tryz.f57, go_sem]) rfl ?_
  refine ⟨rfl, ?_⟩
  exact ((((((Below.refl _ w).alloc (Nat.le_refl _) _).alloc (by simp) _).alloc (by simp; omega) _).alloc (by simp; omega) _).alloc (by simp; omega) _)
theorem yE (l : List Wr) {k n : Nat} (h : k ≤ n) : ∃ r, wk l n = wk l k ++ r := by
  induction n with
  | zero => obtain rfl : k = 0 := by omega
            exact ⟨[], by simp⟩
  | succ n ih =>
    by_cases hk : k = n + 1
    · subst hk; exact ⟨[], by simp⟩
    · obtain ⟨r, hr⟩ := ih (by omega)
      exact ⟨_, by rw [rp, hr, List.append_assoc]⟩
set_option maxRecDepth 100000 in
set_option maxHeartbeats 4000000 in
theorem Dr.read_in (F : Fence) (n : Nat) (h57 : F.fn 57) (h94 : F.fn 94) (h95 : F.fn 95) (h24 : F.fn 126) (hro : F.round = none) (hn : 3 ≤ n) (aS aC : Option Addr) (lS cS lC cC q : Nat) (fu : Int) (ss : List ByteArray) (zs : List Wr) (hlen : zs.length ≤ 1000000) (w : World)
    (hS : Ac w.heap.size w aS lS ss) (hL : gJ w.heap.size w (.slice aC lC cC) zs) (hq : q < ss.length) :
    CallsIn F n Tryz.prog 57 #[.agg #[.slice aS lS cS, .slice aC lC cC, .int .i64 fu, .bool false], .int .i64 (q : Int)] w fun e W' =>
      e = .returned (.tuple #[.string (((oS (wk zs zs.length) q).map (·.data)).getD (ss[q]?.getD default)), .int .i64 0]) ∧ Below w.heap.size w W' := by
  have h1 : 1 ≤ n := by omega
  obtain ⟨rfl, hS⟩ := hS
  have hin : (decide ((q : Int) ≥ 0) && decide ((q : Int) < (ss.length : Int))) = true := by simp; omega
  refine callsIn_of_wp_marks Tryz.func57 rfl h57 ?_ hro
  simp only [Tryz.ntmps57, List.size_toArray, List.length_cons, List.length_nil, Nat.reduceAdd, Nat.reduceSub, Array.replicate_succ, Array.replicate_zero, List.push_toArray, List.append_toArray, List.nil_append, List.cons_append]
  gi_wp2_with (first | (gi_at_call 94; refine (Dr.there_in F (n - 1) h94 hro _ _ _ _ _ _ _ _ _ _).mono ?_; rintro e w' ⟨rfl, rfl⟩; rw [hin]) | (gi_at_call 95; refine (Dr.backward_in F (n - 1) h95 hro _ _ _ _).mono ?_; rintro e w' ⟨rfl, rfl⟩))
  have b0 := Blk.new w (.cells #[.slice aS ss.length cS, .slice aC lC cC, .int .i64 fu, .bool false] 29)
  obtain ⟨w1, hw1⟩ : ∃ w1, w.alloc (.cells #[.slice aS ss.length cS, .slice aC lC cC, .int .i64 fu, .bool false] 29) = w1 := ⟨_, rfl⟩
  have z1 : w1.heap.size = w.heap.size + 1 := by rw [← hw1]; simp
  have l1 : Below w.heap.size w w1 := by rw [← hw1]; exact (Below.refl _ w).alloc (Nat.le_refl _) _
  rw [hw1] at b0 ⊢
  have b1 := Boxed.new w1 3 (.int .i64 (q : Int))
  obtain ⟨w2, hw2⟩ : ∃ w2, w1.alloc (.cells #[.int .i64 (q : Int)] 3) = w2 := ⟨_, rfl⟩
  have z2 : w2.heap.size = w.heap.size + 1 + 1 := by rw [← hw2]; simp [z1]
  have l2 : Below w.heap.size w w2 := by rw [← hw2]; exact l1.alloc (by omega) _
  have b0 := b0.alloc (.cells #[.int .i64 (q : Int)] 3)
  rw [hw2] at b0 b1 ⊢
  have b2 := Boxed.new w2 9 (.string ⟨#[]⟩)
  obtain ⟨w3, hw3⟩ : ∃ w3, w2.alloc (.cells #[.string ⟨#[]⟩] 9) = w3 := ⟨_, rfl⟩
  have z3 : w3.heap.size = w.heap.size + 1 + 1 + 1 := by rw [← hw3]; simp [z2]
  have l3 : Below w.heap.size w w3 := by rw [← hw3]; exact l2.alloc (by omega) _
  have b0 := b0.alloc (.cells #[.string ⟨#[]⟩] 9)
  have b1 := b1.alloc (.cells #[.string ⟨#[]⟩] 9)
  rw [hw3] at b0 b1 b2 ⊢
  have b3 := Boxed.new w3 74 (.int .i64 0)
  obtain ⟨w4, hw4⟩ : ∃ w4, w3.alloc (.cells #[.int .i64 0] 74) = w4 := ⟨_, rfl⟩
  have z4 : w4.heap.size = w.heap.size + 1 + 1 + 1 + 1 := by rw [← hw4]; simp [z3]
  have l4 : Below w.heap.size w w4 := by rw [← hw4]; exact l3.alloc (by omega) _
  have b0 := b0.alloc (.cells #[.int .i64 0] 74)
  have b1 := b1.alloc (.cells #[.int .i64 0] 74)
  have b2 := b2.alloc (.cells #[.int .i64 0] 74)
  rw [hw4] at b0 b1 b2 b3 ⊢
  obtain ⟨w5, hw5⟩ : ∃ w5, w4.alloc (.cells #[.slice aS ss.length cS, .slice aC lC cC, .int .i64 fu, .bool false] 29) = w5 := ⟨_, rfl⟩
  have z5 : w5.heap.size = w.heap.size + 1 + 1 + 1 + 1 + 1 := by rw [← hw5]; simp [z4]
  have l5 : Below w.heap.size w w5 := by rw [← hw5]; exact l4.alloc (by omega) _
  have b0 := b0.alloc (.cells #[.slice aS ss.length cS, .slice aC lC cC, .int .i64 fu, .bool false] 29)
  have b1 := b1.alloc (.cells #[.slice aS ss.length cS, .slice aC lC cC, .int .i64 fu, .bool false] 29)
  have b2 := b2.alloc (.cells #[.slice aS ss.length cS, .slice aC lC cC, .int .i64 fu, .bool false] 29)
  have b3 := b3.alloc (.cells #[.slice aS ss.length cS, .slice aC lC cC, .int .i64 fu, .bool false] 29)
  rw [hw5] at b0 b1 b2 b3 ⊢
  have b5 := Boxed.new w5 27 (.slice aC lC cC)
  obtain ⟨w6, hw6⟩ : ∃ w6, w5.alloc (.cells #[.slice aC lC cC] 27) = w6 := ⟨_, rfl⟩
  have z6 : w6.heap.size = w.heap.size + 1 + 1 + 1 + 1 + 1 + 1 := by rw [← hw6]; simp [z5]
  have l6 : Below w.heap.size w w6 := by rw [← hw6]; exact l5.alloc (by omega) _
  have b0 := b0.alloc (.cells #[.slice aC lC cC] 27)
  have b1 := b1.alloc (.cells #[.slice aC lC cC] 27)
  have b2 := b2.alloc (.cells #[.slice aC lC cC] 27)
  have b3 := b3.alloc (.cells #[.slice aC lC cC] 27)
  rw [hw6] at b0 b1 b2 b3 b5 ⊢
  rw [z1] at b1
  rw [z2] at b2
  rw [z3] at b3
  rw [z5] at b5
  clear hw1 hw2 hw3 hw4 hw5 hw6 l1 l2 l3 l4 l5
  refine wpIn_rangeFunc_ownH hro h1 (gf := 126) (lb := #[.pointer (some ⟨w.heap.size + 1 + 1 + 1 + 1 + 1, 0, none⟩)]) rfl h24 (enters_of Tryz.func126 (by kernel_rfl) rfl)
    (Dr.stops F (n - 1) h24 hro (by omega) (w.heap.size + 1 + 1 + 1 + 1 + 1) w.heap.size _ zs hlen _ (by omega) (by omega) b5.cell (hL.below l6)) (fun h k => h.trans k) (KpW.putObj (by omega) (by omega)) (Below.refl _ _) (fun _ => rfl)
    (fun pre W => (Blk W w.heap.size (.cells #[.slice aS ss.length cS, .slice aC lC cC, .int .i64 fu, .bool false] 29) ∧ Boxed W (w.heap.size + 1) 3 (.int .i64 (q : Int)) ∧ Boxed W (w.heap.size + 1 + 1) 9 (.string ⟨#[]⟩) ∧ Boxed W (w.heap.size + 1 + 1 + 1) 74 (.int .i64 0) ∧ Boxed W (w.heap.size + 1 + 1 + 1 + 1 + 1) 27 (.slice aC lC cC) ∧ oS pre q = none) ∧ Below w.heap.size w W)
    (fun c pre W => (c = .ret ∧ ∃ x, oS pre q = some x ∧ Boxed W (w.heap.size + 1 + 1) 9 (.string x.data) ∧ Boxed W (w.heap.size + 1 + 1 + 1) 74 (.int .i64 0)) ∧ Below w.heap.size w W)
    (OwnFrom.and (fun s A B row hs hg hr => ⟨hs.1.kept hg (fun e => by have := (hr _ e.symm).1; omega), hs.2.1.kept hg (fun e => by have := (hr _ e.symm).1; omega), hs.2.2.1.kept hg (fun e => by have := (hr _ e.symm).1; omega), hs.2.2.2.1.kept hg (fun e => by have := (hr _ e.symm).1; omega), hs.2.2.2.2.1.kept hg (fun e => by have := (hr _ e.symm).1; omega), hs.2.2.2.2.2⟩) (ownFrom_below (Nat.le_refl _) (by omega)))
    (fun c => OwnFrom.and (fun s A B row hs hg hr => by
      obtain ⟨h1, x, h2, h3, h4⟩ := hs
      exact ⟨h1, x, h2, h3.kept hg (fun e => by have := (hr _ e.symm).1; omega), h4.kept hg (fun e => by have := (hr _ e.symm).1; omega)⟩) (ownFrom_below (Nat.le_refl _) (by omega)))
    ⟨⟨b0, b1, b2, b3, b5, rfl⟩, l6⟩
    (fun x a' W => ∃ bx, w.heap.size + 6 ≤ bx ∧ W.heap[bx]? = some (.cells #[.int .i64 x.2.sec, .string x.2.data] 158 (0, 0)) ∧ a' = { tmps := #[.agg #[.slice aS ss.length cS, .slice aC lC cC, .int .i64 fu, .bool false], .int .i64 (q : Int), .pointer (some ⟨w.heap.size, 0, none⟩), .pointer (some ⟨w.heap.size + 1, 0, none⟩), .pointer (some ⟨w.heap.size + 1 + 1, 0, none⟩), .pointer (some ⟨w.heap.size + 1 + 1 + 1, 0, none⟩), undef, .pointer (some ⟨bx, 0, none⟩), .bool false, .pointer (some ⟨w.heap.size, 3, none⟩), .bool false, .bool false,
      .agg #[.slice aS ss.length cS, .slice aC lC cC, .int .i64 fu, .bool false], .int .i64 (q : Int), .bool true, .bool false, .pointer (some ⟨w.heap.size, 1, none⟩), .slice aC lC cC, .func (.func 126) #[] #[.pointer (some ⟨w.heap.size + 1 + 1 + 1 + 1 + 1, 0, none⟩)], .int .i64 (x.1 : Int), .agg #[.int .i64 x.2.sec, .string x.2.data], undef, undef, undef, undef, undef, undef, undef, undef, undef, undef, undef], defers := [] })
    ?Ax ?assign ?body ?done ?stop
  case Ax =>
    rintro x a' _ A B row ⟨bx, h1, h2, h3⟩ hg hr
    exact ⟨bx, h1, (hg.block bx (Array.getElem?_eq_some_iff.1 h2).1 (fun e => by obtain ⟨_, o, ho, hc⟩ := hr bx e.symm; rw [h2] at ho; cases ho; cases hc)).trans h2, h3⟩
  case assign =>
    rintro l pre x W K ⟨⟨c0, c1, c2, c3, c5, hp⟩, hB⟩ hK
    gi_wp2
    have hlt := c5.lt
    exact hK _ _ (KeepsFrom.of_grownBy (World.grownBy_alloc W _ none) (fun j e => by cases e)) ⟨(Below.refl _ W).alloc hB.size _, Below.heap_alloc _ _ _ hlt⟩ ⟨⟨c0.alloc _, c1.alloc _, c2.alloc _, c3.alloc _, c5.alloc _, hp⟩, hB.alloc hB.size _⟩
      ⟨W.heap.size, by omega, World.alloc_heap_new W _, rfl⟩
  case body =>
    rintro l pre x a' W hl hloop ⟨⟨c0, c1, c2, c3, c5, hp⟩, hB⟩ ⟨bx, hbx, hx, rfl⟩ hlt
    have d1 := c1.cell
    have d2 := c2.cell
    have d3 := c3.cell
    have f2 := c2.frozen
    have f3 := c3.frozen
    have hx0 : W.cell? ⟨bx, 0, none⟩ = some (.int .i64 x.2.sec) := by simp [World.cell?, hx]
    have hx1 : W.cell? ⟨bx, 1, none⟩ = some (.string x.2.data) := by simp [World.cell?, hx]
    gi_wp2
    · rename_i he
      have he' : x.2.sec = (q : Int) := by simpa using he
      refine ⟨((KeepsOthers.setCell _ _ _).trans (KeepsOthers.setCell _ _ _)).from _, ⟨rfl, x.2, ?_, ?_, ?_⟩, ?_⟩
      · unfold oS at hp ⊢
        rw [List.find?_append]
        simp only [Option.map_eq_none_iff] at hp
        rw [hp]
        simp [he']
      · exact (c2.set _).other (by omega) _
      · exact (c3.other (by omega) _).set _
      · exact (hB.grown (grownBy_setCell' W _ _) hB.size (fun k e => by cases e; omega)).grown (grownBy_setCell' _ _ _) (Nat.le_trans hB.size (KeepsOthers.setCell W _ _).size) (fun k e => by cases e; omega)
    · rename_i he
      have he' : ¬ x.2.sec = (q : Int) := by simpa using he
      refine ⟨KeepsFrom.refl _ _, KpW.refl _ _ _, ⟨c0, c1, c2, c3, c5, ?_⟩, hB⟩
      unfold oS at hp ⊢
      rw [List.find?_append]
      simp only [Option.map_eq_none_iff] at hp
      rw [hp]
      simp [he']
  case done =>
    rintro D ys W hD rfl ⟨⟨c0, c1, c2, c3, c5, hp⟩, hB⟩ hK
    have d1 := c1.cell
    have d2 := c2.cell
    have d3 := c3.cell
    have f2 := c2.frozen
    have f3 := c3.frozen
    have d0 : W.cell? ⟨w.heap.size, 0, none⟩ = some (.slice aS ss.length cS) := by simp [World.cell?, show W.heap[w.heap.size]? = _ from c0]
    obtain ⟨s, hs⟩ : ∃ s, ss[q]?.getD default = s := ⟨_, rfl⟩
    rcases hS with rfl | ⟨b, off, rfl, hb, hS⟩
    · exact absurd hq (by simp)
    have hcq : W.cell? ⟨b, off + q, none⟩ = some (.string s) := by rw [← hs]; exact (hB.cell (p := ⟨b, off + q, none⟩) hb).trans (hS q hq)
    clear hS
    gi_wp2
    have hK' := ((KeepsOthers.setCell W ⟨w.heap.size + 1 + 1, 0, none⟩ (.string s)).trans (KeepsOthers.setCell _ ⟨w.heap.size + 1 + 1 + 1, 0, none⟩ (.int .i64 0))).same D _ hK rfl
    have e2 := (((c2.set (.string s)).other (show w.heap.size + 1 + 1 ≠ w.heap.size + 1 + 1 + 1 by omega) (.int .i64 0)).kept (grownBy_putObj' _ D (.deferred none)) (fun e => by cases e; omega)).cell
    have e3 := (((c3.other (show w.heap.size + 1 + 1 + 1 ≠ w.heap.size + 1 + 1 by omega) (.string s)).set (.int .i64 0)).kept (grownBy_putObj' _ D (.deferred none)) (fun e => by cases e; omega)).cell
    refine ⟨by simp, .inl ⟨_, _, rfl, run_takeDeferred hK', ?_⟩⟩
    have hz := (KeepsOthers.setCell W ⟨w.heap.size + 1 + 1, 0, none⟩ (.string s)).size
    have hB2 := (hB.grown (grownBy_setCell' W (w.heap.size + 1 + 1) (.string s)) hB.size (fun k e => by cases e; omega)).grown (grownBy_setCell' _ (w.heap.size + 1 + 1 + 1) (.int .i64 0)) (Nat.le_trans hB.size hz) (fun k e => by cases e; omega)
    refine ⟨.tuple #[.string s, .int .i64 0], by simp [results, Tryz.f57, go_sem, e2, e3], ?_, hB2.trans (belowK_b (w := w) (Nat.le_refl _) _ D _ _ (by omega) hK' rfl rfl)⟩
    rw [hp, hs]
    rfl
  case stop =>
    rintro D c pre W hD ⟨k, hk, rfl⟩ ⟨⟨rfl, x, hx, c2, c3⟩, hB⟩ hK
    gi_wp2
    refine ⟨by simp, .inl ⟨_, _, rfl, run_takeDeferred hK, ?_⟩⟩
    have e2 := (c2.kept (grownBy_putObj' _ D (.deferred none)) (fun e => by cases e; omega)).cell
    have e3 := (c3.kept (grownBy_putObj' _ D (.deferred none)) (fun e => by cases e; omega)).cell
    refine ⟨.tuple #[.string x.data, .int .i64 0], by simp [results, Tryz.f57, go_sem, e2, e3], ?_, hB.trans (belowK_b (w := w) (Nat.le_refl _) W D _ _ (by omega) hK rfl rfl)⟩
    have : oS (wk zs zs.length) q = some x := by
      obtain ⟨r, hr⟩ := yE zs hk
      unfold oS at hx ⊢
      rw [hr, List.find?_append]
      rw [Option.map_eq_some_iff] at hx
      obtain ⟨y, hy, rfl⟩ := hx
      rw [hy]
      rfl
    rw [this]
    rfl
end Go.Proofs
namespace Go.Proofs
open Go.RowKit Go.Shelf Go.Lib Go.Dm
theorem Ea {P : Program} (w : World) (t e : TypeId) (a : Option Addr) (l c : Nat) (h : P.underlying t = some (.slice e)) : (binOp .eql t (.slice a l c) (.slice none 0 0)).run P w = .ok (.bool a.isNone) w := by
  have h1 : ∀ d : Nat, (Op.equalIn (d + 1) t (.slice a l c) (.slice none 0 0)).run P w = .ok a.isNone w := fun d => by
    cases a <;> simp [Op.equalIn, run_underlying h]
  have h2 : (Op.equal t (.slice a l c) (.slice none 0 0)).run P w = .ok a.isNone w := h1 9999
  simp only [binOp]
  simp [h2]
attribute [local go_sem] Ea
set_option maxRecDepth 100000 in
set_option maxHeartbeats 4000000 in
theorem ClS.nil (n cap : Nat) (w : World) :
    Calls Tryz.prog 88 #[.slice none n cap] w fun e w' => e = .returned (.slice none 0 0) ∧ w' = w := by
  refine calls_of_wp Tryz.func88 rfl ?_
  simp only [Tryz.ntmps88, List.size_toArray, List.length_cons, List.length_nil, Nat.reduceAdd, Nat.reduceSub, Array.replicate_succ, Array.replicate_zero, List.push_toArray, List.append_toArray, List.nil_append, List.cons_append]
  go_wp2
  go_ret
  exact ⟨rfl, rfl⟩
set_option maxRecDepth 100000 in
set_option maxHeartbeats 4000000 in
theorem ClS.some (a : Addr) (n cap : Nat) (w : World) (v' : Value) (w' : World)
    (hr : ∀ ty, (Builtin.append_ #[26, 26] ty #[.slice (some ⟨w.heap.size, 0, none⟩) 0 0, .slice (some a) n cap]).run Tryz.prog (w.alloc (.cells #[] 9)) = .ok v' w') :
    Calls Tryz.prog 88 #[.slice (some a) n cap] w fun e w2 => e = .returned v' ∧ w2 = w' := by
  obtain ⟨b, o, sp⟩ := a
  refine calls_of_wp Tryz.func88 rfl ?_
  simp only [Tryz.ntmps88, List.size_toArray, List.length_cons, List.length_nil, Nat.reduceAdd, Nat.reduceSub, Array.replicate_succ, Array.replicate_zero, List.push_toArray, List.append_toArray, List.nil_append, List.cons_append]
  go_wp2_with (at_builtin; refine Lib.wpList_append_run _ rfl _ _ _ _ rfl _ _ rfl rfl _ _ (hr _) ?_)
  all_goals (go_ret; exact ⟨rfl, rfl⟩)
set_option maxRecDepth 100000 in
set_option maxHeartbeats 4000000 in
theorem ClL.nil (n cap : Nat) (w : World) :
    Calls Tryz.prog 120 #[.slice none n cap] w fun e w' => e = .returned (.slice none 0 0) ∧ w' = w := by
  refine calls_of_wp Tryz.func120 rfl ?_
  simp only [Tryz.ntmps120, List.size_toArray, List.length_cons, List.length_nil, Nat.reduceAdd, Nat.reduceSub, Array.replicate_succ, Array.replicate_zero, List.push_toArray, List.append_toArray, List.nil_append, List.cons_append]
  go_wp2
  go_ret
  exact ⟨rfl, rfl⟩
set_option maxRecDepth 100000 in
set_option maxHeartbeats 4000000 in
theorem ClL.some (a : Addr) (n cap : Nat) (w : World) (v' : Value) (w' : World)
    (hr : ∀ ty, (Builtin.append_ #[55, 55] ty #[.slice (some ⟨w.heap.size, 0, none⟩) 0 0, .slice (some a) n cap]).run Tryz.prog (w.alloc (.cells #[] 26)) = .ok v' w') :
    Calls Tryz.prog 120 #[.slice (some a) n cap] w fun e w2 => e = .returned v' ∧ w2 = w' := by
  obtain ⟨b, o, sp⟩ := a
  refine calls_of_wp Tryz.func120 rfl ?_
  simp only [Tryz.ntmps120, List.size_toArray, List.length_cons, List.length_nil, Nat.reduceAdd, Nat.reduceSub, Array.replicate_succ, Array.replicate_zero, List.push_toArray, List.append_toArray, List.nil_append, List.cons_append]
  go_wp2_with (at_builtin; refine Lib.wpList_append_run _ rfl _ _ _ _ rfl _ _ rfl rfl _ _ (hr _) ?_)
  all_goals (go_ret; exact ⟨rfl, rfl⟩)
set_option maxRecDepth 100000 in
set_option maxHeartbeats 4000000 in
theorem ClI.nil (n cap : Nat) (w : World) :
    Calls Tryz.prog 121 #[.slice none n cap] w fun e w' => e = .returned (.slice none 0 0) ∧ w' = w := by
  refine calls_of_wp Tryz.func121 rfl ?_
  simp only [Tryz.ntmps121, List.size_toArray, List.length_cons, List.length_nil, Nat.reduceAdd, Nat.reduceSub, Array.replicate_succ, Array.replicate_zero, List.push_toArray, List.append_toArray, List.nil_append, List.cons_append]
  go_wp2
  go_ret
  exact ⟨rfl, rfl⟩
set_option maxRecDepth 100000 in
set_option maxHeartbeats 4000000 in
theorem ClI.some (a : Addr) (n cap : Nat) (w : World) (v' : Value) (w' : World)
    (hr : ∀ ty, (Builtin.append_ #[56, 56] ty #[.slice (some ⟨w.heap.size, 0, none⟩) 0 0, .slice (some a) n cap]).run Tryz.prog (w.alloc (.cells #[] 3)) = .ok v' w') :
    Calls Tryz.prog 121 #[.slice (some a) n cap] w fun e w2 => e = .returned v' ∧ w2 = w' := by
  obtain ⟨b, o, sp⟩ := a
  refine calls_of_wp Tryz.func121 rfl ?_
  simp only [Tryz.ntmps121, List.size_toArray, List.length_cons, List.length_nil, Nat.reduceAdd, Nat.reduceSub, Array.replicate_succ, Array.replicate_zero, List.push_toArray, List.append_toArray, List.nil_append, List.cons_append]
  go_wp2_with (at_builtin; refine Lib.wpList_append_run _ rfl _ _ _ _ rfl _ _ rfl rfl _ _ (hr _) ?_)
  all_goals (go_ret; exact ⟨rfl, rfl⟩)
end Go.Proofs
namespace Go.Dm
open Go Go.RowKit Go.Proofs
theorem xf {Fr : Nat → Nat → Prop} {w : World} (hf : ∀ b o, Fr b o → b < w.heap.size) {l : List ByteArray} {a : Option Addr} {len cap : Nat} (h : (C.slice 1 (l.map eS)).rep Fr w (.slice a len cap)) : Ac w.heap.size w a len l := by
  simp only [C.rep] at h
  obtain ⟨a', len', cap', he, hlen, hcap, h4⟩ := h
  cases he
  rw [List.length_map] at hlen
  refine ⟨hlen, ?_⟩
  by_cases hl : l = []
  · exact .inl hl
  · have h0 : 0 < l.length := List.length_pos_iff.2 hl
    rcases h4 with ⟨h4, _⟩ | ⟨b, o, rfl, hr⟩
    · omega
    · have hg : ∀ j (hj : j < l.length), aZ Fr w b (eS l[j]) (o + j * 1) := fun j hj => (em hr j _ (by simp [hj])).2
      refine .inr ⟨b, o, rfl, hf _ _ (ci (hg 0 h0) 0 _ rfl).1, fun j hj => ?_⟩
      obtain ⟨v, h1, h2⟩ := (ci (hg j hj) 0 _ rfl).2
      simp only [C.rep] at h2
      rw [List.getElem?_eq_getElem hj, Option.getD_some]
      rw [Nat.mul_one] at h1
      rw [← h2.1]
      exact h1
theorem q7 {Fr : Nat → Nat → Prop} {w : World} (hf : ∀ b o, Fr b o → b < w.heap.size) {l : List Wr} {v : Value} (h : (C.slice 2 (l.map Wr.cs)).rep Fr w v) : gJ w.heap.size w v l := by
  simp only [C.rep] at h
  obtain ⟨a, len, cap, rfl, hlen, hcap, h4⟩ := h
  rw [List.length_map] at hlen
  by_cases hl : l = []
  · subst hl
    simp at hlen
    subst hlen
    exact .inl ⟨a, cap, rfl, rfl⟩
  · have h0 : 0 < l.length := List.length_pos_iff.2 hl
    rcases h4 with ⟨h4, _⟩ | ⟨b, o, rfl, hr⟩
    · omega
    · have hg : ∀ j (hj : j < l.length), aZ Fr w b (l[j]).cs (o + j * 2) := fun j hj => (em hr j _ (by simp [hj])).2
      refine .inr ⟨b, o, cap, by rw [hlen], hf _ _ (ci (hg 0 h0) 0 _ rfl).1, fun j hj => ?_⟩
      have hc := hg j hj
      rw [List.getElem?_eq_getElem hj, Option.getD_some]
      intro i x hx
      match i, hx with
      | 0, hx => simp at hx; subst hx; obtain ⟨v, h1, h2⟩ := (ci hc 0 _ rfl).2; simp only [C.rep] at h2; rw [h1, h2.1]
      | 1, hx => simp at hx; subst hx; obtain ⟨v, h1, h2⟩ := (ci hc 1 _ rfl).2; simp only [C.rep] at h2; rw [h1, h2.1]
      | i + 2, hx => simp at hx
theorem tD {Fr : Nat → Nat → Prop} {w : World} (hf : ∀ b o, Fr b o → b < w.heap.size) (d : Dk) (hd : d.cache.length ≤ 1000000) (i : Int) {v : Value} (hv : ∃ vs : List Value, v = .agg vs.toArray ∧ aJ (C.rep Fr w) d.cs vs) :
    Calls PP 57 #[v, .int .i64 i] w fun e W' => e = .returned (.tuple #[.string (aK d i).1, .int .i64 (aK d i).2]) ∧ Below w.heap.size w W' := by
  obtain ⟨vs, rfl, hvs⟩ := hv
  obtain ⟨v0, v1, rfl, hs, hw⟩ : ∃ v0 v1, vs = [v0, v1, .int .i64 d.fuse, .bool d.dead] ∧ (C.slice 1 (d.sure.map eS)).rep Fr w v0 ∧ (C.slice 2 (d.cache.map Wr.cs)).rep Fr w v1 := by
    match vs, hvs with
    | [v0, v1, v2, v3], ⟨h0, h1, h2, h3, _⟩ =>
      simp only [C.rep] at h2 h3
      obtain ⟨rfl, _⟩ := h2
      obtain ⟨rfl, _⟩ := h3
      exact ⟨v0, v1, rfl, h0, h1⟩
    | [], h => exact h.elim
    | [_], h => exact h.2.elim
    | [_, _], h => exact h.2.2.elim
    | [_, _, _], h => exact h.2.2.2.elim
    | _ :: _ :: _ :: _ :: _ :: _, h => exact h.2.2.2.2.elim
  have hs0 := hs
  have hw0 := hw
  simp only [C.rep] at hs0 hw0
  obtain ⟨aS, lS, cS, rfl, hlS, _⟩ := hs0
  obtain ⟨aC, lC, cC, rfl, _⟩ := hw0
  rw [List.length_map] at hlS
  have hS := xf hf hs
  have hW := q7 hf hw
  unfold aK
  cases hde : d.dead with
  | true => exact callsIn_wide.1 (Dr.dead_in Fence.wide 3 trivial rfl aS aC lS cS lC cC d.fuse i w)
  | false =>
    simp only [cond_false]
    cases ho : (decide (i < 0) || decide (i ≥ (d.sure.length : Int))) with
    | true => exact callsIn_wide.1 (Dr.out_in Fence.wide 3 trivial trivial rfl (by omega) aS aC lS cS lC cC d.fuse i w (by rw [hlS]; simp at ho ⊢; omega))
    | false =>
      simp only [cond_false]
      simp at ho
      obtain ⟨q, rfl⟩ : ∃ q : Nat, i = (q : Int) := ⟨i.toNat, by omega⟩
      have h := callsIn_wide.1 (Dr.read_in Fence.wide 3 trivial trivial trivial trivial rfl (by omega) aS aC lS cS lC cC q d.fuse d.sure d.cache hd w hS hW (by omega))
      have he : dA d (q : Int) = ((oS (wk d.cache d.cache.length) q).map (·.data)).getD (d.sure[q]?.getD default) := by
        rw [qC, ← Es, List.find?_map, Option.map_map]
        unfold oS
        rw [Option.map_map]
        rfl
      rw [he]
      exact h
theorem EV : TabOk PP GL XX := ⟨fun f h xs ims rs ims' hx hh => by
  unfold XX at hx
  split at hx
  · cases hx
    unfold rl at hh
    split at hh
    · rename_i ss ws fu de i
      split at hh
      · rename_i sl wl hsl hwl
        split at hh
        · rename_i hc
          cases hh
          obtain rfl := oN (g := eS) (fun _ _ => BC) hsl
          obtain rfl := oN (g := Wr.cs) (fun _ _ => Cq) hwl
          refine ⟨⟨_, Proofs.Tryz.func57, rfl, by kernel_rfl⟩, ?_⟩
          refine s5.full ?_
          intro Fr w locs vs hf hgl him hap hxs
          have hl : locs = [] := by
            cases locs with
            | nil => rfl
            | cons _ _ => exact him.elim
          subst hl
          obtain ⟨v, rfl, hv⟩ : ∃ v, vs = [v, .int .i64 i] ∧ ∃ us : List Value, v = .agg us.toArray ∧ aJ (C.rep Fr w) (Dk.mk sl wl fu de).cs us := by
            match vs, hxs with
            | [v1, v2], ⟨h1, h2, _⟩ => exact ⟨v1, by simp only [A.rep, C.rep] at h2; rw [h2.1], h1⟩
            | [], h => exact h.elim
            | [_], h => exact h.2.elim
            | _ :: _ :: _ :: _, h => exact h.2.2.elim
          refine (tD hf ⟨sl, wl, fu, de⟩ hc i hv).mono ?_
          rintro e w' ⟨rfl, hB⟩
          refine ⟨[.string _, .int .i64 _], Fr, rfl, BelowBut.of_below hB, fun b o h => h, fun b o h => .inl h, ⟨?_, ?_, trivial⟩, by simp [dl], trivial, rfl⟩
          · simp [Res.rep, C.rep, Value.oneCell']
          · simp [Res.rep, C.rep, Value.oneCell']
        · cases hh
      · cases hh
    · cases hh
  · cases hx
    unfold kT at hh
    split at hh
    · rename_i z es
      split at hh
      · rename_i hc
        obtain ⟨hs, hlen⟩ := hc
        cases hh
        obtain ⟨i, hi⟩ : ∃ i, PP.info? 9 = some i := Option.isSome_iff_exists.1 (by kernel_rfl)
        obtain ⟨zz, hz⟩ : ∃ z, i.zero = some z := by
          have h : ((PP.info? 9).bind (·.zero)).isSome = true := by kernel_rfl
          rw [hi] at h
          exact Option.isSome_iff_exists.1 h
        have hsz : i.size = 1 := by
          have h : (PP.info? 9).map (·.size) = some 1 := by kernel_rfl
          rw [hi] at h
          simpa using h
        have hb : i.bytes = 16 := by
          have h : (PP.info? 9).map (·.bytes) = some 16 := by kernel_rfl
          rw [hi] at h
          simpa using h
        have hzc : zz.cells.size = 1 := by
          have h : ((PP.info? 9).bind (·.zero)).map (·.cells.size) = some 1 := by kernel_rfl
          rw [hi] at h
          simp only [Option.bind_some, hz, Option.map_some, Option.some.injEq] at h
          exact h
        refine ⟨⟨_, Proofs.Tryz.func88, rfl, by kernel_rfl⟩, ?_⟩
        have := q9 (P := PP) (gl := GL) (f := 88) (t := 26) (e := 9) Proofs.Tryz.underlying26 hi hz (by omega) (by omega) (by omega) ClS.nil ClS.some (sz := z) (es := es) (by rw [hsz]; exact hs) hlen
        rwa [hsz] at this
      · cases hh
    · cases hh
  · cases hx⟩
theorem tr : Enters PP 88 ∧ j5 PP 88 1 := by
  obtain ⟨i, hi⟩ : ∃ i, PP.info? 9 = some i := Option.isSome_iff_exists.1 (by kernel_rfl)
  obtain ⟨zz, hz⟩ : ∃ z, i.zero = some z := by
    have h : ((PP.info? 9).bind (·.zero)).isSome = true := by kernel_rfl
    rw [hi] at h
    exact Option.isSome_iff_exists.1 h
  have hsz : i.size = 1 := by
    have h : (PP.info? 9).map (·.size) = some 1 := by kernel_rfl
    rw [hi] at h
    simpa using h
  have hb : i.bytes = 16 := by
    have h : (PP.info? 9).map (·.bytes) = some 16 := by kernel_rfl
    rw [hi] at h
    simpa using h
  have hzc : zz.cells.size = 1 := by
    have h : ((PP.info? 9).bind (·.zero)).map (·.cells.size) = some 1 := by kernel_rfl
    rw [hi] at h
    simp only [Option.bind_some, hz, Option.map_some, Option.some.injEq] at h
    exact h
  refine ⟨⟨_, Proofs.Tryz.func88, rfl, by kernel_rfl⟩, ?_⟩
  have := lV (P := PP) (f := 88) (t := 26) (e := 9) Proofs.Tryz.underlying26 hi hz (by omega) ClS.some
  rwa [hsz] at this
theorem ux : Enters PP 120 ∧ j5 PP 120 1 := by
  obtain ⟨i, hi⟩ : ∃ i, PP.info? 26 = some i := Option.isSome_iff_exists.1 (by kernel_rfl)
  obtain ⟨zz, hz⟩ : ∃ z, i.zero = some z := by
    have h : ((PP.info? 26).bind (·.zero)).isSome = true := by kernel_rfl
    rw [hi] at h
    exact Option.isSome_iff_exists.1 h
  have hsz : i.size = 1 := by
    have h : (PP.info? 26).map (·.size) = some 1 := by kernel_rfl
    rw [hi] at h
    simpa using h
  have hb : i.bytes = 24 := by
    have h : (PP.info? 26).map (·.bytes) = some 24 := by kernel_rfl
    rw [hi] at h
    simpa using h
  have hzc : zz.cells.size = 1 := by
    have h : ((PP.info? 26).bind (·.zero)).map (·.cells.size) = some 1 := by kernel_rfl
    rw [hi] at h
    simp only [Option.bind_some, hz, Option.map_some, Option.some.injEq] at h
    exact h
  refine ⟨⟨_, Proofs.Tryz.func120, rfl, by kernel_rfl⟩, ?_⟩
  have := lV (P := PP) (f := 120) (t := 55) (e := 26) Proofs.Tryz.underlying55 hi hz (by omega) ClL.some
  rwa [hsz] at this
theorem tP : Enters PP 121 ∧ j5 PP 121 1 := by
  obtain ⟨i, hi⟩ : ∃ i, PP.info? 3 = some i := Option.isSome_iff_exists.1 (by kernel_rfl)
  obtain ⟨zz, hz⟩ : ∃ z, i.zero = some z := by
    have h : ((PP.info? 3).bind (·.zero)).isSome = true := by kernel_rfl
    rw [hi] at h
    exact Option.isSome_iff_exists.1 h
  have hsz : i.size = 1 := by
    have h : (PP.info? 3).map (·.size) = some 1 := by kernel_rfl
    rw [hi] at h
    simpa using h
  have hb : i.bytes = 8 := by
    have h : (PP.info? 3).map (·.bytes) = some 8 := by kernel_rfl
    rw [hi] at h
    simpa using h
  have hzc : zz.cells.size = 1 := by
    have h : ((PP.info? 3).bind (·.zero)).map (·.cells.size) = some 1 := by kernel_rfl
    rw [hi] at h
    simp only [Option.bind_some, hz, Option.map_some, Option.some.injEq] at h
    exact h
  refine ⟨⟨_, Proofs.Tryz.func121, rfl, by kernel_rfl⟩, ?_⟩
  have := lV (P := PP) (f := 121) (t := 56) (e := 3) Proofs.Tryz.underlying56 hi hz (by omega) ClI.some
  rwa [hsz] at this
end Go.Dm
