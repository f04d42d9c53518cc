/-
  A part of the proofs over this seat: what its functions make of data (the file in which the theorems stand says what is proved).
-/
import Derived.Test.YthadbladkbfcmaaLd
set_option linter.unusedSimpArgs false
set_option linter.unusedVariables false
namespace Go.Dm
open Go
def S23 (a : List ByteArray) (b : List ByteArray) (c0 : Int) : St := St.mk [tc (C.slice (1 : Nat) (List.map eS a)), tc (C.slice (1 : Nat) (List.map eS b)), T.hole, T.hole, T.hole, tc (ii c0), T.hole, T.hole, T.hole, T.hole, T.hole, T.hole, T.hole, T.hole, T.hole, T.hole, T.hole, T.hole, T.hole, T.hole, T.hole, T.hole, T.hole, T.hole, T.hole, T.hole] [] []
theorem b23_0 (a : List ByteArray) (b : List ByteArray) (i : Nat) (x : ByteArray) (y : ByteArray) (hx : a[i]? = some x) (hy : b[i]? = some y) (k : Nat) (z0 : (decide ((↑i : Int) < (↑(List.length a) : Int))) = true) (z1 : (x == y) = true) : NextIs (EE (k + 1)) (HH 23) NN (LB PP 23 4) 0 0 (S23 a b (↑i : Int)) (S23 a b (IntKind.wrap IntKind.i64 ((↑i : Int) + (1 : Int)))) :=
  next_run (aa (map_len (eS) (a)) <| aa z0 <| aa (rfl : (↑i : Int) = (↑i : Int)) <| aa (map_get (f := eS) hx) <| aa (rfl : (↑i : Int) = (↑i : Int)) <| aa (map_get (f := eS) hy) <| aa (congrArg not z1) <| trivial) (gs := [G.len (List.length a), G.b true, G.idx i [st x], G.idx i [st y], G.b false]) (by kernel_rfl)
def b23_s1 (a : List ByteArray) (b : List ByteArray) (i : Nat) (x : ByteArray) (y : ByteArray) : St := St.mk [tc (C.slice (1 : Nat) (List.map eS a)), tc (C.slice (1 : Nat) (List.map eS b)), T.hole, T.hole, tc (bo false), tc (ii (↑i : Int)), T.hole, T.hole, T.hole, T.hole, T.hole, tc (ii (↑i : Int)), tc (C.slice (1 : Nat) (List.map eS a)), tc (ii (↑(List.length a) : Int)), tc (bo (decide ((↑i : Int) < (↑(List.length a) : Int)))), T.hole, T.hole, tc (C.slice (1 : Nat) (List.map eS a)), tc (ii (↑i : Int)), tc (C.rptr [st x]), tc (st x), tc (C.slice (1 : Nat) (List.map eS b)), tc (ii (↑i : Int)), tc (C.rptr [st y]), tc (st y), tc (bo !x == y)] [] []
theorem b23_1 (a : List ByteArray) (b : List ByteArray) (i : Nat) (x : ByteArray) (y : ByteArray) (hx : a[i]? = some x) (hy : b[i]? = some y) (k : Nat) (z0 : (decide ((↑i : Int) < (↑(List.length a) : Int))) = true) (z1 : (x == y) = false) : OutIs (EE (k + 1)) (HH 23) NN (LB PP 23 4) (S23 a b (↑i : Int)) (Ext.ret) (b23_s1 a b i x y) :=
  out_run (aa (map_len (eS) (a)) <| aa z0 <| aa (rfl : (↑i : Int) = (↑i : Int)) <| aa (map_get (f := eS) hx) <| aa (rfl : (↑i : Int) = (↑i : Int)) <| aa (map_get (f := eS) hy) <| aa (congrArg not z1) <| trivial) (gs := [G.len (List.length a), G.b true, G.idx i [st x], G.idx i [st y], G.b true]) (by kernel_rfl)
def b23_s2 (a : List ByteArray) (b : List ByteArray) (i : Nat) : St := St.mk [tc (C.slice (1 : Nat) (List.map eS a)), tc (C.slice (1 : Nat) (List.map eS b)), T.hole, T.hole, T.hole, tc (ii (↑i : Int)), T.hole, T.hole, T.hole, T.hole, T.hole, tc (ii (↑i : Int)), tc (C.slice (1 : Nat) (List.map eS a)), tc (ii (↑(List.length a) : Int)), tc (bo (decide ((↑i : Int) < (↑(List.length a) : Int)))), T.hole, T.hole, T.hole, T.hole, T.hole, T.hole, T.hole, T.hole, T.hole, T.hole, T.hole] [] []
theorem b23_2 (a : List ByteArray) (b : List ByteArray) (i : Nat) (k : Nat) (z0 : (decide ((↑i : Int) < (↑(List.length a) : Int))) = false) : OutIs (EE (k + 1)) (HH 23) NN (LB PP 23 4) (S23 a b (↑i : Int)) (Ext.exit (0 : Nat)) (b23_s2 a b i) :=
  out_run (aa (map_len (eS) (a)) <| aa z0 <| trivial) (gs := [G.len (List.length a), G.b false]) (by kernel_rfl)
theorem texts_f (a : List ByteArray) (b : List ByteArray) (he : ((↑(List.length a) : Int) == (↑(List.length b) : Int)) = true) (i : Nat) (x : ByteArray) (y : ByteArray) (hL : ∀ (k : Nat), LoopAt (EE (k + (1 : Nat))) (HH (23 : FuncId)) NN (LB PP (23 : Nat) (4 : Nat)) (S23 a b (0 : Int)) Ext.ret (b23_s1 a b i x y)) (k : Nat) : orac PP GL XX HH NN (k + 2) 23 [A.c (C.slice (1 : Nat) (strs a)), A.c (C.slice (1 : Nat) (strs b))] [] = some ([Res.c (bo false)], []) := by
  exact run_of (g := 23) rfl rfl (aa (map_len (eS) (a)) <| aa (map_len (eS) (b)) <| aa (congrArg not he) <| aa (hL k) <| trivial) (gs := [G.len (List.length a), G.len (List.length b), G.b false, G.loop Ext.ret (b23_s1 a b i x y)]) (by kernel_rfl)
theorem texts_t (a : List ByteArray) (b : List ByteArray) (he : ((↑(List.length a) : Int) == (↑(List.length b) : Int)) = true) (hL : ∀ (k : Nat), LoopAt (EE (k + (1 : Nat))) (HH (23 : FuncId)) NN (LB PP (23 : Nat) (4 : Nat)) (S23 a b (0 : Int)) (Ext.exit (0 : Nat)) (b23_s2 a b (List.length a))) (k : Nat) : orac PP GL XX HH NN (k + 2) 23 [A.c (C.slice (1 : Nat) (strs a)), A.c (C.slice (1 : Nat) (strs b))] [] = some ([Res.c (bo true)], []) := by
  exact run_of (g := 23) rfl rfl (aa (map_len (eS) (a)) <| aa (map_len (eS) (b)) <| aa (congrArg not he) <| aa (hL k) <| trivial) (gs := [G.len (List.length a), G.len (List.length b), G.b false, G.loop (Ext.exit (0 : Nat)) (b23_s2 a b (List.length a))]) (by kernel_rfl)
theorem texts_n (a : List ByteArray) (b : List ByteArray) (he : ((↑(List.length a) : Int) == (↑(List.length b) : Int)) = false) (k : Nat) : orac PP GL XX HH NN (k + 2) 23 [A.c (C.slice (1 : Nat) (strs a)), A.c (C.slice (1 : Nat) (strs b))] [] = some ([Res.c (bo false)], []) := by
  exact run_of (g := 23) rfl rfl (aa (map_len (eS) (a)) <| aa (map_len (eS) (b)) <| aa (congrArg not he) <| trivial) (gs := [G.len (List.length a), G.len (List.length b), G.b true]) (by kernel_rfl)
theorem texts14 (a b : List ByteArray) (ha : a.length ≤ 1000000) (k : Nat) : orac PP GL XX HH NN (k + 2) 23 [.c (.slice 1 (strs a)), .c (.slice 1 (strs b))] [] = some ([.c (bo (a == b))], []) := by
  by_cases hl : a.length = b.length
  · have he : ((a.length : Int) == (b.length : Int)) = true := by rw [hl]; exact beq_self_eq_true _
    have hz := zip_beq hl
    have hlz : (a.zip b).length = a.length := by simp [hl]
    rcases search (E := fun k => EE (k + 1)) (fun i => S23 a b (i : Nat)) (a.zip b) (fun p => !(p.1 == p.2)) (fun i p => b23_s1 a b i p.1 p.2) (b23_s2 a b a.length) (nv := 0) (nt := 0) (by kernel_rfl) (by kernel_rfl)
      (fun k i p hp hq => by
        obtain ⟨h1, h2⟩ := zip_get hp
        have := b23_0 a b i p.1 p.2 h1 h2 k (dlt h1) (by simpa using hq)
        rwa [w64g h1 (by omega)] at this)
      (fun k i p hp hq => by
        obtain ⟨h1, h2⟩ := zip_get hp
        exact b23_1 a b i p.1 p.2 h1 h2 k (dlt h1) (by simpa using hq))
      (fun k => by rw [hlz]; exact b23_2 a b a.length k dge) (by rw [hlz]; unfold NN; omega) with ⟨h1, h2⟩ | ⟨h1, i, p, h3, h4, _, _, h2⟩
    · rw [h1] at hz
      have : (a == b) = true := by simpa using hz.symm
      rw [this]
      exact texts_t a b he h2 k
    · rw [h1] at hz
      have : (a == b) = false := by simpa using hz.symm
      rw [this]
      exact texts_f a b he i p.1 p.2 h2 k
  · have he : ((a.length : Int) == (b.length : Int)) = false := beq_false_of_ne (by omega)
    rw [beq_len_ne hl]
    exact texts_n a b he k
def S27 (a : List ByteArray) (b : List ByteArray) (c0 : Int) : St := St.mk [tc (C.slice (1 : Nat) (List.map eS a)), tc (C.slice (1 : Nat) (List.map eS b)), T.hole, T.hole, T.hole, T.hole, T.hole, T.hole, T.hole, T.hole, T.hole, T.hole, tc (ii (↑(List.length a) : Int)), tc (ii c0), T.hole, T.hole, T.hole, T.hole, T.hole, T.hole, T.hole, T.hole, T.hole, T.hole, T.hole, T.hole] [] []
theorem b27_0 (a : List ByteArray) (b : List ByteArray) (i : Nat) (x : ByteArray) (y : ByteArray) (hx : a[i]? = some x) (hy : b[i]? = some y) (k : Nat) (z0 : (decide ((↑i : Int) < (↑(List.length a) : Int))) = true) (z1 : (x == y) = true) : NextIs (EE (k + 1)) (HH 27) NN (LB PP 27 4) 0 0 (S27 a b (↑i : Int)) (S27 a b (IntKind.wrap IntKind.i64 ((↑i : Int) + (1 : Int)))) :=
  next_run (aa z0 <| aa (rfl : (↑i : Int) = (↑i : Int)) <| aa (map_get (f := eS) hx) <| aa (rfl : (↑i : Int) = (↑i : Int)) <| aa (map_get (f := eS) hy) <| aa (congrArg not z1) <| trivial) (gs := [G.b true, G.idx i [st x], G.idx i [st y], G.b false]) (by kernel_rfl)
def b27_s1 (a : List ByteArray) (b : List ByteArray) (i : Nat) (x : ByteArray) (y : ByteArray) : St := St.mk [tc (C.slice (1 : Nat) (List.map eS a)), tc (C.slice (1 : Nat) (List.map eS b)), T.hole, T.hole, tc (bo false), tc (ii (↑i : Int)), T.hole, T.hole, T.hole, T.hole, T.hole, T.hole, tc (ii (↑(List.length a) : Int)), tc (ii (↑i : Int)), tc (bo (decide ((↑i : Int) < (↑(List.length a) : Int)))), tc (ii (↑i : Int)), tc (C.slice (1 : Nat) (List.map eS a)), tc (ii (↑i : Int)), tc (C.rptr [st x]), tc (st x), tc (C.slice (1 : Nat) (List.map eS b)), tc (ii (↑i : Int)), tc (C.rptr [st y]), tc (st y), tc (bo !x == y), T.hole] [] []
theorem b27_1 (a : List ByteArray) (b : List ByteArray) (i : Nat) (x : ByteArray) (y : ByteArray) (hx : a[i]? = some x) (hy : b[i]? = some y) (k : Nat) (z0 : (decide ((↑i : Int) < (↑(List.length a) : Int))) = true) (z1 : (x == y) = false) : OutIs (EE (k + 1)) (HH 27) NN (LB PP 27 4) (S27 a b (↑i : Int)) (Ext.ret) (b27_s1 a b i x y) :=
  out_run (aa z0 <| aa (rfl : (↑i : Int) = (↑i : Int)) <| aa (map_get (f := eS) hx) <| aa (rfl : (↑i : Int) = (↑i : Int)) <| aa (map_get (f := eS) hy) <| aa (congrArg not z1) <| trivial) (gs := [G.b true, G.idx i [st x], G.idx i [st y], G.b true]) (by kernel_rfl)
def b27_s2 (a : List ByteArray) (b : List ByteArray) (i : Nat) : St := St.mk [tc (C.slice (1 : Nat) (List.map eS a)), tc (C.slice (1 : Nat) (List.map eS b)), T.hole, T.hole, T.hole, T.hole, T.hole, T.hole, T.hole, T.hole, T.hole, T.hole, tc (ii (↑(List.length a) : Int)), tc (ii (↑i : Int)), tc (bo (decide ((↑i : Int) < (↑(List.length a) : Int)))), T.hole, T.hole, T.hole, T.hole, T.hole, T.hole, T.hole, T.hole, T.hole, T.hole, T.hole] [] []
theorem b27_2 (a : List ByteArray) (b : List ByteArray) (i : Nat) (k : Nat) (z0 : (decide ((↑i : Int) < (↑(List.length a) : Int))) = false) : OutIs (EE (k + 1)) (HH 27) NN (LB PP 27 4) (S27 a b (↑i : Int)) (Ext.exit (0 : Nat)) (b27_s2 a b i) :=
  out_run (aa z0 <| trivial) (gs := [G.b false]) (by kernel_rfl)
theorem equal_f (a : List ByteArray) (b : List ByteArray) (he : ((↑(List.length a) : Int) == (↑(List.length b) : Int)) = true) (i : Nat) (x : ByteArray) (y : ByteArray) (hL : ∀ (k : Nat), LoopAt (EE (k + (1 : Nat))) (HH (27 : FuncId)) NN (LB PP (27 : Nat) (4 : Nat)) (S27 a b (0 : Int)) Ext.ret (b27_s1 a b i x y)) (k : Nat) : orac PP GL XX HH NN (k + 2) 27 [A.c (C.slice (1 : Nat) (strs a)), A.c (C.slice (1 : Nat) (strs b))] [] = some ([Res.c (bo false)], []) := by
  exact run_of (g := 27) rfl rfl (aa (map_len (eS) (a)) <| aa (map_len (eS) (b)) <| aa (congrArg not he) <| aa (map_len (eS) (a)) <| aa (hL k) <| trivial) (gs := [G.len (List.length a), G.len (List.length b), G.b false, G.len (List.length a), G.loop Ext.ret (b27_s1 a b i x y)]) (by kernel_rfl)
theorem equal_t (a : List ByteArray) (b : List ByteArray) (he : ((↑(List.length a) : Int) == (↑(List.length b) : Int)) = true) (hL : ∀ (k : Nat), LoopAt (EE (k + (1 : Nat))) (HH (27 : FuncId)) NN (LB PP (27 : Nat) (4 : Nat)) (S27 a b (0 : Int)) (Ext.exit (0 : Nat)) (b27_s2 a b (List.length a))) (k : Nat) : orac PP GL XX HH NN (k + 2) 27 [A.c (C.slice (1 : Nat) (strs a)), A.c (C.slice (1 : Nat) (strs b))] [] = some ([Res.c (bo true)], []) := by
  exact run_of (g := 27) rfl rfl (aa (map_len (eS) (a)) <| aa (map_len (eS) (b)) <| aa (congrArg not he) <| aa (map_len (eS) (a)) <| aa (hL k) <| trivial) (gs := [G.len (List.length a), G.len (List.length b), G.b false, G.len (List.length a), G.loop (Ext.exit (0 : Nat)) (b27_s2 a b (List.length a))]) (by kernel_rfl)
theorem equal_n (a : List ByteArray) (b : List ByteArray) (he : ((↑(List.length a) : Int) == (↑(List.length b) : Int)) = false) (k : Nat) : orac PP GL XX HH NN (k + 2) 27 [A.c (C.slice (1 : Nat) (strs a)), A.c (C.slice (1 : Nat) (strs b))] [] = some ([Res.c (bo false)], []) := by
  exact run_of (g := 27) rfl rfl (aa (map_len (eS) (a)) <| aa (map_len (eS) (b)) <| aa (congrArg not he) <| trivial) (gs := [G.len (List.length a), G.len (List.length b), G.b true]) (by kernel_rfl)
theorem equal14 (a b : List ByteArray) (ha : a.length ≤ 1000000) (k : Nat) : orac PP GL XX HH NN (k + 2) 27 [.c (.slice 1 (strs a)), .c (.slice 1 (strs b))] [] = some ([.c (bo (a == b))], []) := by
  by_cases hl : a.length = b.length
  · have he : ((a.length : Int) == (b.length : Int)) = true := by rw [hl]; exact beq_self_eq_true _
    have hz := zip_beq hl
    have hlz : (a.zip b).length = a.length := by simp [hl]
    rcases search (E := fun k => EE (k + 1)) (fun i => S27 a b (i : Nat)) (a.zip b) (fun p => !(p.1 == p.2)) (fun i p => b27_s1 a b i p.1 p.2) (b27_s2 a b a.length) (nv := 0) (nt := 0) (by kernel_rfl) (by kernel_rfl)
      (fun k i p hp hq => by
        obtain ⟨h1, h2⟩ := zip_get hp
        have := b27_0 a b i p.1 p.2 h1 h2 k (dlt h1) (by simpa using hq)
        rwa [w64g h1 (by omega)] at this)
      (fun k i p hp hq => by
        obtain ⟨h1, h2⟩ := zip_get hp
        exact b27_1 a b i p.1 p.2 h1 h2 k (dlt h1) (by simpa using hq))
      (fun k => by rw [hlz]; exact b27_2 a b a.length k dge) (by rw [hlz]; unfold NN; omega) with ⟨h1, h2⟩ | ⟨h1, i, p, h3, h4, _, _, h2⟩
    · rw [h1] at hz
      have : (a == b) = true := by simpa using hz.symm
      rw [this]
      exact equal_t a b he h2 k
    · rw [h1] at hz
      have : (a == b) = false := by simpa using hz.symm
      rw [this]
      exact equal_f a b he i p.1 p.2 h2 k
  · have he : ((a.length : Int) == (b.length : Int)) = false := beq_false_of_ne (by omega)
    rw [beq_len_ne hl]
    exact equal_n a b he k
theorem idleF (a : List ByteArray) (k : Nat) : orac PP GL XX HH NN (k + 1) 25 [A.c (C.slice (1 : Nat) (strs a))] [] = some ([Res.c (bo (decide ((↑(List.length a) : Int) > (0 : Int))))], []) := by
  exact Eq.trans (run_of (g := 25) rfl rfl (aa (map_len (eS) (a)) <| trivial) (gs := [G.len (List.length a)]) (rs := [Res.c (bo (decide ((↑(List.length a) : Int) > (0 : Int))))]) (ims' := []) (by kernel_rfl)) rfl
def idxM (a b : List ByteArray) : Int := bif decide ((a.length : Int) > 0) then 0 else bif decide ((b.length : Int) > 0) then 1 else -1
theorem indexF (a : List ByteArray) (b : List ByteArray) (k : Nat) : orac PP GL XX HH NN (k + 2) 29 [A.c (C.slice (1 : Nat) [[C.slice (1 : Nat) (strs a)], [C.slice (1 : Nat) (strs b)]]), A.c (C.fn (25 : FuncId) [])] [] = some ([Res.c (ii (idxM a b))], []) := by
  rcases Bool.eq_false_or_eq_true (decide ((↑(List.length a) : Int) > (0 : Int))) with z0 | z0
  · exact Eq.trans (run_of (g := 29) rfl rfl (aa (rfl : (2 : Nat) = (2 : Nat)) <| aa tt <| aa (rfl : (0 : Int) = (0 : Int)) <| aa (rfl : some ([C.slice (1 : Nat) (List.map eS a)]) = some ([C.slice (1 : Nat) (List.map eS a)])) <| aa (idleF a k) <| aa z0 <| trivial) (gs := [G.len (2 : Nat), G.un, G.b true, G.idx (0 : Nat) [C.slice (1 : Nat) (List.map eS a)], G.call [Res.c (bo (decide ((↑(List.length a) : Int) > (0 : Int))))] [], G.b true]) (rs := [Res.c (ii (0 : Int))]) (ims' := []) (by kernel_rfl)) (by simp only [idxM, z0, cond, and, or, not] <;> rfl)
  · rcases Bool.eq_false_or_eq_true (decide ((↑(List.length b) : Int) > (0 : Int))) with z1 | z1
    · exact Eq.trans (run_of (g := 29) rfl rfl (aa (rfl : (2 : Nat) = (2 : Nat)) <| aa tt <| aa (rfl : (0 : Int) = (0 : Int)) <| aa (rfl : some ([C.slice (1 : Nat) (List.map eS a)]) = some ([C.slice (1 : Nat) (List.map eS a)])) <| aa (idleF a k) <| aa z0 <| aa tt <| aa (rfl : (1 : Int) = (1 : Int)) <| aa (rfl : some ([C.slice (1 : Nat) (List.map eS b)]) = some ([C.slice (1 : Nat) (List.map eS b)])) <| aa (idleF b k) <| aa z1 <| trivial) (gs := [G.len (2 : Nat), G.un, G.b true, G.idx (0 : Nat) [C.slice (1 : Nat) (List.map eS a)], G.call [Res.c (bo (decide ((↑(List.length a) : Int) > (0 : Int))))] [], G.b false, G.b true, G.idx (1 : Nat) [C.slice (1 : Nat) (List.map eS b)], G.call [Res.c (bo (decide ((↑(List.length b) : Int) > (0 : Int))))] [], G.b true]) (rs := [Res.c (ii (1 : Int))]) (ims' := []) (by kernel_rfl)) (by simp only [idxM, z0, z1, cond, and, or, not] <;> rfl)
    · exact Eq.trans (run_of (g := 29) rfl rfl (aa (rfl : (2 : Nat) = (2 : Nat)) <| aa tt <| aa (rfl : (0 : Int) = (0 : Int)) <| aa (rfl : some ([C.slice (1 : Nat) (List.map eS a)]) = some ([C.slice (1 : Nat) (List.map eS a)])) <| aa (idleF a k) <| aa z0 <| aa tt <| aa (rfl : (1 : Int) = (1 : Int)) <| aa (rfl : some ([C.slice (1 : Nat) (List.map eS b)]) = some ([C.slice (1 : Nat) (List.map eS b)])) <| aa (idleF b k) <| aa z1 <| aa ff <| trivial) (gs := [G.len (2 : Nat), G.un, G.b true, G.idx (0 : Nat) [C.slice (1 : Nat) (List.map eS a)], G.call [Res.c (bo (decide ((↑(List.length a) : Int) > (0 : Int))))] [], G.b false, G.b true, G.idx (1 : Nat) [C.slice (1 : Nat) (List.map eS b)], G.call [Res.c (bo (decide ((↑(List.length b) : Int) > (0 : Int))))] [], G.b false, G.b false]) (rs := [Res.c (ii (-1 : Int))]) (ims' := []) (by kernel_rfl)) (by simp only [idxM, z0, z1, cond, and, or, not] <;> rfl)
theorem containsF (a : List ByteArray) (b : List ByteArray) (k : Nat) : orac PP GL XX HH NN (k + 3) 24 [A.c (C.slice (1 : Nat) [[C.slice (1 : Nat) (strs a)], [C.slice (1 : Nat) (strs b)]]), A.c (C.fn (25 : FuncId) [])] [] = some ([Res.c (bo (decide (idxM a b ≥ (0 : Int))))], []) := by
  exact Eq.trans (run_of (g := 24) rfl rfl (aa (indexF a b k) <| trivial) (gs := [G.call [Res.c (ii (idxM a b))] []]) (rs := [Res.c (bo (decide (idxM a b ≥ (0 : Int))))]) (ims' := []) (by kernel_rfl)) rfl
theorem idle0 (l : Lk) (k : Nat) : orac PP GL XX HH NN (k + 4) 17 [A.agg (Lk.cs l)] [] = some ([Res.c (bo !decide (idxM (Lk.to0 l) (Lk.to1 l) ≥ (0 : Int)))], []) := by
  exact Eq.trans (run_of (g := 17) rfl rfl (aa (containsF (Lk.to0 l) (Lk.to1 l) k) <| trivial) (gs := [G.call [Res.c (bo (decide (idxM (Lk.to0 l) (Lk.to1 l) ≥ (0 : Int))))] []]) (rs := [Res.c (bo !decide (idxM (Lk.to0 l) (Lk.to1 l) ≥ (0 : Int)))]) (ims' := []) (by kernel_rfl)) rfl
theorem ridle0 (l : Lk) (k : Nat) : orac PP GL XX HH NN (k + 1) 18 [A.agg (Lk.cs l)] [] = some ([Res.c (bo (IntKind.wrap IntKind.i64 ((↑(List.length (Lk.to0 l)) : Int) + (↑(List.length (Lk.to1 l)) : Int)) == (0 : Int)))], []) := by
  exact Eq.trans (run_of (g := 18) rfl rfl (aa (map_len (eS) (Lk.to0 l)) <| aa (map_len (eS) (Lk.to1 l)) <| trivial) (gs := [G.len (List.length (Lk.to0 l)), G.len (List.length (Lk.to1 l))]) (rs := [Res.c (bo (IntKind.wrap IntKind.i64 ((↑(List.length (Lk.to0 l)) : Int) + (↑(List.length (Lk.to1 l)) : Int)) == (0 : Int)))]) (ims' := []) (by kernel_rfl)) rfl
theorem equalF (a : List ByteArray) (b : List ByteArray) (c : List ByteArray) (d : List ByteArray) (ha : List.length a ≤ (1000000 : Nat)) (hb : List.length b ≤ (1000000 : Nat)) (k : Nat) : orac PP GL XX HH NN (k + 4) 26 [A.c (C.slice (1 : Nat) [[C.slice (1 : Nat) (strs a)], [C.slice (1 : Nat) (strs b)]]), A.c (C.slice (1 : Nat) [[C.slice (1 : Nat) (strs c)], [C.slice (1 : Nat) (strs d)]]), A.c (C.fn (27 : FuncId) [])] [] = some ([Res.c (bo (a == c && b == d))], []) := by
  rcases Bool.eq_false_or_eq_true (a == c) with z0 | z0
  · rcases Bool.eq_false_or_eq_true (b == d) with z1 | z1
    · exact Eq.trans (run_of (g := 26) rfl rfl (aa (rfl : (2 : Nat) = (2 : Nat)) <| aa (rfl : (2 : Nat) = (2 : Nat)) <| aa ff <| aa (rfl : (2 : Nat) = (2 : Nat)) <| aa tt <| aa (rfl : (0 : Int) = (0 : Int)) <| aa (rfl : some ([C.slice (1 : Nat) (List.map eS a)]) = some ([C.slice (1 : Nat) (List.map eS a)])) <| aa (rfl : (0 : Int) = (0 : Int)) <| aa (rfl : some ([C.slice (1 : Nat) (List.map eS c)]) = some ([C.slice (1 : Nat) (List.map eS c)])) <| aa (equal14 a c ha (k + (1 : Nat))) <| aa (congrArg not z0) <| aa tt <| aa (rfl : (1 : Int) = (1 : Int)) <| aa (rfl : some ([C.slice (1 : Nat) (List.map eS b)]) = some ([C.slice (1 : Nat) (List.map eS b)])) <| aa (rfl : (1 : Int) = (1 : Int)) <| aa (rfl : some ([C.slice (1 : Nat) (List.map eS d)]) = some ([C.slice (1 : Nat) (List.map eS d)])) <| aa (equal14 b d hb (k + (1 : Nat))) <| aa (congrArg not z1) <| aa ff <| trivial) (gs := [G.len (2 : Nat), G.len (2 : Nat), G.b false, G.len (2 : Nat), G.un, G.b true, G.idx (0 : Nat) [C.slice (1 : Nat) (List.map eS a)], G.idx (0 : Nat) [C.slice (1 : Nat) (List.map eS c)], G.call [Res.c (bo (a == c))] [], G.b false, G.b true, G.idx (1 : Nat) [C.slice (1 : Nat) (List.map eS b)], G.idx (1 : Nat) [C.slice (1 : Nat) (List.map eS d)], G.call [Res.c (bo (b == d))] [], G.b false, G.b false]) (rs := [Res.c (bo true)]) (ims' := []) (by kernel_rfl)) (by simp only [z0, z1, cond, and, or, not] <;> rfl)
    · exact Eq.trans (run_of (g := 26) rfl rfl (aa (rfl : (2 : Nat) = (2 : Nat)) <| aa (rfl : (2 : Nat) = (2 : Nat)) <| aa ff <| aa (rfl : (2 : Nat) = (2 : Nat)) <| aa tt <| aa (rfl : (0 : Int) = (0 : Int)) <| aa (rfl : some ([C.slice (1 : Nat) (List.map eS a)]) = some ([C.slice (1 : Nat) (List.map eS a)])) <| aa (rfl : (0 : Int) = (0 : Int)) <| aa (rfl : some ([C.slice (1 : Nat) (List.map eS c)]) = some ([C.slice (1 : Nat) (List.map eS c)])) <| aa (equal14 a c ha (k + (1 : Nat))) <| aa (congrArg not z0) <| aa tt <| aa (rfl : (1 : Int) = (1 : Int)) <| aa (rfl : some ([C.slice (1 : Nat) (List.map eS b)]) = some ([C.slice (1 : Nat) (List.map eS b)])) <| aa (rfl : (1 : Int) = (1 : Int)) <| aa (rfl : some ([C.slice (1 : Nat) (List.map eS d)]) = some ([C.slice (1 : Nat) (List.map eS d)])) <| aa (equal14 b d hb (k + (1 : Nat))) <| aa (congrArg not z1) <| trivial) (gs := [G.len (2 : Nat), G.len (2 : Nat), G.b false, G.len (2 : Nat), G.un, G.b true, G.idx (0 : Nat) [C.slice (1 : Nat) (List.map eS a)], G.idx (0 : Nat) [C.slice (1 : Nat) (List.map eS c)], G.call [Res.c (bo (a == c))] [], G.b false, G.b true, G.idx (1 : Nat) [C.slice (1 : Nat) (List.map eS b)], G.idx (1 : Nat) [C.slice (1 : Nat) (List.map eS d)], G.call [Res.c (bo (b == d))] [], G.b true]) (rs := [Res.c (bo false)]) (ims' := []) (by kernel_rfl)) (by simp only [z0, z1, cond, and, or, not] <;> rfl)
  · exact Eq.trans (run_of (g := 26) rfl rfl (aa (rfl : (2 : Nat) = (2 : Nat)) <| aa (rfl : (2 : Nat) = (2 : Nat)) <| aa ff <| aa (rfl : (2 : Nat) = (2 : Nat)) <| aa tt <| aa (rfl : (0 : Int) = (0 : Int)) <| aa (rfl : some ([C.slice (1 : Nat) (List.map eS a)]) = some ([C.slice (1 : Nat) (List.map eS a)])) <| aa (rfl : (0 : Int) = (0 : Int)) <| aa (rfl : some ([C.slice (1 : Nat) (List.map eS c)]) = some ([C.slice (1 : Nat) (List.map eS c)])) <| aa (equal14 a c ha (k + (1 : Nat))) <| aa (congrArg not z0) <| trivial) (gs := [G.len (2 : Nat), G.len (2 : Nat), G.b false, G.len (2 : Nat), G.un, G.b true, G.idx (0 : Nat) [C.slice (1 : Nat) (List.map eS a)], G.idx (0 : Nat) [C.slice (1 : Nat) (List.map eS c)], G.call [Res.c (bo (a == c))] [], G.b true]) (rs := [Res.c (bo false)]) (ims' := []) (by kernel_rfl)) (by simp only [z0, cond, and, or, not] <;> rfl)
def sameM (a b : Lk) : Bool := a.up == b.up && a.ses == b.ses && (a.to0 == b.to0 && a.to1 == b.to1)
theorem same14 (a : Lk) (b : Lk) (h0 : List.length (Lk.to0 a) ≤ (1000000 : Nat)) (h1 : List.length (Lk.to1 a) ≤ (1000000 : Nat)) (k : Nat) : orac PP GL XX HH NN (k + 5) 19 [A.agg (Lk.cs a), A.agg (Lk.cs b)] [] = some ([Res.c (bo (sameM a b))], []) := by
  rcases Bool.eq_false_or_eq_true (Lk.up a == Lk.up b) with z0 | z0
  · rcases Bool.eq_false_or_eq_true (Lk.ses a == Lk.ses b) with z1 | z1
    · exact Eq.trans (run_of (g := 19) rfl rfl (aa z0 <| aa z0 <| aa z0 <| aa z0 <| aa z0 <| aa z0 <| aa z1 <| aa z1 <| aa z1 <| aa z1 <| aa z1 <| aa (equalF (Lk.to0 a) (Lk.to1 a) (Lk.to0 b) (Lk.to1 b) h0 h1 k) <| aa z1 <| trivial) (gs := [G.b true, G.b true, G.b true, G.b true, G.b true, G.b true, G.b true, G.b true, G.b true, G.b true, G.b true, G.call [Res.c (bo (Lk.to0 a == Lk.to0 b && Lk.to1 a == Lk.to1 b))] [], G.b true]) (rs := [Res.c (bo (Lk.to0 a == Lk.to0 b && Lk.to1 a == Lk.to1 b))]) (ims' := []) (by kernel_rfl)) (by simp only [sameM, z0, z1, cond, and, or, not] <;> rfl)
    · exact Eq.trans (run_of (g := 19) rfl rfl (aa z0 <| aa z0 <| aa z0 <| aa z0 <| aa z0 <| aa z0 <| aa z1 <| aa z1 <| aa z1 <| aa z1 <| aa z1 <| aa z1 <| trivial) (gs := [G.b true, G.b true, G.b true, G.b true, G.b true, G.b true, G.b false, G.b false, G.b false, G.b false, G.b false, G.b false]) (rs := [Res.c (bo false)]) (ims' := []) (by kernel_rfl)) (by simp only [sameM, z0, z1, cond, and, or, not] <;> rfl)
  · exact Eq.trans (run_of (g := 19) rfl rfl (aa z0 <| aa z0 <| aa z0 <| aa z0 <| aa z0 <| aa z0 <| aa ff <| aa ff <| aa ff <| aa ff <| aa ff <| aa ff <| trivial) (gs := [G.b false, G.b false, G.b false, G.b false, G.b false, G.b false, G.b false, G.b false, G.b false, G.b false, G.b false, G.b false]) (rs := [Res.c (bo false)]) (ims' := []) (by kernel_rfl)) (by simp only [sameM, z0, cond, and, or, not] <;> rfl)
theorem rsame14 (a : Lk) (b : Lk) (h0 : List.length (Lk.to0 a) ≤ (1000000 : Nat)) (h1 : List.length (Lk.to1 a) ≤ (1000000 : Nat)) (k : Nat) : orac PP GL XX HH NN (k + 3) 12 [A.agg (Lk.cs a), A.agg (Lk.cs b)] [] = some ([Res.c (bo (sameM a b))], []) := by
  rcases Bool.eq_false_or_eq_true (Lk.up a == Lk.up b) with z0 | z0
  · rcases Bool.eq_false_or_eq_true (Lk.ses a == Lk.ses b) with z1 | z1
    · rcases Bool.eq_false_or_eq_true (Lk.to0 a == Lk.to0 b) with z2 | z2
      · exact Eq.trans (run_of (g := 12) rfl rfl (aa z0 <| aa z0 <| aa z0 <| aa z0 <| aa z0 <| aa z0 <| aa z1 <| aa z1 <| aa z1 <| aa z1 <| aa z1 <| aa z1 <| aa z1 <| aa (texts14 (Lk.to0 a) (Lk.to0 b) h0 k) <| aa z1 <| aa z2 <| aa z2 <| aa z2 <| aa z2 <| aa z2 <| aa z2 <| aa z2 <| aa (texts14 (Lk.to1 a) (Lk.to1 b) h1 k) <| aa z2 <| trivial) (gs := [G.b true, G.b true, G.b true, G.b true, G.b true, G.b true, G.b true, G.b true, G.b true, G.b true, G.b true, G.b true, G.b true, G.call [Res.c (bo (Lk.to0 a == Lk.to0 b))] [], G.b true, G.b true, G.b true, G.b true, G.b true, G.b true, G.b true, G.b true, G.call [Res.c (bo (Lk.to1 a == Lk.to1 b))] [], G.b true]) (rs := [Res.c (bo (Lk.to1 a == Lk.to1 b))]) (ims' := []) (by kernel_rfl)) (by simp only [sameM, z0, z1, z2, cond, and, or, not] <;> rfl)
      · exact Eq.trans (run_of (g := 12) rfl rfl (aa z0 <| aa z0 <| aa z0 <| aa z0 <| aa z0 <| aa z0 <| aa z1 <| aa z1 <| aa z1 <| aa z1 <| aa z1 <| aa z1 <| aa z1 <| aa (texts14 (Lk.to0 a) (Lk.to0 b) h0 k) <| aa z1 <| aa z2 <| aa z2 <| aa z2 <| aa z2 <| aa z2 <| aa z2 <| aa z2 <| aa z2 <| trivial) (gs := [G.b true, G.b true, G.b true, G.b true, G.b true, G.b true, G.b true, G.b true, G.b true, G.b true, G.b true, G.b true, G.b true, G.call [Res.c (bo (Lk.to0 a == Lk.to0 b))] [], G.b true, G.b false, G.b false, G.b false, G.b false, G.b false, G.b false, G.b false, G.b false]) (rs := [Res.c (bo false)]) (ims' := []) (by kernel_rfl)) (by simp only [sameM, z0, z1, z2, cond, and, or, not] <;> rfl)
    · exact Eq.trans (run_of (g := 12) rfl rfl (aa z0 <| aa z0 <| aa z0 <| aa z0 <| aa z0 <| aa z0 <| aa z1 <| aa z1 <| aa z1 <| aa z1 <| aa z1 <| aa z1 <| aa z1 <| aa z1 <| aa ff <| aa ff <| aa ff <| aa ff <| aa ff <| aa ff <| aa ff <| aa ff <| trivial) (gs := [G.b true, G.b true, G.b true, G.b true, G.b true, G.b true, G.b false, G.b false, G.b false, G.b false, G.b false, G.b false, G.b false, G.b false, G.b false, G.b false, G.b false, G.b false, G.b false, G.b false, G.b false, G.b false]) (rs := [Res.c (bo false)]) (ims' := []) (by kernel_rfl)) (by simp only [sameM, z0, z1, cond, and, or, not] <;> rfl)
  · exact Eq.trans (run_of (g := 12) rfl rfl (aa z0 <| aa z0 <| aa z0 <| aa z0 <| aa z0 <| aa z0 <| aa ff <| aa ff <| aa ff <| aa ff <| aa ff <| aa ff <| aa ff <| aa ff <| aa ff <| aa ff <| aa ff <| aa ff <| aa ff <| aa ff <| aa ff <| aa ff <| trivial) (gs := [G.b false, G.b false, G.b false, G.b false, G.b false, G.b false, G.b false, G.b false, G.b false, G.b false, G.b false, G.b false, G.b false, G.b false, G.b false, G.b false, G.b false, G.b false, G.b false, G.b false, G.b false, G.b false]) (rs := [Res.c (bo false)]) (ims' := []) (by kernel_rfl)) (by simp only [sameM, z0, cond, and, or, not] <;> rfl)
def greatM (l : Lk) : Bool := decide ((l.to0.length : Int) > 100) || decide ((l.to1.length : Int) > 100)
theorem great14 (l : Lk) (k : Nat) : orac PP GL XX HH NN (k + 1) 7 [A.agg (Lk.cs l)] [] = some ([Res.c (bo (greatM l))], []) := by
  rcases Bool.eq_false_or_eq_true (decide ((↑(List.length (Lk.to0 l)) : Int) > (100 : Int))) with z0 | z0
  · exact Eq.trans (run_of (g := 7) rfl rfl (aa (map_len (eS) (Lk.to0 l)) <| aa z0 <| aa z0 <| aa z0 <| aa z0 <| aa z0 <| aa z0 <| trivial) (gs := [G.len (List.length (Lk.to0 l)), G.b true, G.b true, G.b true, G.b true, G.b true, G.b true]) (rs := [Res.c (bo true)]) (ims' := []) (by kernel_rfl)) (by simp only [greatM, z0, cond, and, or, not] <;> rfl)
  · exact Eq.trans (run_of (g := 7) rfl rfl (aa (map_len (eS) (Lk.to0 l)) <| aa z0 <| aa z0 <| aa z0 <| aa z0 <| aa (map_len (eS) (Lk.to1 l)) <| aa z0 <| aa z0 <| trivial) (gs := [G.len (List.length (Lk.to0 l)), G.b false, G.b false, G.b false, G.b false, G.len (List.length (Lk.to1 l)), G.b false, G.b false]) (rs := [Res.c (bo (decide ((↑(List.length (Lk.to1 l)) : Int) > (100 : Int))))]) (ims' := []) (by kernel_rfl)) (by simp only [greatM, z0, cond, and, or, not] <;> rfl)
def idleM (l : Lk) : Bool := l.to0.isEmpty && l.to1.isEmpty
theorem len_pos (x : ByteArray) (l : List ByteArray) : decide (((x :: l).length : Int) > 0) = true := decide_eq_true (by simp only [List.length_cons]; omega)
theorem idxM_ge (a b : List ByteArray) : (!(decide (idxM a b ≥ 0))) = (a.isEmpty && b.isEmpty) := by
  cases a with
  | nil => cases b with
    | nil => rfl
    | cons y b => simp only [idxM, len_pos, cond]; rfl
  | cons x a => simp only [idxM, len_pos, cond]; rfl
theorem idle14 (l : Lk) (k : Nat) : orac PP GL XX HH NN (k + 4) 17 [.agg l.cs] [] = some ([.c (bo (idleM l))], []) := by
  rw [idle0, idxM_ge]
  rfl
theorem ridle14 (l : Lk) (h0 : l.to0.length ≤ 1000000) (h1 : l.to1.length ≤ 1000000) (k : Nat) : orac PP GL XX HH NN (k + 1) 18 [.agg l.cs] [] = some ([.c (bo (idleM l))], []) := by
  rw [ridle0, wrap_i64 (by omega) (by omega)]
  obtain ⟨up, ses, a, b⟩ := l
  have : (((a.length : Int) + (b.length : Int)) == 0) = (a.isEmpty && b.isEmpty) := by
    cases a with
    | nil => cases b with
      | nil => rfl
      | cons _ _ => exact beq_false_of_ne (by simp only [List.length_cons, List.length_nil]; omega)
    | cons _ _ => exact beq_false_of_ne (by simp only [List.length_cons]; omega)
  simp only [idleM, this]
end Go.Dm
