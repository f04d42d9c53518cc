/-
  A part of the proofs over this seat: its functions, one by one (the file in which the theorems stand says what is proved).
-/
import Derived.KernelRfl
import Derived.Lib.AppendZerosOnto
import Derived.Lib.SliceRun
import Derived.Lib.Walk
import Derived.LoopIn
import Derived.LoopNIn
import Derived.MapKept
import Derived.Maps.OwnIn
import Derived.OwnWalkIn
import Derived.RangeFuncBox
import Derived.RangeFuncLeaves
import Derived.RangeFuncNested
import Derived.RangeFuncWrites
import Derived.Shelf.Abstract
import Derived.Shelf.RegionOpenPlain
import Derived.TacticsInMore
import Derived.Test.YtafmihnhdodekaaGreatProg
import Derived.WalkKit
import Derived.Test.YtafmihnhdodekaaGreatLiL1
set_option linter.unusedSimpArgs false
set_option linter.unusedVariables false
set_option maxRecDepth 100000
set_option maxHeartbeats 4000000
namespace Go.Dm
open Go
def Sa0 (n : Nd) (l : List Ou) (c0 : List (List C)) (c1 : Bool) (c2 : Int) (c3 : Cl) : St := St.mk (T.hole :: tc (ii 0) :: T.hole :: tc (C.slice 5 (List.map Ou.cs l)) :: T.k (K.v (V.ptr 0 0)) :: T.hole :: T.k (K.v (V.ptr 1 0)) :: T.hole :: T.k (K.v (V.ptr 2 0)) :: T.hole :: T.k (K.v (V.own 5 c0 (Tk.tok 0))) :: tc (bo c1) :: tc (ii c2) :: hs 78 []) [List.map V.c (Cl.cs c3), [V.c (ii n.id), V.c (bo n.up), V.c (C.slice 1 (List.map eS n.store.disk.sure)), V.c (C.slice 2 (List.map Wr.cs n.store.disk.cache)), V.c (ii n.store.disk.fuse), V.c (bo n.store.disk.dead), V.c (ii n.store.super.blocks), V.c (u n.store.super.v.cur), V.c (u n.store.super.v.bit), V.c (u n.store.super.v.o0), V.c (u n.store.super.v.o1), V.c (bo n.store.super.inc), V.c (bo n.store.super.pri), V.c (bo n.store.super.dis), V.c (w4 (mi n.store.mask)), V.c (bo n.primary), V.c (ii n.state), V.c (u n.ses), V.c (ii n.peer.blocks), V.c (u n.peer.v.cur), V.c (u n.peer.v.bit), V.c (u n.peer.v.o0), V.c (u n.peer.v.o1), V.c (bo n.peer.inc), V.c (bo n.peer.was), V.c (bo n.peer.dis), V.c (bo n.peer.pri), V.c (w4 (mi n.peer.mask)), V.c (bo n.peerPri), V.c (bo n.req.on), V.c (ii n.req.id), V.c (ii n.req.block), V.c (st n.req.data), V.c (bo n.asking), V.c (ii n.askId), V.c (ii n.wanted), V.c (bo n.minted), V.c (C.slice 1 (List.map eU n.draws)), V.c (C.slice 3 (List.map Mi.cs n.mints))], [V.c (ii 0), V.c (bo false), V.own 1 [] Tk.exact, V.own 2 [] Tk.exact, V.c (ii 0), V.c (bo false), V.c (ii 0), V.c (u 0), V.c (u 0), V.c (u 0), V.c (u 0), V.c (bo false), V.c (bo false), V.c (bo false), V.c (w4 0), V.c (bo false), V.c (ii 0), V.c (u 0), V.c (ii 0), V.c (u 0), V.c (u 0), V.c (u 0), V.c (u 0), V.c (bo false), V.c (bo false), V.c (bo false), V.c (bo false), V.c (w4 0), V.c (bo false), V.c (bo false), V.c (ii 0), V.c (ii 0), V.c (st ⟨#[]⟩), V.c (bo false), V.c (ii 0), V.c (ii 0), V.c (bo false), V.own 1 [] Tk.exact, V.own 3 [] Tk.exact, V.c (ii 0), V.c (bo false), V.own 1 [] Tk.exact, V.own 2 [] Tk.exact, V.c (ii 0), V.c (bo false), V.c (ii 0), V.c (u 0), V.c (u 0), V.c (u 0), V.c (u 0), V.c (bo false), V.c (bo false), V.c (bo false), V.c (w4 0), V.c (bo false), V.c (ii 0), V.c (u 0), V.c (ii 0), V.c (u 0), V.c (u 0), V.c (u 0), V.c (u 0), V.c (bo false), V.c (bo false), V.c (bo false), V.c (bo false), V.c (w4 0), V.c (bo false), V.c (bo false), V.c (ii 0), V.c (ii 0), V.c (st ⟨#[]⟩), V.c (bo false), V.c (ii 0), V.c (ii 0), V.c (bo false), V.own 1 [] Tk.exact, V.own 3 [] Tk.exact, V.c (bo false), V.c (u 0), V.own 1 [] Tk.exact, V.own 1 [] Tk.exact, V.c (bo false), V.c (bo false)]] [c0.length]
theorem E6 (n : Nd) (l : List Ou) (out : List Ou) (q : Bool) (i : Nat) (c : Cl) (x : Ou) (hx : l[i]? = some x) (h0 : c.link.to0.length + 1 ≤ 1000000) (h1 : c.link.to1.length + 1 ≤ 1000000) (k : Nat) (z0 : (decide ((↑i : Int) < (↑(l.length) : Int))) = true) (z1 : (Ou.kind x == 1) = true) (z2 : c.link.up = true) : bw (EE (k + 11)) (HH 69) NN (LB PP 69 5) 3 1 (Sa0 n l (List.map Ou.cs out) q (↑i : Int) c) (Sa0 n l (List.map Ou.cs out) q (IntKind.wrap .i64 ((↑i : Int) + 1)) ({ c with link := Prod.fst (bU c.link 1 [Ou.data x]) } : Cl)) :=
  bh (aa (au (Ou.cs) (l)) <| aa z0 <| aa (rfl : (↑i : Int) = (↑i : Int)) <| aa (aI (f := Ou.cs) hx) <| aa z1 <| aa z2 <| aa (rfl : (↑i : Int) = (↑i : Int)) <| aa (aI (f := Ou.cs) hx) <| aa (zm c.link 1 x.data h0 h1 (k + 10)) <| trivial) (gs := xc (G.len (l.length)) <| xc gT <| xc (G.idx i [ii x.kind, ii x.node, ii x.id, ii x.err, st x.data]) <| xg2 gT <| [G.idx i [ii x.kind, ii x.node, ii x.id, ii x.err, st x.data], G.call [Res.agg (Lk.cs (bU c.link 1 [Ou.data x]).1), Res.c (ii (bU c.link 1 [Ou.data x]).2)] []]) (by kernel_rfl)
theorem Fa (n : Nd) (l : List Ou) (out : List Ou) (q : Bool) (i : Nat) (c : Cl) (x : Ou) (hx : l[i]? = some x) (k : Nat) (z0 : (decide ((↑i : Int) < (↑(l.length) : Int))) = true) (z1 : (Ou.kind x == 1) = true) (z2 : c.link.up = false) : bw (EE (k + 11)) (HH 69) NN (LB PP 69 5) 3 1 (Sa0 n l (List.map Ou.cs out) q (↑i : Int) c) (Sa0 n l (List.map Ou.cs out) q (IntKind.wrap .i64 ((↑i : Int) + 1)) c) :=
  bh (aa (au (Ou.cs) (l)) <| aa z0 <| aa (rfl : (↑i : Int) = (↑i : Int)) <| aa (aI (f := Ou.cs) hx) <| aa z1 <| aa z2 <| trivial) (gs := [G.len (l.length), gT, G.idx i [ii x.kind, ii x.node, ii x.id, ii x.err, st x.data], gT, gF]) (by kernel_rfl)
theorem DH (n : Nd) (l : List Ou) (out : List Ou) (q : Bool) (i : Nat) (c : Cl) (x : Ou) (hx : l[i]? = some x) (h0 : c.link.to0.length + 1 ≤ 1000000) (h1 : c.link.to1.length + 1 ≤ 1000000) (ho : out.length ≤ 1000000) (k : Nat) (z0 : (decide ((↑i : Int) < (↑(l.length) : Int))) = true) (z1 : (Ou.kind x == 1) = false) (z2 : (q) = true) : bw (EE (k + 11)) (HH 69) NN (LB PP 69 5) 3 1 (Sa0 n l (List.map Ou.cs out) q (↑i : Int) c) (Sa0 n l (List.map Ou.cs (out ++ [x])) true (IntKind.wrap .i64 ((↑i : Int) + 1)) c) :=
  bh (aa (au (Ou.cs) (l)) <| aa z0 <| aa (rfl : (↑i : Int) = (↑i : Int)) <| aa (aI (f := Ou.cs) hx) <| aa z1 <| xa7 z2 <| aa (rfl : (↑i : Int) = (↑i : Int)) <| aa (aI (f := Ou.cs) hx) <| aa (bL (Ou.cs) (out) ([x])) <| aa (aV (Ou.cs) (l := out ++ [x]) (n := 1073741824) (by simp only [vr]; omega)) <| aa (Eq.refl (List.length (List.map Ou.cs out))) <| trivial) (gs := xc (G.len (l.length)) <| xc gT <| xc (G.idx i [ii x.kind, ii x.node, ii x.id, ii x.err, st x.data]) <| xc gF <| xg7 gT <| [G.idx i [ii x.kind, ii x.node, ii x.id, ii x.err, st x.data], G.app (List.map Ou.cs (out ++ [x]))]) (by kernel_rfl)
theorem D8 (n : Nd) (l : List Ou) (out : List Ou) (q : Bool) (i : Nat) (c : Cl) (x : Ou) (hx : l[i]? = some x) (h0 : c.link.to0.length + 1 ≤ 1000000) (h1 : c.link.to1.length + 1 ≤ 1000000) (ho : out.length ≤ 1000000) (k : Nat) (z0 : (decide ((↑i : Int) < (↑(l.length) : Int))) = true) (z1 : (Ou.kind x == 1) = false) (z2 : (q) = false) : bw (EE (k + 11)) (HH 69) NN (LB PP 69 5) 3 1 (Sa0 n l (List.map Ou.cs out) q (↑i : Int) c) (Sa0 n l (List.map Ou.cs (out ++ [x])) (Ou.kind x == 3) (IntKind.wrap .i64 ((↑i : Int) + 1)) c) :=
  bh (aa (au (Ou.cs) (l)) <| aa z0 <| aa (rfl : (↑i : Int) = (↑i : Int)) <| aa (aI (f := Ou.cs) hx) <| aa z1 <| xa3 z2 <| aa (rfl : (↑i : Int) = (↑i : Int)) <| aa (aI (f := Ou.cs) hx) <| xa4 z2 <| aa (rfl : (↑i : Int) = (↑i : Int)) <| aa (aI (f := Ou.cs) hx) <| aa (bL (Ou.cs) (out) ([x])) <| aa (aV (Ou.cs) (l := out ++ [x]) (n := 1073741824) (by simp only [vr]; omega)) <| aa (Eq.refl (List.length (List.map Ou.cs out))) <| trivial) (gs := xc (G.len (l.length)) <| xc gT <| xc (G.idx i [ii x.kind, ii x.node, ii x.id, ii x.err, st x.data]) <| xg4 gF <| xc (G.idx i [ii x.kind, ii x.node, ii x.id, ii x.err, st x.data]) <| xg4 gF <| [G.idx i [ii x.kind, ii x.node, ii x.id, ii x.err, st x.data], G.app (List.map Ou.cs (out ++ [x]))]) (by kernel_rfl)
def iF (n : Nd) (l : List Ou) (out : List Ou) (q : Bool) (i : Nat) (c : Cl) : St := St.mk (T.hole :: tc (ii 0) :: T.hole :: tc (C.slice 5 (List.map Ou.cs l)) :: T.k (K.v (V.ptr 0 0)) :: T.hole :: T.k (K.v (V.ptr 1 0)) :: T.hole :: T.k (K.v (V.ptr 2 0)) :: T.hole :: T.k (K.v (V.own 5 (List.map Ou.cs out) (Tk.tok 0))) :: tc (bo q) :: tc (ii (↑i : Int)) :: hs 4 (tc (ii (↑i : Int)) :: tc (C.slice 5 (List.map Ou.cs l)) :: tc (ii (↑(l.length) : Int)) :: tc (bo (decide ((↑i : Int) < (↑(l.length) : Int)))) :: hs 70 [])) [[V.c (ii c.n0.id), V.c (bo c.n0.up), V.c (C.slice 1 (List.map eS c.n0.store.disk.sure)), V.c (C.slice 2 (List.map Wr.cs c.n0.store.disk.cache)), V.c (ii c.n0.store.disk.fuse), V.c (bo c.n0.store.disk.dead), V.c (ii c.n0.store.super.blocks), V.c (u c.n0.store.super.v.cur), V.c (u c.n0.store.super.v.bit), V.c (u c.n0.store.super.v.o0), V.c (u c.n0.store.super.v.o1), V.c (bo c.n0.store.super.inc), V.c (bo c.n0.store.super.pri), V.c (bo c.n0.store.super.dis), V.c (w4 (mi c.n0.store.mask)), V.c (bo c.n0.primary), V.c (ii c.n0.state), V.c (u c.n0.ses), V.c (ii c.n0.peer.blocks), V.c (u c.n0.peer.v.cur), V.c (u c.n0.peer.v.bit), V.c (u c.n0.peer.v.o0), V.c (u c.n0.peer.v.o1), V.c (bo c.n0.peer.inc), V.c (bo c.n0.peer.was), V.c (bo c.n0.peer.dis), V.c (bo c.n0.peer.pri), V.c (w4 (mi c.n0.peer.mask)), V.c (bo c.n0.peerPri), V.c (bo c.n0.req.on), V.c (ii c.n0.req.id), V.c (ii c.n0.req.block), V.c (st c.n0.req.data), V.c (bo c.n0.asking), V.c (ii c.n0.askId), V.c (ii c.n0.wanted), V.c (bo c.n0.minted), V.c (C.slice 1 (List.map eU c.n0.draws)), V.c (C.slice 3 (List.map Mi.cs c.n0.mints)), V.c (ii c.n1.id), V.c (bo c.n1.up), V.c (C.slice 1 (List.map eS c.n1.store.disk.sure)), V.c (C.slice 2 (List.map Wr.cs c.n1.store.disk.cache)), V.c (ii c.n1.store.disk.fuse), V.c (bo c.n1.store.disk.dead), V.c (ii c.n1.store.super.blocks), V.c (u c.n1.store.super.v.cur), V.c (u c.n1.store.super.v.bit), V.c (u c.n1.store.super.v.o0), V.c (u c.n1.store.super.v.o1), V.c (bo c.n1.store.super.inc), V.c (bo c.n1.store.super.pri), V.c (bo c.n1.store.super.dis), V.c (w4 (mi c.n1.store.mask)), V.c (bo c.n1.primary), V.c (ii c.n1.state), V.c (u c.n1.ses), V.c (ii c.n1.peer.blocks), V.c (u c.n1.peer.v.cur), V.c (u c.n1.peer.v.bit), V.c (u c.n1.peer.v.o0), V.c (u c.n1.peer.v.o1), V.c (bo c.n1.peer.inc), V.c (bo c.n1.peer.was), V.c (bo c.n1.peer.dis), V.c (bo c.n1.peer.pri), V.c (w4 (mi c.n1.peer.mask)), V.c (bo c.n1.peerPri), V.c (bo c.n1.req.on), V.c (ii c.n1.req.id), V.c (ii c.n1.req.block), V.c (st c.n1.req.data), V.c (bo c.n1.asking), V.c (ii c.n1.askId), V.c (ii c.n1.wanted), V.c (bo c.n1.minted), V.c (C.slice 1 (List.map eU c.n1.draws)), V.c (C.slice 3 (List.map Mi.cs c.n1.mints)), V.c (bo c.link.up), V.c (u c.link.ses), V.c (C.slice 1 (List.map eS c.link.to0)), V.c (C.slice 1 (List.map eS c.link.to1)), V.c (bo c.w0), V.c (bo c.w1)], [V.c (ii n.id), V.c (bo n.up), V.c (C.slice 1 (List.map eS n.store.disk.sure)), V.c (C.slice 2 (List.map Wr.cs n.store.disk.cache)), V.c (ii n.store.disk.fuse), V.c (bo n.store.disk.dead), V.c (ii n.store.super.blocks), V.c (u n.store.super.v.cur), V.c (u n.store.super.v.bit), V.c (u n.store.super.v.o0), V.c (u n.store.super.v.o1), V.c (bo n.store.super.inc), V.c (bo n.store.super.pri), V.c (bo n.store.super.dis), V.c (w4 (mi n.store.mask)), V.c (bo n.primary), V.c (ii n.state), V.c (u n.ses), V.c (ii n.peer.blocks), V.c (u n.peer.v.cur), V.c (u n.peer.v.bit), V.c (u n.peer.v.o0), V.c (u n.peer.v.o1), V.c (bo n.peer.inc), V.c (bo n.peer.was), V.c (bo n.peer.dis), V.c (bo n.peer.pri), V.c (w4 (mi n.peer.mask)), V.c (bo n.peerPri), V.c (bo n.req.on), V.c (ii n.req.id), V.c (ii n.req.block), V.c (st n.req.data), V.c (bo n.asking), V.c (ii n.askId), V.c (ii n.wanted), V.c (bo n.minted), V.c (C.slice 1 (List.map eU n.draws)), V.c (C.slice 3 (List.map Mi.cs n.mints))], [V.c (ii 0), V.c (bo false), V.own 1 [] Tk.exact, V.own 2 [] Tk.exact, V.c (ii 0), V.c (bo false), V.c (ii 0), V.c (u 0), V.c (u 0), V.c (u 0), V.c (u 0), V.c (bo false), V.c (bo false), V.c (bo false), V.c (w4 0), V.c (bo false), V.c (ii 0), V.c (u 0), V.c (ii 0), V.c (u 0), V.c (u 0), V.c (u 0), V.c (u 0), V.c (bo false), V.c (bo false), V.c (bo false), V.c (bo false), V.c (w4 0), V.c (bo false), V.c (bo false), V.c (ii 0), V.c (ii 0), V.c (st ⟨#[]⟩), V.c (bo false), V.c (ii 0), V.c (ii 0), V.c (bo false), V.own 1 [] Tk.exact, V.own 3 [] Tk.exact, V.c (ii 0), V.c (bo false), V.own 1 [] Tk.exact, V.own 2 [] Tk.exact, V.c (ii 0), V.c (bo false), V.c (ii 0), V.c (u 0), V.c (u 0), V.c (u 0), V.c (u 0), V.c (bo false), V.c (bo false), V.c (bo false), V.c (w4 0), V.c (bo false), V.c (ii 0), V.c (u 0), V.c (ii 0), V.c (u 0), V.c (u 0), V.c (u 0), V.c (u 0), V.c (bo false), V.c (bo false), V.c (bo false), V.c (bo false), V.c (w4 0), V.c (bo false), V.c (bo false), V.c (ii 0), V.c (ii 0), V.c (st ⟨#[]⟩), V.c (bo false), V.c (ii 0), V.c (ii 0), V.c (bo false), V.own 1 [] Tk.exact, V.own 3 [] Tk.exact, V.c (bo false), V.c (u 0), V.own 1 [] Tk.exact, V.own 1 [] Tk.exact, V.c (bo false), V.c (bo false)]] [List.length (List.map Ou.cs out)]
theorem Eb (n : Nd) (l : List Ou) (out : List Ou) (q : Bool) (i : Nat) (c : Cl) (k : Nat) (z0 : (decide ((↑i : Int) < (↑(l.length) : Int))) = false) : cm (EE (k + 11)) (HH 69) NN (LB PP 69 5) (Sa0 n l (List.map Ou.cs out) q (↑i : Int) c) (Ext.exit 0) (iF n l out q i c) :=
  bI (aa (au (Ou.cs) (l)) <| aa z0 <| trivial) (gs := [G.len (l.length), gF]) (by kernel_rfl)
theorem La0 (c : Cl) (n : Nd) (l : List Ou) (hl : l.length ≤ 1000) (h0 : c.link.to0.length ≤ 900000) (h1 : c.link.to1.length ≤ 900000) (k : Nat) : bz (EE (k + 11)) (HH 69) NN (LB PP 69 5) (Sa0 n l [] false 0 (bf c 0 n)) (.exit 0) (iF n l (cN l) (cG l) l.length { bf c 0 n with link := bA 0 c.link l }) := by
  have key := dU (E := EE (k + 11)) (H := HH 69) (n := NN) (b := LB PP 69 5) (s0 := Sa0 n l [] false 0 (bf c 0 n)) (fun (s : Cl × List Ou × Bool) (i : Nat) => Sa0 n l (s.2.1.map Ou.cs) s.2.2 (i : Nat) s.1) (fun i s => s.2.1.length ≤ i ∧ s.1.link.to0.length ≤ c.link.to0.length + i ∧ s.1.link.to1.length ≤ c.link.to1.length + i) l (oh 1) (bf c 0 n, [], false) (nv := 3) (nt := 1) (e := .exit 0) (t := fun s => iF n l s.2.1 s.2.2 l.length s.1) rfl (by kernel_rfl) (by kernel_rfl) ⟨Nat.le_refl _, by rw [dK]; exact Nat.le_refl _, by rw [dK]; exact Nat.le_refl _⟩ (fun s i x hx hp => ?_) (fun hp => Eb n l _ _ _ _ k dge) (by unfold NN; omega)
  · rw [wD 0 1 (by decide), dK] at key
    simpa only [List.nil_append, Bool.false_or] using key
  · obtain ⟨c1, out, q⟩ := s
    obtain ⟨p1, p2, p3⟩ := hp
    simp only at p1 p2 p3
    have hlt := dp hx
    have hw := qJ hx (by omega)
    cases hk : x.kind == 1 with
    | true =>
      cases hu : c1.link.up with
      | true =>
        rw [jZ 1 c1 out q x hk hu]
        refine ⟨?_, by simp only; omega, ?_, ?_⟩
        · have := E6 n l out q i c1 x hx (by omega) (by omega) k (dlt hx) hk hu
          rwa [hw] at this
        · have := (jC c1.link 1 [x.data]).1
          simp only [List.length_cons, List.length_nil] at this
          simp only; omega
        · have := (jC c1.link 1 [x.data]).2
          simp only [List.length_cons, List.length_nil] at this
          simp only; omega
      | false =>
        rw [jS 1 c1 out q x hk hu]
        refine ⟨?_, by simp only; omega, by simp only; omega, by simp only; omega⟩
        have := Fa n l out q i c1 x hx k (dlt hx) hk hu
        rwa [hw] at this
    | false =>
      rw [jV 1 c1 out q x hk]
      refine ⟨?_, by simp only [List.length_append, List.length_cons, List.length_nil]; omega, by simp only; omega, by simp only; omega⟩
      cases q with
      | true =>
        have := DH n l out true i c1 x hx (by omega) (by omega) (by omega) k (dlt hx) hk rfl
        rwa [hw] at this
      | false =>
        have := D8 n l out false i c1 x hx (by omega) (by omega) (by omega) k (dlt hx) hk rfl
        rw [hw] at this
        simpa only [Bool.false_or] using this
theorem Bj (c : Cl) (n : Nd) (l : List Ou) (c3 : Cl) (out : List Ou) (q : Bool) (ho : out.length ≤ 1000) (hr0 : c3.n0.draws.length ≤ 1000000) (hm0 : c3.n0.mints.length ≤ 1000000) (hs0 : c3.n0.store.disk.sure.length ≤ 1000000) (hc0 : c3.n0.store.disk.cache.length ≤ 880) (hr1 : c3.n1.draws.length ≤ 1000000) (hm1 : c3.n1.mints.length ≤ 1000000) (hs1 : c3.n1.store.disk.sure.length ≤ 1000000) (hc1 : c3.n1.store.disk.cache.length ≤ 880) (hL : ∀ k, bz (EE (k + 11)) (HH 69) NN (LB PP 69 5) (Sa0 n l [] false 0 (bf c 0 n)) (Ext.exit 0) (iF n l out q (l.length) c3)) (k : Nat) : ak PP GL XX HH NN (k + 12) 69 [A.agg (Cl.cs c), A.c (ii 0), A.agg (Nd.cs n), A.c (C.slice 5 (List.map Ou.cs l))] [] = some ([Res.agg (Cl.cs (d5 0 c3 n out q).1), Res.top 5 (List.map Ou.cs (d5 0 c3 n out q).2)], []) := by
  rcases bft n.up with z0 | z0
  · rcases bft c3.link.up with z1 | z1
    · rcases bft (q) with z2 | z2
      · exact rt (aa (rfl : (0 : Int) = 0) <| aa (hL k) <| aa (cn z0) <| xa3 (cn z1) <| xa2 z0 <| aa (cn z1) <| aa z0 <| aa (cn z1) <| aa (cn z2) <| aa z2 <| aa (Eq.refl (List.length (List.map Ou.cs out))) <| aa (tC (({ c3 with w0 := false, w1 := false } : Cl)) out ho hr0 hm0 hs0 hc0 hr1 hm1 hs1 hc1 k) <| aa (Eq.refl (List.length (List.map Ou.cs (out ++ Prod.snd (dJ ({ c3 with w0 := false, w1 := false } : Cl)))))) <| trivial) (gs := xc (G.at 0) <| xc (G.loop (Ext.exit 0) (iF n l out q (l.length) c3)) <| xg4 gF <| xg2 gT <| xc gF <| xc gT <| xg2 gF <| [gT, G.call [Res.agg (Cl.cs (dJ ({ c3 with w0 := false, w1 := false } : Cl)).1), Res.top 5 (List.map Ou.cs (out ++ Prod.snd (dJ ({ c3 with w0 := false, w1 := false } : Cl))))] []]) (by simp only [d5, aS, z0, z1, z2, vq] <;> rfl)
      · exact rt (aa (rfl : (0 : Int) = 0) <| aa (hL k) <| aa (cn z0) <| xa3 (cn z1) <| xa2 z0 <| aa (cn z1) <| aa z0 <| aa (cn z1) <| aa (cn z2) <| aa (Eq.refl (List.length (List.map Ou.cs out))) <| trivial) (gs := xc (G.at 0) <| xc (G.loop (Ext.exit 0) (iF n l out q (l.length) c3)) <| xg4 gF <| xg2 gT <| [gF, gT, gF, gT]) (by simp only [d5, aS, z0, z1, z2, vq] <;> rfl)
    · exact rt (aa (rfl : (0 : Int) = 0) <| aa (hL k) <| aa (cn z0) <| xa5 (cn z1) <| aa tt <| aa (Eq.refl (List.length (List.map Ou.cs out))) <| trivial) (gs := xc (G.at 0) <| xc (G.loop (Ext.exit 0) (iF n l out q (l.length) c3)) <| xc gF <| xg6 gT <| []) (by simp only [d5, aS, z0, z1, vq] <;> rfl)
  · rcases bft c3.link.up with z1 | z1
    · rcases bft (q) with z2 | z2
      · exact rt (aa (rfl : (0 : Int) = 0) <| aa (hL k) <| aa (cn z0) <| aa (rfl : (0 : Int) = 0) <| xa3 (cn z1) <| xa2 z0 <| aa (cn z1) <| aa z0 <| aa (cn z1) <| aa ff <| aa z2 <| aa (Eq.refl (List.length (List.map Ou.cs out))) <| aa (tC (({ c3 with w0 := false, w1 := false } : Cl)) out ho hr0 hm0 hs0 hc0 hr1 hm1 hs1 hc1 k) <| aa (Eq.refl (List.length (List.map Ou.cs (out ++ Prod.snd (dJ ({ c3 with w0 := false, w1 := false } : Cl)))))) <| trivial) (gs := xc (G.at 0) <| xc (G.loop (Ext.exit 0) (iF n l out q (l.length) c3)) <| xc gT <| xc (G.at 0) <| xg9 gF <| [gT, G.call [Res.agg (Cl.cs (dJ ({ c3 with w0 := false, w1 := false } : Cl)).1), Res.top 5 (List.map Ou.cs (out ++ Prod.snd (dJ ({ c3 with w0 := false, w1 := false } : Cl))))] []]) (by simp only [d5, aS, z0, z1, z2, vq] <;> rfl)
      · exact rt (aa (rfl : (0 : Int) = 0) <| aa (hL k) <| aa (cn z0) <| aa (rfl : (0 : Int) = 0) <| xa3 (cn z1) <| xa2 z0 <| aa (cn z1) <| aa z0 <| aa (cn z1) <| aa ff <| aa z2 <| aa (Eq.refl (List.length (List.map Ou.cs out))) <| aa (tC (({ c3 with w0 := false } : Cl)) out ho hr0 hm0 hs0 hc0 hr1 hm1 hs1 hc1 k) <| aa (Eq.refl (List.length (List.map Ou.cs (out ++ Prod.snd (dJ ({ c3 with w0 := false } : Cl)))))) <| trivial) (gs := xc (G.at 0) <| xc (G.loop (Ext.exit 0) (iF n l out q (l.length) c3)) <| xc gT <| xc (G.at 0) <| mC gF <| [G.call [Res.agg (Cl.cs (dJ ({ c3 with w0 := false } : Cl)).1), Res.top 5 (List.map Ou.cs (out ++ Prod.snd (dJ ({ c3 with w0 := false } : Cl))))] []]) (by simp only [d5, aS, z0, z1, z2, vq] <;> rfl)
    · exact rt (aa (rfl : (0 : Int) = 0) <| aa (hL k) <| aa (cn z0) <| aa (rfl : (0 : Int) = 0) <| xa5 (cn z1) <| aa tt <| aa (Eq.refl (List.length (List.map Ou.cs out))) <| trivial) (gs := xc (G.at 0) <| xc (G.loop (Ext.exit 0) (iF n l out q (l.length) c3)) <| xc gT <| xc (G.at 0) <| xg6 gT <| []) (by simp only [d5, aS, z0, z1, vq] <;> rfl)
def Sa1 (n : Nd) (l : List Ou) (c0 : List (List C)) (c1 : Bool) (c2 : Int) (c3 : Cl) : St := St.mk (T.hole :: tc (ii 1) :: T.hole :: tc (C.slice 5 (List.map Ou.cs l)) :: T.k (K.v (V.ptr 0 0)) :: T.hole :: T.k (K.v (V.ptr 1 0)) :: T.hole :: T.k (K.v (V.ptr 2 0)) :: T.hole :: T.k (K.v (V.own 5 c0 (Tk.tok 0))) :: tc (bo c1) :: tc (ii c2) :: hs 78 []) [List.map V.c (Cl.cs c3), [V.c (ii n.id), V.c (bo n.up), V.c (C.slice 1 (List.map eS n.store.disk.sure)), V.c (C.slice 2 (List.map Wr.cs n.store.disk.cache)), V.c (ii n.store.disk.fuse), V.c (bo n.store.disk.dead), V.c (ii n.store.super.blocks), V.c (u n.store.super.v.cur), V.c (u n.store.super.v.bit), V.c (u n.store.super.v.o0), V.c (u n.store.super.v.o1), V.c (bo n.store.super.inc), V.c (bo n.store.super.pri), V.c (bo n.store.super.dis), V.c (w4 (mi n.store.mask)), V.c (bo n.primary), V.c (ii n.state), V.c (u n.ses), V.c (ii n.peer.blocks), V.c (u n.peer.v.cur), V.c (u n.peer.v.bit), V.c (u n.peer.v.o0), V.c (u n.peer.v.o1), V.c (bo n.peer.inc), V.c (bo n.peer.was), V.c (bo n.peer.dis), V.c (bo n.peer.pri), V.c (w4 (mi n.peer.mask)), V.c (bo n.peerPri), V.c (bo n.req.on), V.c (ii n.req.id), V.c (ii n.req.block), V.c (st n.req.data), V.c (bo n.asking), V.c (ii n.askId), V.c (ii n.wanted), V.c (bo n.minted), V.c (C.slice 1 (List.map eU n.draws)), V.c (C.slice 3 (List.map Mi.cs n.mints))], [V.c (ii 0), V.c (bo false), V.own 1 [] Tk.exact, V.own 2 [] Tk.exact, V.c (ii 0), V.c (bo false), V.c (ii 0), V.c (u 0), V.c (u 0), V.c (u 0), V.c (u 0), V.c (bo false), V.c (bo false), V.c (bo false), V.c (w4 0), V.c (bo false), V.c (ii 0), V.c (u 0), V.c (ii 0), V.c (u 0), V.c (u 0), V.c (u 0), V.c (u 0), V.c (bo false), V.c (bo false), V.c (bo false), V.c (bo false), V.c (w4 0), V.c (bo false), V.c (bo false), V.c (ii 0), V.c (ii 0), V.c (st ⟨#[]⟩), V.c (bo false), V.c (ii 0), V.c (ii 0), V.c (bo false), V.own 1 [] Tk.exact, V.own 3 [] Tk.exact, V.c (ii 0), V.c (bo false), V.own 1 [] Tk.exact, V.own 2 [] Tk.exact, V.c (ii 0), V.c (bo false), V.c (ii 0), V.c (u 0), V.c (u 0), V.c (u 0), V.c (u 0), V.c (bo false), V.c (bo false), V.c (bo false), V.c (w4 0), V.c (bo false), V.c (ii 0), V.c (u 0), V.c (ii 0), V.c (u 0), V.c (u 0), V.c (u 0), V.c (u 0), V.c (bo false), V.c (bo false), V.c (bo false), V.c (bo false), V.c (w4 0), V.c (bo false), V.c (bo false), V.c (ii 0), V.c (ii 0), V.c (st ⟨#[]⟩), V.c (bo false), V.c (ii 0), V.c (ii 0), V.c (bo false), V.own 1 [] Tk.exact, V.own 3 [] Tk.exact, V.c (bo false), V.c (u 0), V.own 1 [] Tk.exact, V.own 1 [] Tk.exact, V.c (bo false), V.c (bo false)]] [c0.length]
theorem Dw (n : Nd) (l : List Ou) (out : List Ou) (q : Bool) (i : Nat) (c : Cl) (x : Ou) (hx : l[i]? = some x) (h0 : c.link.to0.length + 1 ≤ 1000000) (h1 : c.link.to1.length + 1 ≤ 1000000) (k : Nat) (z0 : (decide ((↑i : Int) < (↑(l.length) : Int))) = true) (z1 : (Ou.kind x == 1) = true) (z2 : c.link.up = true) : bw (EE (k + 11)) (HH 69) NN (LB PP 69 5) 3 1 (Sa1 n l (List.map Ou.cs out) q (↑i : Int) c) (Sa1 n l (List.map Ou.cs out) q (IntKind.wrap .i64 ((↑i : Int) + 1)) ({ c with link := Prod.fst (bU c.link 0 [Ou.data x]) } : Cl)) :=
  bh (aa (au (Ou.cs) (l)) <| aa z0 <| aa (rfl : (↑i : Int) = (↑i : Int)) <| aa (aI (f := Ou.cs) hx) <| aa z1 <| aa z2 <| aa (rfl : (↑i : Int) = (↑i : Int)) <| aa (aI (f := Ou.cs) hx) <| aa (zm c.link 0 x.data h0 h1 (k + 10)) <| trivial) (gs := xc (G.len (l.length)) <| xc gT <| xc (G.idx i [ii x.kind, ii x.node, ii x.id, ii x.err, st x.data]) <| xg2 gT <| [G.idx i [ii x.kind, ii x.node, ii x.id, ii x.err, st x.data], G.call [Res.agg (Lk.cs (bU c.link 0 [Ou.data x]).1), Res.c (ii (bU c.link 0 [Ou.data x]).2)] []]) (by kernel_rfl)
theorem DP (n : Nd) (l : List Ou) (out : List Ou) (q : Bool) (i : Nat) (c : Cl) (x : Ou) (hx : l[i]? = some x) (k : Nat) (z0 : (decide ((↑i : Int) < (↑(l.length) : Int))) = true) (z1 : (Ou.kind x == 1) = true) (z2 : c.link.up = false) : bw (EE (k + 11)) (HH 69) NN (LB PP 69 5) 3 1 (Sa1 n l (List.map Ou.cs out) q (↑i : Int) c) (Sa1 n l (List.map Ou.cs out) q (IntKind.wrap .i64 ((↑i : Int) + 1)) c) :=
  bh (aa (au (Ou.cs) (l)) <| aa z0 <| aa (rfl : (↑i : Int) = (↑i : Int)) <| aa (aI (f := Ou.cs) hx) <| aa z1 <| aa z2 <| trivial) (gs := [G.len (l.length), gT, G.idx i [ii x.kind, ii x.node, ii x.id, ii x.err, st x.data], gT, gF]) (by kernel_rfl)
theorem DU (n : Nd) (l : List Ou) (out : List Ou) (q : Bool) (i : Nat) (c : Cl) (x : Ou) (hx : l[i]? = some x) (h0 : c.link.to0.length + 1 ≤ 1000000) (h1 : c.link.to1.length + 1 ≤ 1000000) (ho : out.length ≤ 1000000) (k : Nat) (z0 : (decide ((↑i : Int) < (↑(l.length) : Int))) = true) (z1 : (Ou.kind x == 1) = false) (z2 : (q) = true) : bw (EE (k + 11)) (HH 69) NN (LB PP 69 5) 3 1 (Sa1 n l (List.map Ou.cs out) q (↑i : Int) c) (Sa1 n l (List.map Ou.cs (out ++ [x])) true (IntKind.wrap .i64 ((↑i : Int) + 1)) c) :=
  bh (aa (au (Ou.cs) (l)) <| aa z0 <| aa (rfl : (↑i : Int) = (↑i : Int)) <| aa (aI (f := Ou.cs) hx) <| aa z1 <| xa7 z2 <| aa (rfl : (↑i : Int) = (↑i : Int)) <| aa (aI (f := Ou.cs) hx) <| aa (bL (Ou.cs) (out) ([x])) <| aa (aV (Ou.cs) (l := out ++ [x]) (n := 1073741824) (by simp only [vr]; omega)) <| aa (Eq.refl (List.length (List.map Ou.cs out))) <| trivial) (gs := xc (G.len (l.length)) <| xc gT <| xc (G.idx i [ii x.kind, ii x.node, ii x.id, ii x.err, st x.data]) <| xc gF <| xg7 gT <| [G.idx i [ii x.kind, ii x.node, ii x.id, ii x.err, st x.data], G.app (List.map Ou.cs (out ++ [x]))]) (by kernel_rfl)
theorem EY (n : Nd) (l : List Ou) (out : List Ou) (q : Bool) (i : Nat) (c : Cl) (x : Ou) (hx : l[i]? = some x) (h0 : c.link.to0.length + 1 ≤ 1000000) (h1 : c.link.to1.length + 1 ≤ 1000000) (ho : out.length ≤ 1000000) (k : Nat) (z0 : (decide ((↑i : Int) < (↑(l.length) : Int))) = true) (z1 : (Ou.kind x == 1) = false) (z2 : (q) = false) : bw (EE (k + 11)) (HH 69) NN (LB PP 69 5) 3 1 (Sa1 n l (List.map Ou.cs out) q (↑i : Int) c) (Sa1 n l (List.map Ou.cs (out ++ [x])) (Ou.kind x == 3) (IntKind.wrap .i64 ((↑i : Int) + 1)) c) :=
  bh (aa (au (Ou.cs) (l)) <| aa z0 <| aa (rfl : (↑i : Int) = (↑i : Int)) <| aa (aI (f := Ou.cs) hx) <| aa z1 <| xa3 z2 <| aa (rfl : (↑i : Int) = (↑i : Int)) <| aa (aI (f := Ou.cs) hx) <| xa4 z2 <| aa (rfl : (↑i : Int) = (↑i : Int)) <| aa (aI (f := Ou.cs) hx) <| aa (bL (Ou.cs) (out) ([x])) <| aa (aV (Ou.cs) (l := out ++ [x]) (n := 1073741824) (by simp only [vr]; omega)) <| aa (Eq.refl (List.length (List.map Ou.cs out))) <| trivial) (gs := xc (G.len (l.length)) <| xc gT <| xc (G.idx i [ii x.kind, ii x.node, ii x.id, ii x.err, st x.data]) <| xg4 gF <| xc (G.idx i [ii x.kind, ii x.node, ii x.id, ii x.err, st x.data]) <| xg4 gF <| [G.idx i [ii x.kind, ii x.node, ii x.id, ii x.err, st x.data], G.app (List.map Ou.cs (out ++ [x]))]) (by kernel_rfl)
def iL (n : Nd) (l : List Ou) (out : List Ou) (q : Bool) (i : Nat) (c : Cl) : St := St.mk (T.hole :: tc (ii 1) :: T.hole :: tc (C.slice 5 (List.map Ou.cs l)) :: T.k (K.v (V.ptr 0 0)) :: T.hole :: T.k (K.v (V.ptr 1 0)) :: T.hole :: T.k (K.v (V.ptr 2 0)) :: T.hole :: T.k (K.v (V.own 5 (List.map Ou.cs out) (Tk.tok 0))) :: tc (bo q) :: tc (ii (↑i : Int)) :: hs 4 (tc (ii (↑i : Int)) :: tc (C.slice 5 (List.map Ou.cs l)) :: tc (ii (↑(l.length) : Int)) :: tc (bo (decide ((↑i : Int) < (↑(l.length) : Int)))) :: hs 70 [])) [[V.c (ii c.n0.id), V.c (bo c.n0.up), V.c (C.slice 1 (List.map eS c.n0.store.disk.sure)), V.c (C.slice 2 (List.map Wr.cs c.n0.store.disk.cache)), V.c (ii c.n0.store.disk.fuse), V.c (bo c.n0.store.disk.dead), V.c (ii c.n0.store.super.blocks), V.c (u c.n0.store.super.v.cur), V.c (u c.n0.store.super.v.bit), V.c (u c.n0.store.super.v.o0), V.c (u c.n0.store.super.v.o1), V.c (bo c.n0.store.super.inc), V.c (bo c.n0.store.super.pri), V.c (bo c.n0.store.super.dis), V.c (w4 (mi c.n0.store.mask)), V.c (bo c.n0.primary), V.c (ii c.n0.state), V.c (u c.n0.ses), V.c (ii c.n0.peer.blocks), V.c (u c.n0.peer.v.cur), V.c (u c.n0.peer.v.bit), V.c (u c.n0.peer.v.o0), V.c (u c.n0.peer.v.o1), V.c (bo c.n0.peer.inc), V.c (bo c.n0.peer.was), V.c (bo c.n0.peer.dis), V.c (bo c.n0.peer.pri), V.c (w4 (mi c.n0.peer.mask)), V.c (bo c.n0.peerPri), V.c (bo c.n0.req.on), V.c (ii c.n0.req.id), V.c (ii c.n0.req.block), V.c (st c.n0.req.data), V.c (bo c.n0.asking), V.c (ii c.n0.askId), V.c (ii c.n0.wanted), V.c (bo c.n0.minted), V.c (C.slice 1 (List.map eU c.n0.draws)), V.c (C.slice 3 (List.map Mi.cs c.n0.mints)), V.c (ii c.n1.id), V.c (bo c.n1.up), V.c (C.slice 1 (List.map eS c.n1.store.disk.sure)), V.c (C.slice 2 (List.map Wr.cs c.n1.store.disk.cache)), V.c (ii c.n1.store.disk.fuse), V.c (bo c.n1.store.disk.dead), V.c (ii c.n1.store.super.blocks), V.c (u c.n1.store.super.v.cur), V.c (u c.n1.store.super.v.bit), V.c (u c.n1.store.super.v.o0), V.c (u c.n1.store.super.v.o1), V.c (bo c.n1.store.super.inc), V.c (bo c.n1.store.super.pri), V.c (bo c.n1.store.super.dis), V.c (w4 (mi c.n1.store.mask)), V.c (bo c.n1.primary), V.c (ii c.n1.state), V.c (u c.n1.ses), V.c (ii c.n1.peer.blocks), V.c (u c.n1.peer.v.cur), V.c (u c.n1.peer.v.bit), V.c (u c.n1.peer.v.o0), V.c (u c.n1.peer.v.o1), V.c (bo c.n1.peer.inc), V.c (bo c.n1.peer.was), V.c (bo c.n1.peer.dis), V.c (bo c.n1.peer.pri), V.c (w4 (mi c.n1.peer.mask)), V.c (bo c.n1.peerPri), V.c (bo c.n1.req.on), V.c (ii c.n1.req.id), V.c (ii c.n1.req.block), V.c (st c.n1.req.data), V.c (bo c.n1.asking), V.c (ii c.n1.askId), V.c (ii c.n1.wanted), V.c (bo c.n1.minted), V.c (C.slice 1 (List.map eU c.n1.draws)), V.c (C.slice 3 (List.map Mi.cs c.n1.mints)), V.c (bo c.link.up), V.c (u c.link.ses), V.c (C.slice 1 (List.map eS c.link.to0)), V.c (C.slice 1 (List.map eS c.link.to1)), V.c (bo c.w0), V.c (bo c.w1)], [V.c (ii n.id), V.c (bo n.up), V.c (C.slice 1 (List.map eS n.store.disk.sure)), V.c (C.slice 2 (List.map Wr.cs n.store.disk.cache)), V.c (ii n.store.disk.fuse), V.c (bo n.store.disk.dead), V.c (ii n.store.super.blocks), V.c (u n.store.super.v.cur), V.c (u n.store.super.v.bit), V.c (u n.store.super.v.o0), V.c (u n.store.super.v.o1), V.c (bo n.store.super.inc), V.c (bo n.store.super.pri), V.c (bo n.store.super.dis), V.c (w4 (mi n.store.mask)), V.c (bo n.primary), V.c (ii n.state), V.c (u n.ses), V.c (ii n.peer.blocks), V.c (u n.peer.v.cur), V.c (u n.peer.v.bit), V.c (u n.peer.v.o0), V.c (u n.peer.v.o1), V.c (bo n.peer.inc), V.c (bo n.peer.was), V.c (bo n.peer.dis), V.c (bo n.peer.pri), V.c (w4 (mi n.peer.mask)), V.c (bo n.peerPri), V.c (bo n.req.on), V.c (ii n.req.id), V.c (ii n.req.block), V.c (st n.req.data), V.c (bo n.asking), V.c (ii n.askId), V.c (ii n.wanted), V.c (bo n.minted), V.c (C.slice 1 (List.map eU n.draws)), V.c (C.slice 3 (List.map Mi.cs n.mints))], [V.c (ii 0), V.c (bo false), V.own 1 [] Tk.exact, V.own 2 [] Tk.exact, V.c (ii 0), V.c (bo false), V.c (ii 0), V.c (u 0), V.c (u 0), V.c (u 0), V.c (u 0), V.c (bo false), V.c (bo false), V.c (bo false), V.c (w4 0), V.c (bo false), V.c (ii 0), V.c (u 0), V.c (ii 0), V.c (u 0), V.c (u 0), V.c (u 0), V.c (u 0), V.c (bo false), V.c (bo false), V.c (bo false), V.c (bo false), V.c (w4 0), V.c (bo false), V.c (bo false), V.c (ii 0), V.c (ii 0), V.c (st ⟨#[]⟩), V.c (bo false), V.c (ii 0), V.c (ii 0), V.c (bo false), V.own 1 [] Tk.exact, V.own 3 [] Tk.exact, V.c (ii 0), V.c (bo false), V.own 1 [] Tk.exact, V.own 2 [] Tk.exact, V.c (ii 0), V.c (bo false), V.c (ii 0), V.c (u 0), V.c (u 0), V.c (u 0), V.c (u 0), V.c (bo false), V.c (bo false), V.c (bo false), V.c (w4 0), V.c (bo false), V.c (ii 0), V.c (u 0), V.c (ii 0), V.c (u 0), V.c (u 0), V.c (u 0), V.c (u 0), V.c (bo false), V.c (bo false), V.c (bo false), V.c (bo false), V.c (w4 0), V.c (bo false), V.c (bo false), V.c (ii 0), V.c (ii 0), V.c (st ⟨#[]⟩), V.c (bo false), V.c (ii 0), V.c (ii 0), V.c (bo false), V.own 1 [] Tk.exact, V.own 3 [] Tk.exact, V.c (bo false), V.c (u 0), V.own 1 [] Tk.exact, V.own 1 [] Tk.exact, V.c (bo false), V.c (bo false)]] [List.length (List.map Ou.cs out)]
theorem El (n : Nd) (l : List Ou) (out : List Ou) (q : Bool) (i : Nat) (c : Cl) (k : Nat) (z0 : (decide ((↑i : Int) < (↑(l.length) : Int))) = false) : cm (EE (k + 11)) (HH 69) NN (LB PP 69 5) (Sa1 n l (List.map Ou.cs out) q (↑i : Int) c) (Ext.exit 0) (iL n l out q i c) :=
  bI (aa (au (Ou.cs) (l)) <| aa z0 <| trivial) (gs := [G.len (l.length), gF]) (by kernel_rfl)
theorem La1 (c : Cl) (n : Nd) (l : List Ou) (hl : l.length ≤ 1000) (h0 : c.link.to0.length ≤ 900000) (h1 : c.link.to1.length ≤ 900000) (k : Nat) : bz (EE (k + 11)) (HH 69) NN (LB PP 69 5) (Sa1 n l [] false 0 (bf c 1 n)) (.exit 0) (iL n l (cN l) (cG l) l.length { bf c 1 n with link := bA 1 c.link l }) := by
  have key := dU (E := EE (k + 11)) (H := HH 69) (n := NN) (b := LB PP 69 5) (s0 := Sa1 n l [] false 0 (bf c 1 n)) (fun (s : Cl × List Ou × Bool) (i : Nat) => Sa1 n l (s.2.1.map Ou.cs) s.2.2 (i : Nat) s.1) (fun i s => s.2.1.length ≤ i ∧ s.1.link.to0.length ≤ c.link.to0.length + i ∧ s.1.link.to1.length ≤ c.link.to1.length + i) l (oh 0) (bf c 1 n, [], false) (nv := 3) (nt := 1) (e := .exit 0) (t := fun s => iL n l s.2.1 s.2.2 l.length s.1) rfl (by kernel_rfl) (by kernel_rfl) ⟨Nat.le_refl _, by rw [dK]; exact Nat.le_refl _, by rw [dK]; exact Nat.le_refl _⟩ (fun s i x hx hp => ?_) (fun hp => El n l _ _ _ _ k dge) (by unfold NN; omega)
  · rw [wD 1 0 (by decide), dK] at key
    simpa only [List.nil_append, Bool.false_or] using key
  · obtain ⟨c1, out, q⟩ := s
    obtain ⟨p1, p2, p3⟩ := hp
    simp only at p1 p2 p3
    have hlt := dp hx
    have hw := qJ hx (by omega)
    cases hk : x.kind == 1 with
    | true =>
      cases hu : c1.link.up with
      | true =>
        rw [jZ 0 c1 out q x hk hu]
        refine ⟨?_, by simp only; omega, ?_, ?_⟩
        · have := Dw n l out q i c1 x hx (by omega) (by omega) k (dlt hx) hk hu
          rwa [hw] at this
        · have := (jC c1.link 0 [x.data]).1
          simp only [List.length_cons, List.length_nil] at this
          simp only; omega
        · have := (jC c1.link 0 [x.data]).2
          simp only [List.length_cons, List.length_nil] at this
          simp only; omega
      | false =>
        rw [jS 0 c1 out q x hk hu]
        refine ⟨?_, by simp only; omega, by simp only; omega, by simp only; omega⟩
        have := DP n l out q i c1 x hx k (dlt hx) hk hu
        rwa [hw] at this
    | false =>
      rw [jV 0 c1 out q x hk]
      refine ⟨?_, by simp only [List.length_append, List.length_cons, List.length_nil]; omega, by simp only; omega, by simp only; omega⟩
      cases q with
      | true =>
        have := DU n l out true i c1 x hx (by omega) (by omega) (by omega) k (dlt hx) hk rfl
        rwa [hw] at this
      | false =>
        have := EY n l out false i c1 x hx (by omega) (by omega) (by omega) k (dlt hx) hk rfl
        rw [hw] at this
        simpa only [Bool.false_or] using this
theorem Ai (c : Cl) (n : Nd) (l : List Ou) (c3 : Cl) (out : List Ou) (q : Bool) (ho : out.length ≤ 1000) (hr0 : c3.n0.draws.length ≤ 1000000) (hm0 : c3.n0.mints.length ≤ 1000000) (hs0 : c3.n0.store.disk.sure.length ≤ 1000000) (hc0 : c3.n0.store.disk.cache.length ≤ 880) (hr1 : c3.n1.draws.length ≤ 1000000) (hm1 : c3.n1.mints.length ≤ 1000000) (hs1 : c3.n1.store.disk.sure.length ≤ 1000000) (hc1 : c3.n1.store.disk.cache.length ≤ 880) (hL : ∀ k, bz (EE (k + 11)) (HH 69) NN (LB PP 69 5) (Sa1 n l [] false 0 (bf c 1 n)) (Ext.exit 0) (iL n l out q (l.length) c3)) (k : Nat) : ak PP GL XX HH NN (k + 12) 69 [A.agg (Cl.cs c), A.c (ii 1), A.agg (Nd.cs n), A.c (C.slice 5 (List.map Ou.cs l))] [] = some ([Res.agg (Cl.cs (d5 1 c3 n out q).1), Res.top 5 (List.map Ou.cs (d5 1 c3 n out q).2)], []) := by
  rcases bft n.up with z0 | z0
  · rcases bft c3.link.up with z1 | z1
    · rcases bft (q) with z2 | z2
      · exact rt (aa (rfl : (1 : Int) = 1) <| aa (hL k) <| aa (cn z0) <| xa3 (cn z1) <| xa2 z0 <| aa (cn z1) <| aa z0 <| aa (cn z1) <| aa (cn z2) <| aa z2 <| aa (Eq.refl (List.length (List.map Ou.cs out))) <| aa (tC (({ c3 with w0 := false, w1 := false } : Cl)) out ho hr0 hm0 hs0 hc0 hr1 hm1 hs1 hc1 k) <| aa (Eq.refl (List.length (List.map Ou.cs (out ++ Prod.snd (dJ ({ c3 with w0 := false, w1 := false } : Cl)))))) <| trivial) (gs := xc (G.at 1) <| xc (G.loop (Ext.exit 0) (iL n l out q (l.length) c3)) <| xg4 gF <| xg2 gT <| xc gF <| xc gT <| xg2 gF <| [gT, G.call [Res.agg (Cl.cs (dJ ({ c3 with w0 := false, w1 := false } : Cl)).1), Res.top 5 (List.map Ou.cs (out ++ Prod.snd (dJ ({ c3 with w0 := false, w1 := false } : Cl))))] []]) (by simp only [d5, aS, z0, z1, z2, vq] <;> rfl)
      · exact rt (aa (rfl : (1 : Int) = 1) <| aa (hL k) <| aa (cn z0) <| xa3 (cn z1) <| xa2 z0 <| aa (cn z1) <| aa z0 <| aa (cn z1) <| aa (cn z2) <| aa (Eq.refl (List.length (List.map Ou.cs out))) <| trivial) (gs := xc (G.at 1) <| xc (G.loop (Ext.exit 0) (iL n l out q (l.length) c3)) <| xg4 gF <| xg2 gT <| [gF, gT, gF, gT]) (by simp only [d5, aS, z0, z1, z2, vq] <;> rfl)
    · exact rt (aa (rfl : (1 : Int) = 1) <| aa (hL k) <| aa (cn z0) <| xa5 (cn z1) <| aa tt <| aa (Eq.refl (List.length (List.map Ou.cs out))) <| trivial) (gs := xc (G.at 1) <| xc (G.loop (Ext.exit 0) (iL n l out q (l.length) c3)) <| xc gF <| xg6 gT <| []) (by simp only [d5, aS, z0, z1, vq] <;> rfl)
  · rcases bft c3.link.up with z1 | z1
    · rcases bft (q) with z2 | z2
      · exact rt (aa (rfl : (1 : Int) = 1) <| aa (hL k) <| aa (cn z0) <| aa (rfl : (1 : Int) = 1) <| xa3 (cn z1) <| xa2 z0 <| aa (cn z1) <| aa z0 <| aa (cn z1) <| aa ff <| aa z2 <| aa (Eq.refl (List.length (List.map Ou.cs out))) <| aa (tC (({ c3 with w0 := false, w1 := false } : Cl)) out ho hr0 hm0 hs0 hc0 hr1 hm1 hs1 hc1 k) <| aa (Eq.refl (List.length (List.map Ou.cs (out ++ Prod.snd (dJ ({ c3 with w0 := false, w1 := false } : Cl)))))) <| trivial) (gs := xc (G.at 1) <| xc (G.loop (Ext.exit 0) (iL n l out q (l.length) c3)) <| xc gT <| xc (G.at 1) <| xg9 gF <| [gT, G.call [Res.agg (Cl.cs (dJ ({ c3 with w0 := false, w1 := false } : Cl)).1), Res.top 5 (List.map Ou.cs (out ++ Prod.snd (dJ ({ c3 with w0 := false, w1 := false } : Cl))))] []]) (by simp only [d5, aS, z0, z1, z2, vq] <;> rfl)
      · exact rt (aa (rfl : (1 : Int) = 1) <| aa (hL k) <| aa (cn z0) <| aa (rfl : (1 : Int) = 1) <| xa3 (cn z1) <| xa2 z0 <| aa (cn z1) <| aa z0 <| aa (cn z1) <| aa ff <| aa z2 <| aa (Eq.refl (List.length (List.map Ou.cs out))) <| aa (tC (({ c3 with w1 := false } : Cl)) out ho hr0 hm0 hs0 hc0 hr1 hm1 hs1 hc1 k) <| aa (Eq.refl (List.length (List.map Ou.cs (out ++ Prod.snd (dJ ({ c3 with w1 := false } : Cl)))))) <| trivial) (gs := xc (G.at 1) <| xc (G.loop (Ext.exit 0) (iL n l out q (l.length) c3)) <| xc gT <| xc (G.at 1) <| mC gF <| [G.call [Res.agg (Cl.cs (dJ ({ c3 with w1 := false } : Cl)).1), Res.top 5 (List.map Ou.cs (out ++ Prod.snd (dJ ({ c3 with w1 := false } : Cl))))] []]) (by simp only [d5, aS, z0, z1, z2, vq] <;> rfl)
    · exact rt (aa (rfl : (1 : Int) = 1) <| aa (hL k) <| aa (cn z0) <| aa (rfl : (1 : Int) = 1) <| xa5 (cn z1) <| aa tt <| aa (Eq.refl (List.length (List.map Ou.cs out))) <| trivial) (gs := xc (G.at 1) <| xc (G.loop (Ext.exit 0) (iL n l out q (l.length) c3)) <| xc gT <| xc (G.at 1) <| xg6 gT <| []) (by simp only [d5, aS, z0, z1, vq] <;> rfl)
end Go.Dm
namespace Go.Dm
open Go
theorem Ay (d : Dk) (h1 : (0 : Nat) < d.sure.length) (h2 : d.sure.length ≤ 1000000) (k : Nat) : ak PP GL XX HH NN (k + 2) 96 [A.agg (Dk.cs d), A.nil] [] = some ([Res.agg (Dk.cs (cL d []))], []) := by
  rcases bft (decide (0 < (↑(d.cache.length) : Int))) with z0 | z0
  · exact rt (aa (oW (f := eS) (g := fun (x : ByteArray) => st x) (fun _ => rfl) d.sure) <| aa (nR (eS) (l := Dk.sure d) h1) <| aa (aV (eS) (l := Dk.sure d) (n := 1073741824) (show d.sure.length ≤ 1073741824 from by omega)) <| aa (au (Wr.cs) d.cache) <| xa3 z0 <| aa (rfl : (0 : Nat) = (0 : Nat)) <| xa2 z0 <| aa ff <| aa (jv (fun (x : ByteArray) => st x) d.sure (show List.length (List.map eS d.sure) = d.sure.length from by first | rfl | simp | (simp; omega) | (simp only [List.length_map]; omega))) <| trivial) (gs := xc (G.rowv (List.map (fun (x : ByteArray) => V.c (st x)) d.sure)) <| xc G.un <| xc (G.len (d.cache.length)) <| xg3 gT <| xc (G.len 0) <| xg2 gT <| [gF, G.rows (List.map (fun (x : ByteArray) => [st x]) d.sure)]) (by simp only [cL, List.zip_nil_right, List.foldl_nil, z0, vq] <;> rfl)
  · exact rt (aa (oW (f := eS) (g := fun (x : ByteArray) => st x) (fun _ => rfl) d.sure) <| aa (nR (eS) (l := Dk.sure d) h1) <| aa (aV (eS) (l := Dk.sure d) (n := 1073741824) (show d.sure.length ≤ 1073741824 from by omega)) <| aa (au (Wr.cs) d.cache) <| xa5 z0 <| aa ff <| aa (jv (fun (x : ByteArray) => st x) d.sure (show List.length (List.map eS d.sure) = d.sure.length from by first | rfl | simp | (simp; omega) | (simp only [List.length_map]; omega))) <| trivial) (gs := xc (G.rowv (List.map (fun (x : ByteArray) => V.c (st x)) d.sure)) <| xc G.un <| xc (G.len (d.cache.length)) <| xg6 gF <| [G.rows (List.map (fun (x : ByteArray) => [st x]) d.sure)]) (by simp only [cL, List.zip_nil_right, List.foldl_nil, z0, vq] <;> rfl)
def ei (n : Nd) (r : Dk) : Nd × Int :=
  bif n.up then (n, 7) else
  bif !((bE r).2 == 0) then ({ n with store := { n.store with disk := r } }, (bE r).2) else
  (⟨n.id, true, (bE r).1, false, 0, 0, he0, false, rq0, false, 0, 0, false, n.draws, n.mints⟩, 0)
theorem xU (n : Nd) (ks : List Bool) (r : Dk) (hs : r.sure.length ≤ 1000000) (hc : r.cache.length ≤ 900) (h0 : ByteArray.size (aR r 0).1 ≤ 1000000) (h1 : ByteArray.size (aR r 1).1 ≤ 1000000) (hR : ∀ k, ak PP GL XX HH NN (k + 8) 96 [A.agg (Dk.cs n.store.disk), A.c (C.slice 1 (List.map eB ks))] [] = some ([Res.agg (Dk.cs r)], [])) (k : Nat) : ak PP GL XX HH NN (k + 9) 65 [A.agg (Nd.cs n), A.c (C.slice 1 (List.map eB ks))] [] = some ([Res.agg (Nd.cs (ei n r).1), Res.c (ii (ei n r).2)], []) := by
  rcases bft n.up with z0 | z0
  · exact rt (aa z0 <| trivial) (gs := [gT]) (rs := [Res.agg (Nd.cs n), Res.c (ii 7)]) (by simp only [ei, he0, rq0, z0, vq] <;> rfl)
  · rcases bft (Prod.snd (bE r) == 0) with z1 | z1
    · exact rt (aa z0 <| aa (hR k) <| aa (lq r hs hc h0 h1 k) <| aa (cn z1) <| trivial) (gs := [gF, G.call [Res.agg (Dk.cs r)] [], G.call [Res.agg (So.cs (bE r).1), Res.c (ii (bE r).2)] [], gF]) (rs := [Res.agg (Nd.cs (Nd.mk n.id true (bE r).1 false 0 0 ((He.mk 0 ((Ve.mk 0 0 0 0)) false false false false (BitVec.ofNat 32 0))) false ((Rq.mk false 0 0 ⟨#[]⟩)) false 0 0 false n.draws n.mints)), Res.c (ii 0)]) (by simp only [ei, he0, rq0, z0, z1, vq] <;> rfl)
    · exact rt (aa z0 <| aa (hR k) <| aa (lq r hs hc h0 h1 k) <| aa (cn z1) <| trivial) (gs := [gF, G.call [Res.agg (Dk.cs r)] [], G.call [Res.agg (So.cs (bE r).1), Res.c (ii (bE r).2)] [], gT]) (rs := [Res.agg (Nd.cs ({ n with store := ({ Nd.store n with disk := r } : So) } : Nd)), Res.c (ii (bE r).2)]) (by simp only [ei, he0, rq0, z0, z1, vq] <;> rfl)
theorem yz (n : Nd) (r : Dk) (hs : r.sure.length ≤ 1000000) (hc : r.cache.length ≤ 900) (h0 : ByteArray.size (aR r 0).1 ≤ 1000000) (h1 : ByteArray.size (aR r 1).1 ≤ 1000000) (hR : ∀ k, ak PP GL XX HH NN (k + 8) 96 [A.agg (Dk.cs n.store.disk), A.nil] [] = some ([Res.agg (Dk.cs r)], [])) (k : Nat) : ak PP GL XX HH NN (k + 9) 65 [A.agg (Nd.cs n), A.nil] [] = some ([Res.agg (Nd.cs (ei n r).1), Res.c (ii (ei n r).2)], []) := by
  rcases bft n.up with z0 | z0
  · exact rt (aa z0 <| trivial) (gs := [gT]) (rs := [Res.agg (Nd.cs n), Res.c (ii 7)]) (by simp only [ei, he0, rq0, z0, vq] <;> rfl)
  · rcases bft (Prod.snd (bE r) == 0) with z1 | z1
    · exact rt (aa z0 <| aa (hR k) <| aa (lq r hs hc h0 h1 k) <| aa (cn z1) <| trivial) (gs := [gF, G.call [Res.agg (Dk.cs r)] [], G.call [Res.agg (So.cs (bE r).1), Res.c (ii (bE r).2)] [], gF]) (rs := [Res.agg (Nd.cs (Nd.mk n.id true (bE r).1 false 0 0 ((He.mk 0 ((Ve.mk 0 0 0 0)) false false false false (BitVec.ofNat 32 0))) false ((Rq.mk false 0 0 ⟨#[]⟩)) false 0 0 false n.draws n.mints)), Res.c (ii 0)]) (by simp only [ei, he0, rq0, z0, z1, vq] <;> rfl)
    · exact rt (aa z0 <| aa (hR k) <| aa (lq r hs hc h0 h1 k) <| aa (cn z1) <| trivial) (gs := [gF, G.call [Res.agg (Dk.cs r)] [], G.call [Res.agg (So.cs (bE r).1), Res.c (ii (bE r).2)] [], gT]) (rs := [Res.agg (Nd.cs ({ n with store := ({ Nd.store n with disk := r } : So) } : Nd)), Res.c (ii (bE r).2)]) (by simp only [ei, he0, rq0, z0, z1, vq] <;> rfl)
theorem zQ (g : Int) (h1 : (Prod.snd (bd (aZ 2 g)) == 0) = true) (hL : ∀ k, ak PP GL XX HH NN (k + 5) 100 [A.agg [ii 2, u g, u 0, u 0, u 0, bo false, bo false, bo false]] [] = some ([Res.c (st (bd (aZ 2 g)).1), Res.c (ii (bd (aZ 2 g)).2)], [])) (k : Nat) : ak PP GL XX HH NN (k + 6) 71 [A.c (ii 2), A.c (u g)] [] = some ([Res.agg (Dk.cs (cy 2 g)), Res.c (ii 0)], []) := by
  exact rt (aa (hL k) <| aa (cn h1) <| aa (qS 0 (k + 3)) <| aa (oL (cI 0) (show ByteArray.size (cI (0 : Int)) ≤ 1000000 from by decide) (k + 1)) <| aa tt <| aa (fO (k + 4)) <| aa (rfl : [[st (bd (aZ (2 : Int) g)).1], [st (bG (cI (0 : Int)))], [st (ByteArray.mk #[(0 : UInt8), (0 : UInt8), (0 : UInt8), (0 : UInt8), (0 : UInt8), (0 : UInt8), (0 : UInt8), (0 : UInt8)])]] = [[st (bd (aZ (2 : Int) g)).1], [st (bG (cI (0 : Int)))], [st (ByteArray.mk #[(0 : UInt8), (0 : UInt8), (0 : UInt8), (0 : UInt8), (0 : UInt8), (0 : UInt8), (0 : UInt8), (0 : UInt8)])]]) <| aa (show List.length [[st (bd (aZ (2 : Int) g)).1], [st (bG (cI (0 : Int)))], [st (ByteArray.mk #[(0 : UInt8), (0 : UInt8), (0 : UInt8), (0 : UInt8), (0 : UInt8), (0 : UInt8), (0 : UInt8), (0 : UInt8)])]] ≤ 1073741824 from by simp only [vr]; omega) <| aa ((rfl : (2 : Nat) = (2 : Nat))).symm <| aa tt <| aa (fO (k + 4)) <| aa (rfl : [[st (bd (aZ (2 : Int) g)).1], [st (bG (cI (0 : Int)))], [st (ByteArray.mk #[(0 : UInt8), (0 : UInt8), (0 : UInt8), (0 : UInt8), (0 : UInt8), (0 : UInt8), (0 : UInt8), (0 : UInt8)])], [st (ByteArray.mk #[(0 : UInt8), (0 : UInt8), (0 : UInt8), (0 : UInt8), (0 : UInt8), (0 : UInt8), (0 : UInt8), (0 : UInt8)])]] = [[st (bd (aZ (2 : Int) g)).1], [st (bG (cI (0 : Int)))], [st (ByteArray.mk #[(0 : UInt8), (0 : UInt8), (0 : UInt8), (0 : UInt8), (0 : UInt8), (0 : UInt8), (0 : UInt8), (0 : UInt8)])], [st (ByteArray.mk #[(0 : UInt8), (0 : UInt8), (0 : UInt8), (0 : UInt8), (0 : UInt8), (0 : UInt8), (0 : UInt8), (0 : UInt8)])]]) <| aa (show List.length [[st (bd (aZ (2 : Int) g)).1], [st (bG (cI (0 : Int)))], [st (ByteArray.mk #[(0 : UInt8), (0 : UInt8), (0 : UInt8), (0 : UInt8), (0 : UInt8), (0 : UInt8), (0 : UInt8), (0 : UInt8)])], [st (ByteArray.mk #[(0 : UInt8), (0 : UInt8), (0 : UInt8), (0 : UInt8), (0 : UInt8), (0 : UInt8), (0 : UInt8), (0 : UInt8)])]] ≤ 1073741824 from by simp only [vr]; omega) <| aa ((rfl : (3 : Nat) = (3 : Nat))).symm <| aa ff <| trivial) (gs := [G.call [Res.c (st (bd (aZ 2 g)).1), Res.c (ii (bd (aZ 2 g)).2)] [], gF, G.call [Res.c (st (cI 0))] [], G.call [Res.c (st (bG (cI 0)))] [], G.un, gT, G.call [Res.c (st (ByteArray.mk #[(0 : UInt8), (0 : UInt8), (0 : UInt8), (0 : UInt8), (0 : UInt8), (0 : UInt8), (0 : UInt8), (0 : UInt8)]))] [], G.app [[st (bd (aZ 2 g)).1], [st (bG (cI 0))], [st (ByteArray.mk #[(0 : UInt8), (0 : UInt8), (0 : UInt8), (0 : UInt8), (0 : UInt8), (0 : UInt8), (0 : UInt8), (0 : UInt8)])]], gT, G.call [Res.c (st (ByteArray.mk #[(0 : UInt8), (0 : UInt8), (0 : UInt8), (0 : UInt8), (0 : UInt8), (0 : UInt8), (0 : UInt8), (0 : UInt8)]))] [], G.app [[st (bd (aZ 2 g)).1], [st (bG (cI 0))], [st (ByteArray.mk #[(0 : UInt8), (0 : UInt8), (0 : UInt8), (0 : UInt8), (0 : UInt8), (0 : UInt8), (0 : UInt8), (0 : UInt8)])], [st (ByteArray.mk #[(0 : UInt8), (0 : UInt8), (0 : UInt8), (0 : UInt8), (0 : UInt8), (0 : UInt8), (0 : UInt8), (0 : UInt8)])]], gF]) (by simp only [cy, vq] <;> rfl)
theorem Bo (g : Int) (h1 : (Prod.snd (bd (aZ 3 g)) == 0) = true) (hL : ∀ k, ak PP GL XX HH NN (k + 5) 100 [A.agg [ii 3, u g, u 0, u 0, u 0, bo false, bo false, bo false]] [] = some ([Res.c (st (bd (aZ 3 g)).1), Res.c (ii (bd (aZ 3 g)).2)], [])) (k : Nat) : ak PP GL XX HH NN (k + 6) 71 [A.c (ii 3), A.c (u g)] [] = some ([Res.agg (Dk.cs (cy 3 g)), Res.c (ii 0)], []) := by
  exact rt (aa (hL k) <| aa (cn h1) <| aa (qS 0 (k + 3)) <| aa (oL (cI 0) (show ByteArray.size (cI (0 : Int)) ≤ 1000000 from by decide) (k + 1)) <| aa tt <| aa (fO (k + 4)) <| aa (rfl : [[st (bd (aZ (3 : Int) g)).1], [st (bG (cI (0 : Int)))], [st (ByteArray.mk #[(0 : UInt8), (0 : UInt8), (0 : UInt8), (0 : UInt8), (0 : UInt8), (0 : UInt8), (0 : UInt8), (0 : UInt8)])]] = [[st (bd (aZ (3 : Int) g)).1], [st (bG (cI (0 : Int)))], [st (ByteArray.mk #[(0 : UInt8), (0 : UInt8), (0 : UInt8), (0 : UInt8), (0 : UInt8), (0 : UInt8), (0 : UInt8), (0 : UInt8)])]]) <| aa (show List.length [[st (bd (aZ (3 : Int) g)).1], [st (bG (cI (0 : Int)))], [st (ByteArray.mk #[(0 : UInt8), (0 : UInt8), (0 : UInt8), (0 : UInt8), (0 : UInt8), (0 : UInt8), (0 : UInt8), (0 : UInt8)])]] ≤ 1073741824 from by simp only [vr]; omega) <| aa ((rfl : (2 : Nat) = (2 : Nat))).symm <| aa tt <| aa (fO (k + 4)) <| aa (rfl : [[st (bd (aZ (3 : Int) g)).1], [st (bG (cI (0 : Int)))], [st (ByteArray.mk #[(0 : UInt8), (0 : UInt8), (0 : UInt8), (0 : UInt8), (0 : UInt8), (0 : UInt8), (0 : UInt8), (0 : UInt8)])], [st (ByteArray.mk #[(0 : UInt8), (0 : UInt8), (0 : UInt8), (0 : UInt8), (0 : UInt8), (0 : UInt8), (0 : UInt8), (0 : UInt8)])]] = [[st (bd (aZ (3 : Int) g)).1], [st (bG (cI (0 : Int)))], [st (ByteArray.mk #[(0 : UInt8), (0 : UInt8), (0 : UInt8), (0 : UInt8), (0 : UInt8), (0 : UInt8), (0 : UInt8), (0 : UInt8)])], [st (ByteArray.mk #[(0 : UInt8), (0 : UInt8), (0 : UInt8), (0 : UInt8), (0 : UInt8), (0 : UInt8), (0 : UInt8), (0 : UInt8)])]]) <| aa (show List.length [[st (bd (aZ (3 : Int) g)).1], [st (bG (cI (0 : Int)))], [st (ByteArray.mk #[(0 : UInt8), (0 : UInt8), (0 : UInt8), (0 : UInt8), (0 : UInt8), (0 : UInt8), (0 : UInt8), (0 : UInt8)])], [st (ByteArray.mk #[(0 : UInt8), (0 : UInt8), (0 : UInt8), (0 : UInt8), (0 : UInt8), (0 : UInt8), (0 : UInt8), (0 : UInt8)])]] ≤ 1073741824 from by simp only [vr]; omega) <| aa ((rfl : (3 : Nat) = (3 : Nat))).symm <| aa tt <| aa (fO (k + 4)) <| aa (rfl : [[st (bd (aZ (3 : Int) g)).1], [st (bG (cI (0 : Int)))], [st (ByteArray.mk #[(0 : UInt8), (0 : UInt8), (0 : UInt8), (0 : UInt8), (0 : UInt8), (0 : UInt8), (0 : UInt8), (0 : UInt8)])], [st (ByteArray.mk #[(0 : UInt8), (0 : UInt8), (0 : UInt8), (0 : UInt8), (0 : UInt8), (0 : UInt8), (0 : UInt8), (0 : UInt8)])], [st (ByteArray.mk #[(0 : UInt8), (0 : UInt8), (0 : UInt8), (0 : UInt8), (0 : UInt8), (0 : UInt8), (0 : UInt8), (0 : UInt8)])]] = [[st (bd (aZ (3 : Int) g)).1], [st (bG (cI (0 : Int)))], [st (ByteArray.mk #[(0 : UInt8), (0 : UInt8), (0 : UInt8), (0 : UInt8), (0 : UInt8), (0 : UInt8), (0 : UInt8), (0 : UInt8)])], [st (ByteArray.mk #[(0 : UInt8), (0 : UInt8), (0 : UInt8), (0 : UInt8), (0 : UInt8), (0 : UInt8), (0 : UInt8), (0 : UInt8)])], [st (ByteArray.mk #[(0 : UInt8), (0 : UInt8), (0 : UInt8), (0 : UInt8), (0 : UInt8), (0 : UInt8), (0 : UInt8), (0 : UInt8)])]]) <| aa (show List.length [[st (bd (aZ (3 : Int) g)).1], [st (bG (cI (0 : Int)))], [st (ByteArray.mk #[(0 : UInt8), (0 : UInt8), (0 : UInt8), (0 : UInt8), (0 : UInt8), (0 : UInt8), (0 : UInt8), (0 : UInt8)])], [st (ByteArray.mk #[(0 : UInt8), (0 : UInt8), (0 : UInt8), (0 : UInt8), (0 : UInt8), (0 : UInt8), (0 : UInt8), (0 : UInt8)])], [st (ByteArray.mk #[(0 : UInt8), (0 : UInt8), (0 : UInt8), (0 : UInt8), (0 : UInt8), (0 : UInt8), (0 : UInt8), (0 : UInt8)])]] ≤ 1073741824 from by simp only [vr]; omega) <| aa ((rfl : (4 : Nat) = (4 : Nat))).symm <| aa ff <| trivial) (gs := [G.call [Res.c (st (bd (aZ 3 g)).1), Res.c (ii (bd (aZ 3 g)).2)] [], gF, G.call [Res.c (st (cI 0))] [], G.call [Res.c (st (bG (cI 0)))] [], G.un, gT, G.call [Res.c (st (ByteArray.mk #[(0 : UInt8), (0 : UInt8), (0 : UInt8), (0 : UInt8), (0 : UInt8), (0 : UInt8), (0 : UInt8), (0 : UInt8)]))] [], G.app [[st (bd (aZ 3 g)).1], [st (bG (cI 0))], [st (ByteArray.mk #[(0 : UInt8), (0 : UInt8), (0 : UInt8), (0 : UInt8), (0 : UInt8), (0 : UInt8), (0 : UInt8), (0 : UInt8)])]], gT, G.call [Res.c (st (ByteArray.mk #[(0 : UInt8), (0 : UInt8), (0 : UInt8), (0 : UInt8), (0 : UInt8), (0 : UInt8), (0 : UInt8), (0 : UInt8)]))] [], G.app [[st (bd (aZ 3 g)).1], [st (bG (cI 0))], [st (ByteArray.mk #[(0 : UInt8), (0 : UInt8), (0 : UInt8), (0 : UInt8), (0 : UInt8), (0 : UInt8), (0 : UInt8), (0 : UInt8)])], [st (ByteArray.mk #[(0 : UInt8), (0 : UInt8), (0 : UInt8), (0 : UInt8), (0 : UInt8), (0 : UInt8), (0 : UInt8), (0 : UInt8)])]], gT, G.call [Res.c (st (ByteArray.mk #[(0 : UInt8), (0 : UInt8), (0 : UInt8), (0 : UInt8), (0 : UInt8), (0 : UInt8), (0 : UInt8), (0 : UInt8)]))] [], G.app [[st (bd (aZ 3 g)).1], [st (bG (cI 0))], [st (ByteArray.mk #[(0 : UInt8), (0 : UInt8), (0 : UInt8), (0 : UInt8), (0 : UInt8), (0 : UInt8), (0 : UInt8), (0 : UInt8)])], [st (ByteArray.mk #[(0 : UInt8), (0 : UInt8), (0 : UInt8), (0 : UInt8), (0 : UInt8), (0 : UInt8), (0 : UInt8), (0 : UInt8)])], [st (ByteArray.mk #[(0 : UInt8), (0 : UInt8), (0 : UInt8), (0 : UInt8), (0 : UInt8), (0 : UInt8), (0 : UInt8), (0 : UInt8)])]], gF]) (by simp only [cy, vq] <;> rfl)
theorem AA (g : Int) (h1 : (Prod.snd (bd (aZ 4 g)) == 0) = true) (hL : ∀ k, ak PP GL XX HH NN (k + 5) 100 [A.agg [ii 4, u g, u 0, u 0, u 0, bo false, bo false, bo false]] [] = some ([Res.c (st (bd (aZ 4 g)).1), Res.c (ii (bd (aZ 4 g)).2)], [])) (k : Nat) : ak PP GL XX HH NN (k + 6) 71 [A.c (ii 4), A.c (u g)] [] = some ([Res.agg (Dk.cs (cy 4 g)), Res.c (ii 0)], []) := by
  exact rt (aa (hL k) <| aa (cn h1) <| aa (qS 0 (k + 3)) <| aa (oL (cI 0) (show ByteArray.size (cI (0 : Int)) ≤ 1000000 from by decide) (k + 1)) <| aa tt <| aa (fO (k + 4)) <| aa (rfl : [[st (bd (aZ (4 : Int) g)).1], [st (bG (cI (0 : Int)))], [st (ByteArray.mk #[(0 : UInt8), (0 : UInt8), (0 : UInt8), (0 : UInt8), (0 : UInt8), (0 : UInt8), (0 : UInt8), (0 : UInt8)])]] = [[st (bd (aZ (4 : Int) g)).1], [st (bG (cI (0 : Int)))], [st (ByteArray.mk #[(0 : UInt8), (0 : UInt8), (0 : UInt8), (0 : UInt8), (0 : UInt8), (0 : UInt8), (0 : UInt8), (0 : UInt8)])]]) <| aa (show List.length [[st (bd (aZ (4 : Int) g)).1], [st (bG (cI (0 : Int)))], [st (ByteArray.mk #[(0 : UInt8), (0 : UInt8), (0 : UInt8), (0 : UInt8), (0 : UInt8), (0 : UInt8), (0 : UInt8), (0 : UInt8)])]] ≤ 1073741824 from by simp only [vr]; omega) <| aa ((rfl : (2 : Nat) = (2 : Nat))).symm <| aa tt <| aa (fO (k + 4)) <| aa (rfl : [[st (bd (aZ (4 : Int) g)).1], [st (bG (cI (0 : Int)))], [st (ByteArray.mk #[(0 : UInt8), (0 : UInt8), (0 : UInt8), (0 : UInt8), (0 : UInt8), (0 : UInt8), (0 : UInt8), (0 : UInt8)])], [st (ByteArray.mk #[(0 : UInt8), (0 : UInt8), (0 : UInt8), (0 : UInt8), (0 : UInt8), (0 : UInt8), (0 : UInt8), (0 : UInt8)])]] = [[st (bd (aZ (4 : Int) g)).1], [st (bG (cI (0 : Int)))], [st (ByteArray.mk #[(0 : UInt8), (0 : UInt8), (0 : UInt8), (0 : UInt8), (0 : UInt8), (0 : UInt8), (0 : UInt8), (0 : UInt8)])], [st (ByteArray.mk #[(0 : UInt8), (0 : UInt8), (0 : UInt8), (0 : UInt8), (0 : UInt8), (0 : UInt8), (0 : UInt8), (0 : UInt8)])]]) <| aa (show List.length [[st (bd (aZ (4 : Int) g)).1], [st (bG (cI (0 : Int)))], [st (ByteArray.mk #[(0 : UInt8), (0 : UInt8), (0 : UInt8), (0 : UInt8), (0 : UInt8), (0 : UInt8), (0 : UInt8), (0 : UInt8)])], [st (ByteArray.mk #[(0 : UInt8), (0 : UInt8), (0 : UInt8), (0 : UInt8), (0 : UInt8), (0 : UInt8), (0 : UInt8), (0 : UInt8)])]] ≤ 1073741824 from by simp only [vr]; omega) <| aa ((rfl : (3 : Nat) = (3 : Nat))).symm <| aa tt <| aa (fO (k + 4)) <| aa (rfl : [[st (bd (aZ (4 : Int) g)).1], [st (bG (cI (0 : Int)))], [st (ByteArray.mk #[(0 : UInt8), (0 : UInt8), (0 : UInt8), (0 : UInt8), (0 : UInt8), (0 : UInt8), (0 : UInt8), (0 : UInt8)])], [st (ByteArray.mk #[(0 : UInt8), (0 : UInt8), (0 : UInt8), (0 : UInt8), (0 : UInt8), (0 : UInt8), (0 : UInt8), (0 : UInt8)])], [st (ByteArray.mk #[(0 : UInt8), (0 : UInt8), (0 : UInt8), (0 : UInt8), (0 : UInt8), (0 : UInt8), (0 : UInt8), (0 : UInt8)])]] = [[st (bd (aZ (4 : Int) g)).1], [st (bG (cI (0 : Int)))], [st (ByteArray.mk #[(0 : UInt8), (0 : UInt8), (0 : UInt8), (0 : UInt8), (0 : UInt8), (0 : UInt8), (0 : UInt8), (0 : UInt8)])], [st (ByteArray.mk #[(0 : UInt8), (0 : UInt8), (0 : UInt8), (0 : UInt8), (0 : UInt8), (0 : UInt8), (0 : UInt8), (0 : UInt8)])], [st (ByteArray.mk #[(0 : UInt8), (0 : UInt8), (0 : UInt8), (0 : UInt8), (0 : UInt8), (0 : UInt8), (0 : UInt8), (0 : UInt8)])]]) <| aa (show List.length [[st (bd (aZ (4 : Int) g)).1], [st (bG (cI (0 : Int)))], [st (ByteArray.mk #[(0 : UInt8), (0 : UInt8), (0 : UInt8), (0 : UInt8), (0 : UInt8), (0 : UInt8), (0 : UInt8), (0 : UInt8)])], [st (ByteArray.mk #[(0 : UInt8), (0 : UInt8), (0 : UInt8), (0 : UInt8), (0 : UInt8), (0 : UInt8), (0 : UInt8), (0 : UInt8)])], [st (ByteArray.mk #[(0 : UInt8), (0 : UInt8), (0 : UInt8), (0 : UInt8), (0 : UInt8), (0 : UInt8), (0 : UInt8), (0 : UInt8)])]] ≤ 1073741824 from by simp only [vr]; omega) <| aa ((rfl : (4 : Nat) = (4 : Nat))).symm <| aa tt <| aa (fO (k + 4)) <| aa (rfl : [[st (bd (aZ (4 : Int) g)).1], [st (bG (cI (0 : Int)))], [st (ByteArray.mk #[(0 : UInt8), (0 : UInt8), (0 : UInt8), (0 : UInt8), (0 : UInt8), (0 : UInt8), (0 : UInt8), (0 : UInt8)])], [st (ByteArray.mk #[(0 : UInt8), (0 : UInt8), (0 : UInt8), (0 : UInt8), (0 : UInt8), (0 : UInt8), (0 : UInt8), (0 : UInt8)])], [st (ByteArray.mk #[(0 : UInt8), (0 : UInt8), (0 : UInt8), (0 : UInt8), (0 : UInt8), (0 : UInt8), (0 : UInt8), (0 : UInt8)])], [st (ByteArray.mk #[(0 : UInt8), (0 : UInt8), (0 : UInt8), (0 : UInt8), (0 : UInt8), (0 : UInt8), (0 : UInt8), (0 : UInt8)])]] = [[st (bd (aZ (4 : Int) g)).1], [st (bG (cI (0 : Int)))], [st (ByteArray.mk #[(0 : UInt8), (0 : UInt8), (0 : UInt8), (0 : UInt8), (0 : UInt8), (0 : UInt8), (0 : UInt8), (0 : UInt8)])], [st (ByteArray.mk #[(0 : UInt8), (0 : UInt8), (0 : UInt8), (0 : UInt8), (0 : UInt8), (0 : UInt8), (0 : UInt8), (0 : UInt8)])], [st (ByteArray.mk #[(0 : UInt8), (0 : UInt8), (0 : UInt8), (0 : UInt8), (0 : UInt8), (0 : UInt8), (0 : UInt8), (0 : UInt8)])], [st (ByteArray.mk #[(0 : UInt8), (0 : UInt8), (0 : UInt8), (0 : UInt8), (0 : UInt8), (0 : UInt8), (0 : UInt8), (0 : UInt8)])]]) <| aa (show List.length [[st (bd (aZ (4 : Int) g)).1], [st (bG (cI (0 : Int)))], [st (ByteArray.mk #[(0 : UInt8), (0 : UInt8), (0 : UInt8), (0 : UInt8), (0 : UInt8), (0 : UInt8), (0 : UInt8), (0 : UInt8)])], [st (ByteArray.mk #[(0 : UInt8), (0 : UInt8), (0 : UInt8), (0 : UInt8), (0 : UInt8), (0 : UInt8), (0 : UInt8), (0 : UInt8)])], [st (ByteArray.mk #[(0 : UInt8), (0 : UInt8), (0 : UInt8), (0 : UInt8), (0 : UInt8), (0 : UInt8), (0 : UInt8), (0 : UInt8)])], [st (ByteArray.mk #[(0 : UInt8), (0 : UInt8), (0 : UInt8), (0 : UInt8), (0 : UInt8), (0 : UInt8), (0 : UInt8), (0 : UInt8)])]] ≤ 1073741824 from by simp only [vr]; omega) <| aa ((rfl : (5 : Nat) = (5 : Nat))).symm <| aa ff <| trivial) (gs := [G.call [Res.c (st (bd (aZ 4 g)).1), Res.c (ii (bd (aZ 4 g)).2)] [], gF, G.call [Res.c (st (cI 0))] [], G.call [Res.c (st (bG (cI 0)))] [], G.un, gT, G.call [Res.c (st (ByteArray.mk #[(0 : UInt8), (0 : UInt8), (0 : UInt8), (0 : UInt8), (0 : UInt8), (0 : UInt8), (0 : UInt8), (0 : UInt8)]))] [], G.app [[st (bd (aZ 4 g)).1], [st (bG (cI 0))], [st (ByteArray.mk #[(0 : UInt8), (0 : UInt8), (0 : UInt8), (0 : UInt8), (0 : UInt8), (0 : UInt8), (0 : UInt8), (0 : UInt8)])]], gT, G.call [Res.c (st (ByteArray.mk #[(0 : UInt8), (0 : UInt8), (0 : UInt8), (0 : UInt8), (0 : UInt8), (0 : UInt8), (0 : UInt8), (0 : UInt8)]))] [], G.app [[st (bd (aZ 4 g)).1], [st (bG (cI 0))], [st (ByteArray.mk #[(0 : UInt8), (0 : UInt8), (0 : UInt8), (0 : UInt8), (0 : UInt8), (0 : UInt8), (0 : UInt8), (0 : UInt8)])], [st (ByteArray.mk #[(0 : UInt8), (0 : UInt8), (0 : UInt8), (0 : UInt8), (0 : UInt8), (0 : UInt8), (0 : UInt8), (0 : UInt8)])]], gT, G.call [Res.c (st (ByteArray.mk #[(0 : UInt8), (0 : UInt8), (0 : UInt8), (0 : UInt8), (0 : UInt8), (0 : UInt8), (0 : UInt8), (0 : UInt8)]))] [], G.app [[st (bd (aZ 4 g)).1], [st (bG (cI 0))], [st (ByteArray.mk #[(0 : UInt8), (0 : UInt8), (0 : UInt8), (0 : UInt8), (0 : UInt8), (0 : UInt8), (0 : UInt8), (0 : UInt8)])], [st (ByteArray.mk #[(0 : UInt8), (0 : UInt8), (0 : UInt8), (0 : UInt8), (0 : UInt8), (0 : UInt8), (0 : UInt8), (0 : UInt8)])], [st (ByteArray.mk #[(0 : UInt8), (0 : UInt8), (0 : UInt8), (0 : UInt8), (0 : UInt8), (0 : UInt8), (0 : UInt8), (0 : UInt8)])]], gT, G.call [Res.c (st (ByteArray.mk #[(0 : UInt8), (0 : UInt8), (0 : UInt8), (0 : UInt8), (0 : UInt8), (0 : UInt8), (0 : UInt8), (0 : UInt8)]))] [], G.app [[st (bd (aZ 4 g)).1], [st (bG (cI 0))], [st (ByteArray.mk #[(0 : UInt8), (0 : UInt8), (0 : UInt8), (0 : UInt8), (0 : UInt8), (0 : UInt8), (0 : UInt8), (0 : UInt8)])], [st (ByteArray.mk #[(0 : UInt8), (0 : UInt8), (0 : UInt8), (0 : UInt8), (0 : UInt8), (0 : UInt8), (0 : UInt8), (0 : UInt8)])], [st (ByteArray.mk #[(0 : UInt8), (0 : UInt8), (0 : UInt8), (0 : UInt8), (0 : UInt8), (0 : UInt8), (0 : UInt8), (0 : UInt8)])], [st (ByteArray.mk #[(0 : UInt8), (0 : UInt8), (0 : UInt8), (0 : UInt8), (0 : UInt8), (0 : UInt8), (0 : UInt8), (0 : UInt8)])]], gF]) (by simp only [cy, vq] <;> rfl)
def iJ (i : Int) (d : Dk) : Nd := ⟨i, false, ⟨d, su0, 0⟩, false, 0, 0, he0, false, rq0, false, 0, 0, false, [], []⟩
abbrev oJ (i : Int) (d : Dk) : List C := [ii i, bo false, .slice 1 (d.sure.map eS), .slice 2 (d.cache.map Wr.cs), ii d.fuse, bo d.dead, ii 0, u 0, u 0, u 0, u 0, bo false, bo false, bo false, w4 0, bo false, ii 0, u 0, ii 0, u 0, u 0, u 0, u 0, bo false, bo false, bo false, bo false, w4 0, bo false, bo false, ii 0, ii 0, st ⟨#[]⟩, bo false, ii 0, ii 0, bo false, .slice 1 [], .slice 3 []]
theorem r9 (i : Int) (d : Dk) : (iJ i d).cs = oJ i d := rfl
def lk0 : Lk := ⟨false, 0, [], []⟩
theorem CG (b : Int) (g : Int) (d : Dk) (x : Nd) (y : Nd) (e : Int) (f : Int) (hF : ∀ k, ak PP GL XX HH NN (k + 9) 71 [A.c (ii b), A.c (u g)] [] = some ([Res.agg (Dk.cs d), Res.c (ii 0)], [])) (hA : ∀ k, ak PP GL XX HH NN (k + 9) 65 [A.agg (oJ 0 d), A.nil] [] = some ([Res.agg (Nd.cs x), Res.c (ii e)], [])) (hB : ∀ k, ak PP GL XX HH NN (k + 9) 65 [A.agg (oJ 1 d), A.nil] [] = some ([Res.agg (Nd.cs y), Res.c (ii f)], [])) (k : Nat) : ak PP GL XX HH NN (k + 10) 49 [A.c (ii b), A.c (u g)] [] = some ([Res.agg (Cl.cs (Cl.mk x y lk0 false false)), Res.c (ii 0)], []) := by
  exact rt (aa tt <| aa (hF k) <| aa ff <| aa (hA k) <| aa (rfl : (0 : Int) = 0) <| aa tt <| aa (hF k) <| aa ff <| aa (hB k) <| aa (rfl : (1 : Int) = 1) <| aa ff <| trivial) (gs := [G.un, gT, G.call [Res.agg (Dk.cs d), Res.c (ii 0)] [], gF, G.call [Res.agg (Nd.cs x), Res.c (ii e)] [], G.at 0, gT, G.call [Res.agg (Dk.cs d), Res.c (ii 0)] [], gF, G.call [Res.agg (Nd.cs y), Res.c (ii f)] [], G.at 1, gF]) (by simp only [lk0, vq] <;> rfl)
end Go.Dm
namespace Go.Dm
open Go
def lK (c c2 c3 : Cl) (o1 o2 : List Ou) : Cl × List Ou :=
  bif !c.n0.up then (c, []) else bif !c.w1 || !c.n1.up || c.link.up then ({ c with w0 := true }, []) else (c3, o1 ++ o2)
theorem xf (c : Cl) (c2 : Cl) (c3 : Cl) (o1 : List Ou) (o2 : List Ou) (hl : o1.length + o2.length ≤ 1000) (hA : ∀ k, ak PP GL XX HH NN (k + 12) 69 [A.agg (Cl.cs ({ c with link := ch c.link, w0 := true } : Cl)), A.c (ii 0), A.agg (Nd.cs (ca c.n0 (ch c.link).ses).1), A.c (C.slice 5 (List.map Ou.cs (ca c.n0 (ch c.link).ses).2))] [] = some ([Res.agg (Cl.cs c2), Res.top 5 (List.map Ou.cs o1)], [])) (hB : ∀ k, ak PP GL XX HH NN (k + 12) 69 [A.agg (Cl.cs c2), A.c (ii 1), A.agg (Nd.cs (ca c2.n1 c2.link.ses).1), A.c (C.slice 5 (List.map Ou.cs (ca c2.n1 c2.link.ses).2))] [] = some ([Res.agg (Cl.cs c3), Res.top 5 (List.map Ou.cs o2)], [])) (k : Nat) : ak PP GL XX HH NN (k + 13) 60 [A.agg (Cl.cs c), A.c (ii 0)] [] = some ([Res.agg (Cl.cs (lK c c2 c3 o1 o2).1), Res.top 5 (List.map Ou.cs (lK c c2 c3 o1 o2).2)], []) := by
  rcases bft c.n0.up with z0 | z0
  · rcases bft c.w1 with z1 | z1
    · rcases bft c.n1.up with z2 | z2
      · rcases bft c.link.up with z3 | z3
        · exact rt (aa (rfl : (0 : Int) = 0) <| aa (cn z0) <| aa (rfl : (0 : Int) = 0) <| aa (rfl : (1 : Int) = 1) <| xa4 (cn z1) <| aa (rfl : (1 : Int) = 1) <| xa4 (cn z1) <| xa4 (cn z2) <| aa z3 <| trivial) (gs := xc (G.at 0) <| xc gF <| xc (G.at 0) <| xc (G.at 1) <| xg4 gF <| xc (G.at 1) <| xg8 gF <| [gT]) (rs := [Res.agg (Cl.cs ({ c with w0 := true } : Cl)), Res.top 5 (List.map Ou.cs [])]) (by simp only [lK, z0, z1, z2, z3, vq] <;> rfl)
        · exact rt (aa (rfl : (0 : Int) = 0) <| aa (cn z0) <| aa (rfl : (0 : Int) = 0) <| aa (rfl : (1 : Int) = 1) <| xa4 (cn z1) <| aa (rfl : (1 : Int) = 1) <| xa4 (cn z1) <| xa4 (cn z2) <| aa z3 <| aa (we c.link (k + 11)) <| aa (oQ c.n0 (ch c.link).ses (k + 2)) <| aa (hA k) <| aa (oQ c2.n1 c2.link.ses (k + 2)) <| aa (hB k) <| aa (bL (Ou.cs) (o1) (o2)) <| aa (aV (Ou.cs) (l := o1 ++ o2) (n := 1073741824) (by simp only [vr]; omega)) <| aa (Eq.refl (List.length (List.map Ou.cs o1))) <| aa (Eq.refl (List.length (List.map Ou.cs (o1 ++ o2)))) <| trivial) (gs := xc (G.at 0) <| xc gF <| xc (G.at 0) <| xc (G.at 1) <| xg4 gF <| xc (G.at 1) <| xg9 gF <| [G.call [Res.agg (Lk.cs (ch c.link))] [], G.call [Res.agg (Nd.cs (ca c.n0 (ch c.link).ses).1), Res.top 5 (List.map Ou.cs (ca c.n0 (ch c.link).ses).2)] [], G.call [Res.agg (Cl.cs c2), Res.top 5 (List.map Ou.cs o1)] [], G.call [Res.agg (Nd.cs (ca c2.n1 c2.link.ses).1), Res.top 5 (List.map Ou.cs (ca c2.n1 c2.link.ses).2)] [], G.call [Res.agg (Cl.cs c3), Res.top 5 (List.map Ou.cs o2)] [], G.app (List.map Ou.cs (o1 ++ o2))]) (rs := [Res.agg (Cl.cs c3), Res.top 5 (List.map Ou.cs (o1 ++ o2))]) (by simp only [lK, z0, z1, z2, z3, vq] <;> rfl)
      · exact rt (aa (rfl : (0 : Int) = 0) <| aa (cn z0) <| aa (rfl : (0 : Int) = 0) <| aa (rfl : (1 : Int) = 1) <| xa4 (cn z1) <| aa (rfl : (1 : Int) = 1) <| xa4 (cn z1) <| xa4 (cn z2) <| aa tt <| trivial) (gs := xc (G.at 0) <| xc gF <| xc (G.at 0) <| xc (G.at 1) <| xg4 gF <| xc (G.at 1) <| xg4 gF <| xg5 gT <| []) (rs := [Res.agg (Cl.cs ({ c with w0 := true } : Cl)), Res.top 5 (List.map Ou.cs [])]) (by simp only [lK, z0, z1, z2, vq] <;> rfl)
    · exact rt (aa (rfl : (0 : Int) = 0) <| aa (cn z0) <| aa (rfl : (0 : Int) = 0) <| aa (rfl : (1 : Int) = 1) <| xa8 (cn z1) <| xa5 tt <| trivial) (gs := xc (G.at 0) <| xc gF <| xc (G.at 0) <| xc (G.at 1) <| bv gT <| [gT]) (rs := [Res.agg (Cl.cs ({ c with w0 := true } : Cl)), Res.top 5 (List.map Ou.cs [])]) (by simp only [lK, z0, z1, vq] <;> rfl)
  · exact rt (aa (rfl : (0 : Int) = 0) <| aa (cn z0) <| trivial) (gs := [G.at 0, gT]) (rs := [Res.agg (Cl.cs c), Res.top 5 (List.map Ou.cs [])]) (by simp only [lK, z0, vq] <;> rfl)
def lI (c c2 c3 : Cl) (o1 o2 : List Ou) : Cl × List Ou :=
  bif !c.n1.up then (c, []) else bif !c.w0 || !c.n0.up || c.link.up then ({ c with w1 := true }, []) else (c3, o1 ++ o2)
theorem wn (c : Cl) (c2 : Cl) (c3 : Cl) (o1 : List Ou) (o2 : List Ou) (hl : o1.length + o2.length ≤ 1000) (hA : ∀ k, ak PP GL XX HH NN (k + 12) 69 [A.agg (Cl.cs ({ c with link := ch c.link, w1 := true } : Cl)), A.c (ii 0), A.agg (Nd.cs (ca c.n0 (ch c.link).ses).1), A.c (C.slice 5 (List.map Ou.cs (ca c.n0 (ch c.link).ses).2))] [] = some ([Res.agg (Cl.cs c2), Res.top 5 (List.map Ou.cs o1)], [])) (hB : ∀ k, ak PP GL XX HH NN (k + 12) 69 [A.agg (Cl.cs c2), A.c (ii 1), A.agg (Nd.cs (ca c2.n1 c2.link.ses).1), A.c (C.slice 5 (List.map Ou.cs (ca c2.n1 c2.link.ses).2))] [] = some ([Res.agg (Cl.cs c3), Res.top 5 (List.map Ou.cs o2)], [])) (k : Nat) : ak PP GL XX HH NN (k + 13) 60 [A.agg (Cl.cs c), A.c (ii 1)] [] = some ([Res.agg (Cl.cs (lI c c2 c3 o1 o2).1), Res.top 5 (List.map Ou.cs (lI c c2 c3 o1 o2).2)], []) := by
  rcases bft c.n1.up with z0 | z0
  · rcases bft c.w0 with z1 | z1
    · rcases bft c.n0.up with z2 | z2
      · rcases bft c.link.up with z3 | z3
        · exact rt (aa (rfl : (1 : Int) = 1) <| aa (cn z0) <| aa (rfl : (1 : Int) = 1) <| aa (rfl : (0 : Int) = 0) <| xa4 (cn z1) <| aa (rfl : (0 : Int) = 0) <| xa4 (cn z1) <| xa4 (cn z2) <| aa z3 <| trivial) (gs := xc (G.at 1) <| xc gF <| xc (G.at 1) <| xc (G.at 0) <| xg4 gF <| xc (G.at 0) <| xg8 gF <| [gT]) (rs := [Res.agg (Cl.cs ({ c with w1 := true } : Cl)), Res.top 5 (List.map Ou.cs [])]) (by simp only [lI, z0, z1, z2, z3, vq] <;> rfl)
        · exact rt (aa (rfl : (1 : Int) = 1) <| aa (cn z0) <| aa (rfl : (1 : Int) = 1) <| aa (rfl : (0 : Int) = 0) <| xa4 (cn z1) <| aa (rfl : (0 : Int) = 0) <| xa4 (cn z1) <| xa4 (cn z2) <| aa z3 <| aa (we c.link (k + 11)) <| aa (oQ c.n0 (ch c.link).ses (k + 2)) <| aa (hA k) <| aa (oQ c2.n1 c2.link.ses (k + 2)) <| aa (hB k) <| aa (bL (Ou.cs) (o1) (o2)) <| aa (aV (Ou.cs) (l := o1 ++ o2) (n := 1073741824) (by simp only [vr]; omega)) <| aa (Eq.refl (List.length (List.map Ou.cs o1))) <| aa (Eq.refl (List.length (List.map Ou.cs (o1 ++ o2)))) <| trivial) (gs := xc (G.at 1) <| xc gF <| xc (G.at 1) <| xc (G.at 0) <| xg4 gF <| xc (G.at 0) <| xg9 gF <| [G.call [Res.agg (Lk.cs (ch c.link))] [], G.call [Res.agg (Nd.cs (ca c.n0 (ch c.link).ses).1), Res.top 5 (List.map Ou.cs (ca c.n0 (ch c.link).ses).2)] [], G.call [Res.agg (Cl.cs c2), Res.top 5 (List.map Ou.cs o1)] [], G.call [Res.agg (Nd.cs (ca c2.n1 c2.link.ses).1), Res.top 5 (List.map Ou.cs (ca c2.n1 c2.link.ses).2)] [], G.call [Res.agg (Cl.cs c3), Res.top 5 (List.map Ou.cs o2)] [], G.app (List.map Ou.cs (o1 ++ o2))]) (rs := [Res.agg (Cl.cs c3), Res.top 5 (List.map Ou.cs (o1 ++ o2))]) (by simp only [lI, z0, z1, z2, z3, vq] <;> rfl)
      · exact rt (aa (rfl : (1 : Int) = 1) <| aa (cn z0) <| aa (rfl : (1 : Int) = 1) <| aa (rfl : (0 : Int) = 0) <| xa4 (cn z1) <| aa (rfl : (0 : Int) = 0) <| xa4 (cn z1) <| xa4 (cn z2) <| aa tt <| trivial) (gs := xc (G.at 1) <| xc gF <| xc (G.at 1) <| xc (G.at 0) <| xg4 gF <| xc (G.at 0) <| xg4 gF <| xg5 gT <| []) (rs := [Res.agg (Cl.cs ({ c with w1 := true } : Cl)), Res.top 5 (List.map Ou.cs [])]) (by simp only [lI, z0, z1, z2, vq] <;> rfl)
    · exact rt (aa (rfl : (1 : Int) = 1) <| aa (cn z0) <| aa (rfl : (1 : Int) = 1) <| aa (rfl : (0 : Int) = 0) <| xa8 (cn z1) <| xa5 tt <| trivial) (gs := xc (G.at 1) <| xc gF <| xc (G.at 1) <| xc (G.at 0) <| bv gT <| [gT]) (rs := [Res.agg (Cl.cs ({ c with w1 := true } : Cl)), Res.top 5 (List.map Ou.cs [])]) (by simp only [lI, z0, z1, vq] <;> rfl)
  · exact rt (aa (rfl : (1 : Int) = 1) <| aa (cn z0) <| trivial) (gs := [G.at 1, gT]) (rs := [Res.agg (Cl.cs c), Res.top 5 (List.map Ou.cs [])]) (by simp only [lI, z0, vq] <;> rfl)
end Go.Dm
namespace Go.Dm
open Go
abbrev pt (n : Nd) (k : Int) : Nd := ⟨n.id, n.up, ⟨Bm n.store.disk (IntKind.wrap .i64 (if 1000 < k then 1000 else k)), n.store.super, n.store.mask⟩, n.primary, n.state, n.ses, n.peer, n.peerPri, n.req, n.asking, n.askId, n.wanted, n.minted, n.draws, n.mints⟩
abbrev drawn (n : Nd) (g : Int) : Nd := ⟨n.id, n.up, n.store, n.primary, n.state, n.ses, n.peer, n.peerPri, n.req, n.asking, n.askId, n.wanted, n.minted, n.draws ++ [g], n.mints⟩
theorem ua (c : Cl) (e : Evt) (c2 : Cl) (o2 : List Ou) (x : Nd) (o : List Ou) (hP : ∀ k, ak PP GL XX HH NN (k + 13) 55 [A.agg (Nd.cs c.n0), A.c (ii e.id)] [] = some ([Res.agg (Nd.cs x), Res.top 5 (List.map Ou.cs o)], [])) (hA : ∀ k, ak PP GL XX HH NN (k + 13) 69 [A.agg (Cl.cs c), A.c (ii 0), A.agg (Nd.cs x), A.c (C.slice 5 (List.map Ou.cs o))] [] = some ([Res.agg (Cl.cs c2), Res.top 5 (List.map Ou.cs o2)], [])) (k : Nat) : ak PP GL XX HH NN (k + 14) 42 [A.agg (Cl.cs c), A.agg [ii 1, ii 0, ii e.id, ii e.block, st e.data, u e.n, C.slice 1 (List.map eB e.keeps)]] [] = some ([Res.agg (Cl.cs c2), Res.top 5 (List.map Ou.cs o2)], []) := by
  exact rt (xa4 ff <| aa (rfl : (0 : Int) = 0) <| aa tt <| aa (hP k) <| aa (hA k) <| aa (Eq.refl (List.length (List.map Ou.cs o2))) <| trivial) (gs := xg4 gF <| [G.at 0, gT, G.call [Res.agg (Nd.cs x), Res.top 5 (List.map Ou.cs o)] [], G.call [Res.agg (Cl.cs c2), Res.top 5 (List.map Ou.cs o2)] []]) rfl
theorem vg (c : Cl) (e : Evt) (c2 : Cl) (o2 : List Ou) (x : Nd) (o : List Ou) (hP : ∀ k, ak PP GL XX HH NN (k + 13) 56 [A.agg (Nd.cs c.n0), A.c (ii e.id)] [] = some ([Res.agg (Nd.cs x), Res.top 5 (List.map Ou.cs o)], [])) (hA : ∀ k, ak PP GL XX HH NN (k + 13) 69 [A.agg (Cl.cs c), A.c (ii 0), A.agg (Nd.cs x), A.c (C.slice 5 (List.map Ou.cs o))] [] = some ([Res.agg (Cl.cs c2), Res.top 5 (List.map Ou.cs o2)], [])) (k : Nat) : ak PP GL XX HH NN (k + 14) 42 [A.agg (Cl.cs c), A.agg [ii 2, ii 0, ii e.id, ii e.block, st e.data, u e.n, C.slice 1 (List.map eB e.keeps)]] [] = some ([Res.agg (Cl.cs c2), Res.top 5 (List.map Ou.cs o2)], []) := by
  exact rt (xa4 ff <| aa (rfl : (0 : Int) = 0) <| aa ff <| aa tt <| aa (hP k) <| aa (hA k) <| aa (Eq.refl (List.length (List.map Ou.cs o2))) <| trivial) (gs := xg4 gF <| [G.at 0, gF, gT, G.call [Res.agg (Nd.cs x), Res.top 5 (List.map Ou.cs o)] [], G.call [Res.agg (Cl.cs c2), Res.top 5 (List.map Ou.cs o2)] []]) rfl
theorem ur (c : Cl) (e : Evt) (c2 : Cl) (o2 : List Ou) (x : Nd) (o : List Ou) (hP : ∀ k, ak PP GL XX HH NN (k + 13) 57 [A.agg (Nd.cs c.n0), A.c (ii e.id)] [] = some ([Res.agg (Nd.cs x), Res.top 5 (List.map Ou.cs o)], [])) (hA : ∀ k, ak PP GL XX HH NN (k + 13) 69 [A.agg (Cl.cs c), A.c (ii 0), A.agg (Nd.cs x), A.c (C.slice 5 (List.map Ou.cs o))] [] = some ([Res.agg (Cl.cs c2), Res.top 5 (List.map Ou.cs o2)], [])) (k : Nat) : ak PP GL XX HH NN (k + 14) 42 [A.agg (Cl.cs c), A.agg [ii 3, ii 0, ii e.id, ii e.block, st e.data, u e.n, C.slice 1 (List.map eB e.keeps)]] [] = some ([Res.agg (Cl.cs c2), Res.top 5 (List.map Ou.cs o2)], []) := by
  exact rt (xa4 ff <| aa (rfl : (0 : Int) = 0) <| xa2 ff <| aa tt <| aa (hP k) <| aa (hA k) <| aa (Eq.refl (List.length (List.map Ou.cs o2))) <| trivial) (gs := xg4 gF <| xc (G.at 0) <| xg2 gF <| [gT, G.call [Res.agg (Nd.cs x), Res.top 5 (List.map Ou.cs o)] [], G.call [Res.agg (Cl.cs c2), Res.top 5 (List.map Ou.cs o2)] []]) rfl
theorem Bk (c : Cl) (e : Evt) (c2 : Cl) (o2 : List Ou) (x : Nd) (o : List Ou) (hP : ∀ k, ak PP GL XX HH NN (k + 13) 58 [A.agg (Nd.cs c.n0), A.c (ii e.id), A.c (ii e.block)] [] = some ([Res.agg (Nd.cs x), Res.top 5 (List.map Ou.cs o)], [])) (hA : ∀ k, ak PP GL XX HH NN (k + 13) 69 [A.agg (Cl.cs c), A.c (ii 0), A.agg (Nd.cs x), A.c (C.slice 5 (List.map Ou.cs o))] [] = some ([Res.agg (Cl.cs c2), Res.top 5 (List.map Ou.cs o2)], [])) (k : Nat) : ak PP GL XX HH NN (k + 14) 42 [A.agg (Cl.cs c), A.agg [ii 4, ii 0, ii e.id, ii e.block, st e.data, u e.n, C.slice 1 (List.map eB e.keeps)]] [] = some ([Res.agg (Cl.cs c2), Res.top 5 (List.map Ou.cs o2)], []) := by
  exact rt (xa4 ff <| aa (rfl : (0 : Int) = 0) <| xa3 ff <| aa tt <| aa (hP k) <| aa (hA k) <| aa (Eq.refl (List.length (List.map Ou.cs o2))) <| trivial) (gs := xg4 gF <| xc (G.at 0) <| xg3 gF <| [gT, G.call [Res.agg (Nd.cs x), Res.top 5 (List.map Ou.cs o)] [], G.call [Res.agg (Cl.cs c2), Res.top 5 (List.map Ou.cs o2)] []]) rfl
theorem yU (c : Cl) (e : Evt) (c2 : Cl) (o2 : List Ou) (x : Nd) (o : List Ou) (hP : ∀ k, ak PP GL XX HH NN (k + 13) 59 [A.agg (Nd.cs c.n0), A.c (ii e.id), A.c (ii e.block), A.c (st e.data)] [] = some ([Res.agg (Nd.cs x), Res.top 5 (List.map Ou.cs o)], [])) (hA : ∀ k, ak PP GL XX HH NN (k + 13) 69 [A.agg (Cl.cs c), A.c (ii 0), A.agg (Nd.cs x), A.c (C.slice 5 (List.map Ou.cs o))] [] = some ([Res.agg (Cl.cs c2), Res.top 5 (List.map Ou.cs o2)], [])) (k : Nat) : ak PP GL XX HH NN (k + 14) 42 [A.agg (Cl.cs c), A.agg [ii 5, ii 0, ii e.id, ii e.block, st e.data, u e.n, C.slice 1 (List.map eB e.keeps)]] [] = some ([Res.agg (Cl.cs c2), Res.top 5 (List.map Ou.cs o2)], []) := by
  exact rt (xa4 ff <| aa (rfl : (0 : Int) = 0) <| xa4 ff <| aa tt <| aa (hP k) <| aa (hA k) <| aa (Eq.refl (List.length (List.map Ou.cs o2))) <| trivial) (gs := xg4 gF <| xc (G.at 0) <| xg4 gF <| [gT, G.call [Res.agg (Nd.cs x), Res.top 5 (List.map Ou.cs o)] [], G.call [Res.agg (Cl.cs c2), Res.top 5 (List.map Ou.cs o2)] []]) rfl
theorem uw (c : Cl) (e : Evt) (c2 : Cl) (o2 : List Ou) (hC : ∀ k, ak PP GL XX HH NN (k + 13) 60 [A.agg (Cl.cs c), A.c (ii 0)] [] = some ([Res.agg (Cl.cs c2), Res.top 5 (List.map Ou.cs o2)], [])) (k : Nat) : ak PP GL XX HH NN (k + 14) 42 [A.agg (Cl.cs c), A.agg [ii 6, ii 0, ii e.id, ii e.block, st e.data, u e.n, C.slice 1 (List.map eB e.keeps)]] [] = some ([Res.agg (Cl.cs c2), Res.top 5 (List.map Ou.cs o2)], []) := by
  exact rt (xa4 ff <| aa (rfl : (0 : Int) = 0) <| xa5 ff <| aa tt <| aa (hC k) <| aa (Eq.refl (List.length (List.map Ou.cs o2))) <| trivial) (gs := xg4 gF <| xc (G.at 0) <| xg5 gF <| [gT, G.call [Res.agg (Cl.cs c2), Res.top 5 (List.map Ou.cs o2)] []]) rfl
def qt (c c2 : Cl) (o2 : List Ou) : Cl × List Ou := bif !c.link.up then (c, []) else (c2, o2)
theorem oB (c : Cl) (e : Evt) (c2 : Cl) (o2 : List Ou) (hE : ∀ k, ak PP GL XX HH NN (k + 13) 61 [A.agg (Cl.cs ({ c with w0 := false } : Cl)), A.nil] [] = some ([Res.agg (Cl.cs c2), Res.top 5 (List.map Ou.cs o2)], [])) (k : Nat) : ak PP GL XX HH NN (k + 14) 42 [A.agg (Cl.cs c), A.agg [ii 7, ii 0, ii e.id, ii e.block, st e.data, u e.n, C.slice 1 (List.map eB e.keeps)]] [] = some ([Res.agg (Cl.cs (qt ({ c with w0 := false } : Cl) c2 o2).1), Res.top 5 (List.map Ou.cs (qt ({ c with w0 := false } : Cl) c2 o2).2)], []) := by
  rcases bft c.link.up with z0 | z0
  · exact rt (xa4 ff <| aa (rfl : (0 : Int) = 0) <| xa6 ff <| xa3 tt <| aa (rfl : (0 : Int) = 0) <| aa (cn z0) <| aa (hE k) <| aa (Eq.refl (List.length (List.map Ou.cs o2))) <| trivial) (gs := xg4 gF <| xc (G.at 0) <| xg6 gF <| xg3 gT <| [G.at 0, gF, G.call [Res.agg (Cl.cs c2), Res.top 5 (List.map Ou.cs o2)] []]) (by simp only [qt, z0, vq] <;> rfl)
  · exact rt (xa4 ff <| aa (rfl : (0 : Int) = 0) <| xa6 ff <| xa3 tt <| aa (rfl : (0 : Int) = 0) <| aa (cn z0) <| trivial) (gs := xg4 gF <| xc (G.at 0) <| xg6 gF <| xg3 gT <| [G.at 0, gT]) (by simp only [qt, z0, vq] <;> rfl)
theorem Ab (c : Cl) (e : Evt) (c2 : Cl) (o2 : List Ou) (hE : ∀ k, ak PP GL XX HH NN (k + 13) 61 [A.agg (Cl.cs c), A.nil] [] = some ([Res.agg (Cl.cs c2), Res.top 5 (List.map Ou.cs o2)], [])) (k : Nat) : ak PP GL XX HH NN (k + 14) 42 [A.agg (Cl.cs c), A.agg [ii 8, ii 0, ii e.id, ii e.block, st e.data, u e.n, C.slice 1 (List.map eB e.keeps)]] [] = some ([Res.agg (Cl.cs (qt c c2 o2).1), Res.top 5 (List.map Ou.cs (qt c c2 o2).2)], []) := by
  rcases bft c.link.up with z0 | z0
  · exact rt (xa4 ff <| aa (rfl : (0 : Int) = 0) <| xa7 ff <| aa tt <| aa ff <| aa (cn z0) <| aa (hE k) <| aa (Eq.refl (List.length (List.map Ou.cs o2))) <| trivial) (gs := xg4 gF <| xc (G.at 0) <| xg7 gF <| xc gT <| xg2 gF <| [G.call [Res.agg (Cl.cs c2), Res.top 5 (List.map Ou.cs o2)] []]) (by simp only [qt, z0, vq] <;> rfl)
  · exact rt (xa4 ff <| aa (rfl : (0 : Int) = 0) <| xa7 ff <| aa tt <| aa ff <| aa (cn z0) <| trivial) (gs := xg4 gF <| xc (G.at 0) <| xg7 gF <| [gT, gF, gT]) (by simp only [qt, z0, vq] <;> rfl)
def su (c c2 : Cl) (o2 : List Ou) (q : Bool) : Cl × List Ou := bif !q then (c, []) else (c2, o2)
theorem uu (c : Cl) (e : Evt) (c2 : Cl) (o2 : List Ou) (x : Nd) (o : List Ou) (b : ByteArray) (l : Lk) (q : Bool) (hT : ∀ k, ak PP GL XX HH NN (k + 13) 62 [A.agg (Lk.cs c.link), A.c (ii 0)] [] = some ([Res.c (st b), Res.agg (Lk.cs l), Res.c (bo q)], [])) (hP : ∀ k, ak PP GL XX HH NN (k + 13) 63 [A.agg (Nd.cs c.n0), A.c (st b)] [] = some ([Res.agg (Nd.cs x), Res.top 5 (List.map Ou.cs o)], [])) (hA : ∀ k, ak PP GL XX HH NN (k + 13) 69 [A.agg (Cl.cs ({ c with link := l } : Cl)), A.c (ii 0), A.agg (Nd.cs x), A.c (C.slice 5 (List.map Ou.cs o))] [] = some ([Res.agg (Cl.cs c2), Res.top 5 (List.map Ou.cs o2)], [])) (k : Nat) : ak PP GL XX HH NN (k + 14) 42 [A.agg (Cl.cs c), A.agg [ii 9, ii 0, ii e.id, ii e.block, st e.data, u e.n, C.slice 1 (List.map eB e.keeps)]] [] = some ([Res.agg (Cl.cs (su c c2 o2 q).1), Res.top 5 (List.map Ou.cs (su c c2 o2 q).2)], []) := by
  rcases bft (q) with z0 | z0
  · exact rt (xa4 ff <| aa (rfl : (0 : Int) = 0) <| xa8 ff <| aa tt <| aa (hT k) <| aa (cn z0) <| aa (hP k) <| aa (hA k) <| aa (Eq.refl (List.length (List.map Ou.cs o2))) <| trivial) (gs := xg4 gF <| xc (G.at 0) <| xg8 gF <| [gT, G.call [Res.c (st b), Res.agg (Lk.cs l), Res.c (bo q)] [], gF, G.call [Res.agg (Nd.cs x), Res.top 5 (List.map Ou.cs o)] [], G.call [Res.agg (Cl.cs c2), Res.top 5 (List.map Ou.cs o2)] []]) (by simp only [su, z0, vq] <;> rfl)
  · exact rt (xa4 ff <| aa (rfl : (0 : Int) = 0) <| xa8 ff <| aa tt <| aa (hT k) <| aa (cn z0) <| trivial) (gs := xg4 gF <| xc (G.at 0) <| xg8 gF <| [gT, G.call [Res.c (st b), Res.agg (Lk.cs l), Res.c (bo q)] [], gT]) (by simp only [su, z0, vq] <;> rfl)
def nQ (c c2 : Cl) (o2 : List Ou) : Cl × List Ou := bif !c.n0.up then (c, []) else (c2, o2)
theorem yr (c : Cl) (e : Evt) (c2 : Cl) (o2 : List Ou) (hA : ∀ k, ak PP GL XX HH NN (k + 13) 69 [A.agg (Cl.cs c), A.c (ii 0), A.agg (Nd.cs (dv c.n0)), A.c (C.slice 5 [])] [] = some ([Res.agg (Cl.cs c2), Res.top 5 (List.map Ou.cs o2)], [])) (k : Nat) : ak PP GL XX HH NN (k + 14) 42 [A.agg (Cl.cs c), A.agg [ii 10, ii 0, ii e.id, ii e.block, st e.data, u e.n, C.slice 1 (List.map eB e.keeps)]] [] = some ([Res.agg (Cl.cs (nQ c c2 o2).1), Res.top 5 (List.map Ou.cs (nQ c c2 o2).2)], []) := by
  rcases bft c.n0.up with z0 | z0
  · exact rt (xa4 ff <| aa (rfl : (0 : Int) = 0) <| xa9 ff <| aa tt <| aa (cn z0) <| aa (tl c.n0 (k + 11)) <| aa (hA k) <| aa (Eq.refl (List.length (List.map Ou.cs o2))) <| trivial) (gs := xg4 gF <| xc (G.at 0) <| xg9 gF <| [gT, gF, G.call [Res.agg (Nd.cs (dv c.n0))] [], G.call [Res.agg (Cl.cs c2), Res.top 5 (List.map Ou.cs o2)] []]) (by simp only [nQ, z0, vq] <;> rfl)
  · exact rt (xa4 ff <| aa (rfl : (0 : Int) = 0) <| xa9 ff <| aa tt <| aa (cn z0) <| trivial) (gs := xg4 gF <| xc (G.at 0) <| xg9 gF <| xg2 gT <| []) (by simp only [nQ, z0, vq] <;> rfl)
theorem tw (c : Cl) (e : Evt) (x : Nd) (f : Int) (hP : ∀ k, ak PP GL XX HH NN (k + 13) 65 [A.agg (Nd.cs c.n0), A.c (C.slice 1 (List.map eB e.keeps))] [] = some ([Res.agg (Nd.cs x), Res.c (ii f)], [])) (k : Nat) : ak PP GL XX HH NN (k + 14) 42 [A.agg (Cl.cs c), A.agg [ii 11, ii 0, ii e.id, ii e.block, st e.data, u e.n, C.slice 1 (List.map eB e.keeps)]] [] = some ([Res.agg (Cl.cs ({ c with n0 := x } : Cl)), Res.top 5 (List.map Ou.cs [ag x e.id f ⟨#[]⟩])], []) := by
  exact rt (xa4 ff <| aa (rfl : (0 : Int) = 0) <| Co ff <| aa tt <| aa (hP k) <| aa (rfl : (0 : Int) = 0) <| aa (bV x e.id f ⟨#[]⟩ (k + 12)) <| trivial) (gs := xg4 gF <| xc (G.at 0) <| mC gF <| [gT, G.call [Res.agg (Nd.cs x), Res.c (ii f)] [], G.at 0, G.call [Res.agg (Ou.cs (ag x e.id f ⟨#[]⟩))] []]) rfl
theorem yB (c : Cl) (e : Evt) (c2 : Cl) (o2 : List Ou) (hu : Nd.up c.n0 = true) (hA : ∀ k, ak PP GL XX HH NN (k + 13) 69 [A.agg (Cl.cs c), A.c (ii 0), A.agg (Nd.cs (pt c.n0 e.n)), A.c (C.slice 5 [])] [] = some ([Res.agg (Cl.cs c2), Res.top 5 (List.map Ou.cs o2)], [])) (k : Nat) : ak PP GL XX HH NN (k + 14) 42 [A.agg (Cl.cs c), A.agg [ii 12, ii 0, ii e.id, ii e.block, st e.data, u e.n, C.slice 1 (List.map eB e.keeps)]] [] = some ([Res.agg (Cl.cs c2), Res.top 5 (List.map Ou.cs o2)], []) := by
  exact rt (xa4 ff <| aa (rfl : (0 : Int) = 0) <| ud ff <| aa tt <| aa hu <| aa (Fh c.n0.store.disk (IntKind.wrap .i64 (if 1000 < Evt.n e then 1000 else Evt.n e)) (k + 12)) <| aa (hA k) <| aa (Eq.refl (List.length (List.map Ou.cs o2))) <| trivial) (gs := xg4 gF <| xc (G.at 0) <| gu gF <| xg2 gT <| [G.call [Res.agg (Dk.cs (Bm c.n0.store.disk (IntKind.wrap .i64 (if 1000 < Evt.n e then 1000 else Evt.n e))))] [], G.call [Res.agg (Cl.cs c2), Res.top 5 (List.map Ou.cs o2)] []]) rfl
theorem xO (c : Cl) (e : Evt) (c2 : Cl) (o2 : List Ou) (hu : Nd.up c.n0 = false) (hA : ∀ k, ak PP GL XX HH NN (k + 13) 69 [A.agg (Cl.cs c), A.c (ii 0), A.agg (Nd.cs c.n0), A.c (C.slice 5 [])] [] = some ([Res.agg (Cl.cs c2), Res.top 5 (List.map Ou.cs o2)], [])) (k : Nat) : ak PP GL XX HH NN (k + 14) 42 [A.agg (Cl.cs c), A.agg [ii 12, ii 0, ii e.id, ii e.block, st e.data, u e.n, C.slice 1 (List.map eB e.keeps)]] [] = some ([Res.agg (Cl.cs c2), Res.top 5 (List.map Ou.cs o2)], []) := by
  exact rt (xa4 ff <| aa (rfl : (0 : Int) = 0) <| ud ff <| aa tt <| aa hu <| aa (hA k) <| aa (Eq.refl (List.length (List.map Ou.cs o2))) <| trivial) (gs := xg4 gF <| xc (G.at 0) <| gu gF <| [gT, gF, G.call [Res.agg (Cl.cs c2), Res.top 5 (List.map Ou.cs o2)] []]) rfl
theorem x9 (c : Cl) (e : Evt) (hr : c.n0.draws.length ≤ 1000000) (hd : decide ((↑(c.n0.draws.length) : Int) < 1000) = true) (k : Nat) : ak PP GL XX HH NN (k + 14) 42 [A.agg (Cl.cs c), A.agg [ii 13, ii 0, ii e.id, ii e.block, st e.data, u e.n, C.slice 1 (List.map eB e.keeps)]] [] = some ([Res.agg (Cl.cs ({ c with n0 := drawn c.n0 e.n } : Cl)), Res.top 5 []], []) := by
  exact rt (xa4 ff <| aa (rfl : (0 : Int) = 0) <| m6 ff <| aa tt <| aa (au (eU) c.n0.draws) <| aa hd <| aa (bP (List.map eU c.n0.draws)) <| aa (aV (eU) (l := Nd.draws c.n0) (n := 1073741824) (by omega)) <| aa (bL (eU) c.n0.draws ([Evt.n e])) <| aa (aV (eU) (l := Nd.draws c.n0 ++ [Evt.n e]) (n := 1073741824) (by simp only [vr]; omega)) <| aa (Eq.refl (List.length (List.map eU c.n0.draws))) <| aa (rfl : (0 : Int) = 0) <| trivial) (gs := xg4 gF <| xc (G.at 0) <| bv gF <| [gT, G.len (c.n0.draws.length), gT, G.app (List.map eU c.n0.draws), G.app (List.map eU (Nd.draws c.n0 ++ [Evt.n e])), G.at 0]) rfl
theorem yo (c : Cl) (e : Evt) (hd : decide ((↑(c.n0.draws.length) : Int) < 1000) = false) (k : Nat) : ak PP GL XX HH NN (k + 14) 42 [A.agg (Cl.cs c), A.agg [ii 13, ii 0, ii e.id, ii e.block, st e.data, u e.n, C.slice 1 (List.map eB e.keeps)]] [] = some ([Res.agg (Cl.cs c), Res.top 5 []], []) := by
  exact rt (xa4 ff <| aa (rfl : (0 : Int) = 0) <| m6 ff <| aa tt <| aa (au (eU) c.n0.draws) <| aa hd <| aa (rfl : (0 : Int) = 0) <| trivial) (gs := xg4 gF <| xc (G.at 0) <| bv gF <| [gT, G.len (c.n0.draws.length), gF, G.at 0]) rfl
def oV (c c2 : Cl) (o2 : List Ou) (f : Int) : Cl × List Ou := bif f == 0 then (c, []) else (c2, o2)
theorem yy (c : Cl) (e : Evt) (c2 : Cl) (o2 : List Ou) (x : Nd) (o : List Ou) (p : Pk) (f : Int) (hR : ∀ k, ak PP GL XX HH NN (k + 13) 68 [A.c (st e.data), A.c (u c.link.ses)] [] = some ([Res.agg (Pk.cs p), Res.c (ii f)], [])) (hP : ∀ k, ak PP GL XX HH NN (k + 13) 63 [A.agg (Nd.cs c.n0), A.c (st e.data)] [] = some ([Res.agg (Nd.cs x), Res.top 5 (List.map Ou.cs o)], [])) (hA : ∀ k, ak PP GL XX HH NN (k + 13) 69 [A.agg (Cl.cs c), A.c (ii 0), A.agg (Nd.cs x), A.c (C.slice 5 (List.map Ou.cs o))] [] = some ([Res.agg (Cl.cs c2), Res.top 5 (List.map Ou.cs o2)], [])) (k : Nat) : ak PP GL XX HH NN (k + 14) 42 [A.agg (Cl.cs c), A.agg [ii 14, ii 0, ii e.id, ii e.block, st e.data, u e.n, C.slice 1 (List.map eB e.keeps)]] [] = some ([Res.agg (Cl.cs (oV c c2 o2 f).1), Res.top 5 (List.map Ou.cs (oV c c2 o2 f).2)], []) := by
  rcases bft (f == 0) with z0 | z0
  · exact rt (xa4 ff <| aa (rfl : (0 : Int) = 0) <| m6 ff <| aa ff <| aa tt <| aa (hR k) <| aa z0 <| trivial) (gs := xg4 gF <| xc (G.at 0) <| bv gF <| [gF, gT, G.call [Res.agg (Pk.cs p), Res.c (ii f)] [], gT]) (by simp only [oV, z0, vq] <;> rfl)
  · exact rt (xa4 ff <| aa (rfl : (0 : Int) = 0) <| m6 ff <| aa ff <| aa tt <| aa (hR k) <| aa z0 <| aa (hP k) <| aa (hA k) <| aa (Eq.refl (List.length (List.map Ou.cs o2))) <| trivial) (gs := xg4 gF <| xc (G.at 0) <| bv gF <| [gF, gT, G.call [Res.agg (Pk.cs p), Res.c (ii f)] [], gF, G.call [Res.agg (Nd.cs x), Res.top 5 (List.map Ou.cs o)] [], G.call [Res.agg (Cl.cs c2), Res.top 5 (List.map Ou.cs o2)] []]) (by simp only [oV, z0, vq] <;> rfl)
theorem xS (c : Cl) (e : Evt) (h1 : (Evt.kind e == 1) = false) (h2 : (Evt.kind e == 2) = false) (h3 : (Evt.kind e == 3) = false) (h4 : (Evt.kind e == 4) = false) (h5 : (Evt.kind e == 5) = false) (h6 : (Evt.kind e == 6) = false) (h7 : (Evt.kind e == 7) = false) (h8 : (Evt.kind e == 8) = false) (h9 : (Evt.kind e == 9) = false) (h10 : (Evt.kind e == 10) = false) (h11 : (Evt.kind e == 11) = false) (h12 : (Evt.kind e == 12) = false) (h13 : (Evt.kind e == 13) = false) (h14 : (Evt.kind e == 14) = false) (k : Nat) : ak PP GL XX HH NN (k + 14) 42 [A.agg (Cl.cs c), A.agg [ii e.kind, ii 0, ii e.id, ii e.block, st e.data, u e.n, C.slice 1 (List.map eB e.keeps)]] [] = some ([Res.agg (Cl.cs c), Res.top 5 []], []) := by
  exact rt (xa4 ff <| aa (rfl : (0 : Int) = 0) <| aa h1 <| aa h2 <| aa h3 <| aa h4 <| aa h5 <| aa h6 <| aa h7 <| aa h8 <| aa h9 <| aa h10 <| aa h11 <| aa h12 <| aa h13 <| aa h14 <| trivial) (gs := xg4 gF <| xc (G.at 0) <| bv gF <| xg2 gF <| []) rfl
theorem uj (c : Cl) (e : Evt) (c2 : Cl) (o2 : List Ou) (x : Nd) (o : List Ou) (hP : ∀ k, ak PP GL XX HH NN (k + 13) 55 [A.agg (Nd.cs c.n1), A.c (ii e.id)] [] = some ([Res.agg (Nd.cs x), Res.top 5 (List.map Ou.cs o)], [])) (hA : ∀ k, ak PP GL XX HH NN (k + 13) 69 [A.agg (Cl.cs c), A.c (ii 1), A.agg (Nd.cs x), A.c (C.slice 5 (List.map Ou.cs o))] [] = some ([Res.agg (Cl.cs c2), Res.top 5 (List.map Ou.cs o2)], [])) (k : Nat) : ak PP GL XX HH NN (k + 14) 42 [A.agg (Cl.cs c), A.agg [ii 1, ii 1, ii e.id, ii e.block, st e.data, u e.n, C.slice 1 (List.map eB e.keeps)]] [] = some ([Res.agg (Cl.cs c2), Res.top 5 (List.map Ou.cs o2)], []) := by
  exact rt (xa3 tt <| aa ff <| aa (rfl : (1 : Int) = 1) <| aa tt <| aa (hP k) <| aa (hA k) <| aa (Eq.refl (List.length (List.map Ou.cs o2))) <| trivial) (gs := xg3 gT <| [gF, G.at 1, gT, G.call [Res.agg (Nd.cs x), Res.top 5 (List.map Ou.cs o)] [], G.call [Res.agg (Cl.cs c2), Res.top 5 (List.map Ou.cs o2)] []]) rfl
theorem wQ (c : Cl) (e : Evt) (c2 : Cl) (o2 : List Ou) (x : Nd) (o : List Ou) (hP : ∀ k, ak PP GL XX HH NN (k + 13) 56 [A.agg (Nd.cs c.n1), A.c (ii e.id)] [] = some ([Res.agg (Nd.cs x), Res.top 5 (List.map Ou.cs o)], [])) (hA : ∀ k, ak PP GL XX HH NN (k + 13) 69 [A.agg (Cl.cs c), A.c (ii 1), A.agg (Nd.cs x), A.c (C.slice 5 (List.map Ou.cs o))] [] = some ([Res.agg (Cl.cs c2), Res.top 5 (List.map Ou.cs o2)], [])) (k : Nat) : ak PP GL XX HH NN (k + 14) 42 [A.agg (Cl.cs c), A.agg [ii 2, ii 1, ii e.id, ii e.block, st e.data, u e.n, C.slice 1 (List.map eB e.keeps)]] [] = some ([Res.agg (Cl.cs c2), Res.top 5 (List.map Ou.cs o2)], []) := by
  exact rt (xa3 tt <| aa ff <| aa (rfl : (1 : Int) = 1) <| aa ff <| aa tt <| aa (hP k) <| aa (hA k) <| aa (Eq.refl (List.length (List.map Ou.cs o2))) <| trivial) (gs := xg3 gT <| [gF, G.at 1, gF, gT, G.call [Res.agg (Nd.cs x), Res.top 5 (List.map Ou.cs o)] [], G.call [Res.agg (Cl.cs c2), Res.top 5 (List.map Ou.cs o2)] []]) rfl
theorem uy (c : Cl) (e : Evt) (c2 : Cl) (o2 : List Ou) (x : Nd) (o : List Ou) (hP : ∀ k, ak PP GL XX HH NN (k + 13) 57 [A.agg (Nd.cs c.n1), A.c (ii e.id)] [] = some ([Res.agg (Nd.cs x), Res.top 5 (List.map Ou.cs o)], [])) (hA : ∀ k, ak PP GL XX HH NN (k + 13) 69 [A.agg (Cl.cs c), A.c (ii 1), A.agg (Nd.cs x), A.c (C.slice 5 (List.map Ou.cs o))] [] = some ([Res.agg (Cl.cs c2), Res.top 5 (List.map Ou.cs o2)], [])) (k : Nat) : ak PP GL XX HH NN (k + 14) 42 [A.agg (Cl.cs c), A.agg [ii 3, ii 1, ii e.id, ii e.block, st e.data, u e.n, C.slice 1 (List.map eB e.keeps)]] [] = some ([Res.agg (Cl.cs c2), Res.top 5 (List.map Ou.cs o2)], []) := by
  exact rt (xa3 tt <| aa ff <| aa (rfl : (1 : Int) = 1) <| xa2 ff <| aa tt <| aa (hP k) <| aa (hA k) <| aa (Eq.refl (List.length (List.map Ou.cs o2))) <| trivial) (gs := xg3 gT <| xc gF <| xc (G.at 1) <| xg2 gF <| [gT, G.call [Res.agg (Nd.cs x), Res.top 5 (List.map Ou.cs o)] [], G.call [Res.agg (Cl.cs c2), Res.top 5 (List.map Ou.cs o2)] []]) rfl
theorem AJ (c : Cl) (e : Evt) (c2 : Cl) (o2 : List Ou) (x : Nd) (o : List Ou) (hP : ∀ k, ak PP GL XX HH NN (k + 13) 58 [A.agg (Nd.cs c.n1), A.c (ii e.id), A.c (ii e.block)] [] = some ([Res.agg (Nd.cs x), Res.top 5 (List.map Ou.cs o)], [])) (hA : ∀ k, ak PP GL XX HH NN (k + 13) 69 [A.agg (Cl.cs c), A.c (ii 1), A.agg (Nd.cs x), A.c (C.slice 5 (List.map Ou.cs o))] [] = some ([Res.agg (Cl.cs c2), Res.top 5 (List.map Ou.cs o2)], [])) (k : Nat) : ak PP GL XX HH NN (k + 14) 42 [A.agg (Cl.cs c), A.agg [ii 4, ii 1, ii e.id, ii e.block, st e.data, u e.n, C.slice 1 (List.map eB e.keeps)]] [] = some ([Res.agg (Cl.cs c2), Res.top 5 (List.map Ou.cs o2)], []) := by
  exact rt (xa3 tt <| aa ff <| aa (rfl : (1 : Int) = 1) <| xa3 ff <| aa tt <| aa (hP k) <| aa (hA k) <| aa (Eq.refl (List.length (List.map Ou.cs o2))) <| trivial) (gs := xg3 gT <| xc gF <| xc (G.at 1) <| xg3 gF <| [gT, G.call [Res.agg (Nd.cs x), Res.top 5 (List.map Ou.cs o)] [], G.call [Res.agg (Cl.cs c2), Res.top 5 (List.map Ou.cs o2)] []]) rfl
theorem yD (c : Cl) (e : Evt) (c2 : Cl) (o2 : List Ou) (x : Nd) (o : List Ou) (hP : ∀ k, ak PP GL XX HH NN (k + 13) 59 [A.agg (Nd.cs c.n1), A.c (ii e.id), A.c (ii e.block), A.c (st e.data)] [] = some ([Res.agg (Nd.cs x), Res.top 5 (List.map Ou.cs o)], [])) (hA : ∀ k, ak PP GL XX HH NN (k + 13) 69 [A.agg (Cl.cs c), A.c (ii 1), A.agg (Nd.cs x), A.c (C.slice 5 (List.map Ou.cs o))] [] = some ([Res.agg (Cl.cs c2), Res.top 5 (List.map Ou.cs o2)], [])) (k : Nat) : ak PP GL XX HH NN (k + 14) 42 [A.agg (Cl.cs c), A.agg [ii 5, ii 1, ii e.id, ii e.block, st e.data, u e.n, C.slice 1 (List.map eB e.keeps)]] [] = some ([Res.agg (Cl.cs c2), Res.top 5 (List.map Ou.cs o2)], []) := by
  exact rt (xa3 tt <| aa ff <| aa (rfl : (1 : Int) = 1) <| xa4 ff <| aa tt <| aa (hP k) <| aa (hA k) <| aa (Eq.refl (List.length (List.map Ou.cs o2))) <| trivial) (gs := xg3 gT <| xc gF <| xc (G.at 1) <| xg4 gF <| [gT, G.call [Res.agg (Nd.cs x), Res.top 5 (List.map Ou.cs o)] [], G.call [Res.agg (Cl.cs c2), Res.top 5 (List.map Ou.cs o2)] []]) rfl
theorem tq (c : Cl) (e : Evt) (c2 : Cl) (o2 : List Ou) (hC : ∀ k, ak PP GL XX HH NN (k + 13) 60 [A.agg (Cl.cs c), A.c (ii 1)] [] = some ([Res.agg (Cl.cs c2), Res.top 5 (List.map Ou.cs o2)], [])) (k : Nat) : ak PP GL XX HH NN (k + 14) 42 [A.agg (Cl.cs c), A.agg [ii 6, ii 1, ii e.id, ii e.block, st e.data, u e.n, C.slice 1 (List.map eB e.keeps)]] [] = some ([Res.agg (Cl.cs c2), Res.top 5 (List.map Ou.cs o2)], []) := by
  exact rt (xa3 tt <| aa ff <| aa (rfl : (1 : Int) = 1) <| xa5 ff <| aa tt <| aa (hC k) <| aa (Eq.refl (List.length (List.map Ou.cs o2))) <| trivial) (gs := xg3 gT <| xc gF <| xc (G.at 1) <| xg5 gF <| [gT, G.call [Res.agg (Cl.cs c2), Res.top 5 (List.map Ou.cs o2)] []]) rfl
def p9 (c c2 : Cl) (o2 : List Ou) : Cl × List Ou := bif !c.link.up then (c, []) else (c2, o2)
theorem oR (c : Cl) (e : Evt) (c2 : Cl) (o2 : List Ou) (hE : ∀ k, ak PP GL XX HH NN (k + 13) 61 [A.agg (Cl.cs ({ c with w1 := false } : Cl)), A.nil] [] = some ([Res.agg (Cl.cs c2), Res.top 5 (List.map Ou.cs o2)], [])) (k : Nat) : ak PP GL XX HH NN (k + 14) 42 [A.agg (Cl.cs c), A.agg [ii 7, ii 1, ii e.id, ii e.block, st e.data, u e.n, C.slice 1 (List.map eB e.keeps)]] [] = some ([Res.agg (Cl.cs (p9 ({ c with w1 := false } : Cl) c2 o2).1), Res.top 5 (List.map Ou.cs (p9 ({ c with w1 := false } : Cl) c2 o2).2)], []) := by
  rcases bft c.link.up with z0 | z0
  · exact rt (xa3 tt <| aa ff <| aa (rfl : (1 : Int) = 1) <| xa6 ff <| xa3 tt <| aa (rfl : (1 : Int) = 1) <| aa (cn z0) <| aa (hE k) <| aa (Eq.refl (List.length (List.map Ou.cs o2))) <| trivial) (gs := xg3 gT <| xc gF <| xc (G.at 1) <| xg6 gF <| xg3 gT <| [G.at 1, gF, G.call [Res.agg (Cl.cs c2), Res.top 5 (List.map Ou.cs o2)] []]) (by simp only [p9, z0, vq] <;> rfl)
  · exact rt (xa3 tt <| aa ff <| aa (rfl : (1 : Int) = 1) <| xa6 ff <| xa3 tt <| aa (rfl : (1 : Int) = 1) <| aa (cn z0) <| trivial) (gs := xg3 gT <| xc gF <| xc (G.at 1) <| xg6 gF <| xg3 gT <| [G.at 1, gT]) (by simp only [p9, z0, vq] <;> rfl)
theorem zX (c : Cl) (e : Evt) (c2 : Cl) (o2 : List Ou) (hE : ∀ k, ak PP GL XX HH NN (k + 13) 61 [A.agg (Cl.cs c), A.nil] [] = some ([Res.agg (Cl.cs c2), Res.top 5 (List.map Ou.cs o2)], [])) (k : Nat) : ak PP GL XX HH NN (k + 14) 42 [A.agg (Cl.cs c), A.agg [ii 8, ii 1, ii e.id, ii e.block, st e.data, u e.n, C.slice 1 (List.map eB e.keeps)]] [] = some ([Res.agg (Cl.cs (p9 c c2 o2).1), Res.top 5 (List.map Ou.cs (p9 c c2 o2).2)], []) := by
  rcases bft c.link.up with z0 | z0
  · exact rt (xa3 tt <| aa ff <| aa (rfl : (1 : Int) = 1) <| xa7 ff <| aa tt <| aa ff <| aa (cn z0) <| aa (hE k) <| aa (Eq.refl (List.length (List.map Ou.cs o2))) <| trivial) (gs := xg3 gT <| xc gF <| xc (G.at 1) <| xg7 gF <| xc gT <| xg2 gF <| [G.call [Res.agg (Cl.cs c2), Res.top 5 (List.map Ou.cs o2)] []]) (by simp only [p9, z0, vq] <;> rfl)
  · exact rt (xa3 tt <| aa ff <| aa (rfl : (1 : Int) = 1) <| xa7 ff <| aa tt <| aa ff <| aa (cn z0) <| trivial) (gs := xg3 gT <| xc gF <| xc (G.at 1) <| xg7 gF <| [gT, gF, gT]) (by simp only [p9, z0, vq] <;> rfl)
def rS (c c2 : Cl) (o2 : List Ou) (q : Bool) : Cl × List Ou := bif !q then (c, []) else (c2, o2)
theorem tu (c : Cl) (e : Evt) (c2 : Cl) (o2 : List Ou) (x : Nd) (o : List Ou) (b : ByteArray) (l : Lk) (q : Bool) (hT : ∀ k, ak PP GL XX HH NN (k + 13) 62 [A.agg (Lk.cs c.link), A.c (ii 1)] [] = some ([Res.c (st b), Res.agg (Lk.cs l), Res.c (bo q)], [])) (hP : ∀ k, ak PP GL XX HH NN (k + 13) 63 [A.agg (Nd.cs c.n1), A.c (st b)] [] = some ([Res.agg (Nd.cs x), Res.top 5 (List.map Ou.cs o)], [])) (hA : ∀ k, ak PP GL XX HH NN (k + 13) 69 [A.agg (Cl.cs ({ c with link := l } : Cl)), A.c (ii 1), A.agg (Nd.cs x), A.c (C.slice 5 (List.map Ou.cs o))] [] = some ([Res.agg (Cl.cs c2), Res.top 5 (List.map Ou.cs o2)], [])) (k : Nat) : ak PP GL XX HH NN (k + 14) 42 [A.agg (Cl.cs c), A.agg [ii 9, ii 1, ii e.id, ii e.block, st e.data, u e.n, C.slice 1 (List.map eB e.keeps)]] [] = some ([Res.agg (Cl.cs (rS c c2 o2 q).1), Res.top 5 (List.map Ou.cs (rS c c2 o2 q).2)], []) := by
  rcases bft (q) with z0 | z0
  · exact rt (xa3 tt <| aa ff <| aa (rfl : (1 : Int) = 1) <| xa8 ff <| aa tt <| aa (hT k) <| aa (cn z0) <| aa (hP k) <| aa (hA k) <| aa (Eq.refl (List.length (List.map Ou.cs o2))) <| trivial) (gs := xg3 gT <| xc gF <| xc (G.at 1) <| xg8 gF <| [gT, G.call [Res.c (st b), Res.agg (Lk.cs l), Res.c (bo q)] [], gF, G.call [Res.agg (Nd.cs x), Res.top 5 (List.map Ou.cs o)] [], G.call [Res.agg (Cl.cs c2), Res.top 5 (List.map Ou.cs o2)] []]) (by simp only [rS, z0, vq] <;> rfl)
  · exact rt (xa3 tt <| aa ff <| aa (rfl : (1 : Int) = 1) <| xa8 ff <| aa tt <| aa (hT k) <| aa (cn z0) <| trivial) (gs := xg3 gT <| xc gF <| xc (G.at 1) <| xg8 gF <| [gT, G.call [Res.c (st b), Res.agg (Lk.cs l), Res.c (bo q)] [], gT]) (by simp only [rS, z0, vq] <;> rfl)
def oD (c c2 : Cl) (o2 : List Ou) : Cl × List Ou := bif !c.n1.up then (c, []) else (c2, o2)
theorem yI (c : Cl) (e : Evt) (c2 : Cl) (o2 : List Ou) (hA : ∀ k, ak PP GL XX HH NN (k + 13) 69 [A.agg (Cl.cs c), A.c (ii 1), A.agg (Nd.cs (dv c.n1)), A.c (C.slice 5 [])] [] = some ([Res.agg (Cl.cs c2), Res.top 5 (List.map Ou.cs o2)], [])) (k : Nat) : ak PP GL XX HH NN (k + 14) 42 [A.agg (Cl.cs c), A.agg [ii 10, ii 1, ii e.id, ii e.block, st e.data, u e.n, C.slice 1 (List.map eB e.keeps)]] [] = some ([Res.agg (Cl.cs (oD c c2 o2).1), Res.top 5 (List.map Ou.cs (oD c c2 o2).2)], []) := by
  rcases bft c.n1.up with z0 | z0
  · exact rt (xa3 tt <| aa ff <| aa (rfl : (1 : Int) = 1) <| xa9 ff <| aa tt <| aa (cn z0) <| aa (tl c.n1 (k + 11)) <| aa (hA k) <| aa (Eq.refl (List.length (List.map Ou.cs o2))) <| trivial) (gs := xg3 gT <| xc gF <| xc (G.at 1) <| xg9 gF <| [gT, gF, G.call [Res.agg (Nd.cs (dv c.n1))] [], G.call [Res.agg (Cl.cs c2), Res.top 5 (List.map Ou.cs o2)] []]) (by simp only [oD, z0, vq] <;> rfl)
  · exact rt (xa3 tt <| aa ff <| aa (rfl : (1 : Int) = 1) <| xa9 ff <| aa tt <| aa (cn z0) <| trivial) (gs := xg3 gT <| xc gF <| xc (G.at 1) <| xg9 gF <| xg2 gT <| []) (by simp only [oD, z0, vq] <;> rfl)
theorem um (c : Cl) (e : Evt) (x : Nd) (f : Int) (hP : ∀ k, ak PP GL XX HH NN (k + 13) 65 [A.agg (Nd.cs c.n1), A.c (C.slice 1 (List.map eB e.keeps))] [] = some ([Res.agg (Nd.cs x), Res.c (ii f)], [])) (k : Nat) : ak PP GL XX HH NN (k + 14) 42 [A.agg (Cl.cs c), A.agg [ii 11, ii 1, ii e.id, ii e.block, st e.data, u e.n, C.slice 1 (List.map eB e.keeps)]] [] = some ([Res.agg (Cl.cs ({ c with n1 := x } : Cl)), Res.top 5 (List.map Ou.cs [ag x e.id f ⟨#[]⟩])], []) := by
  exact rt (xa3 tt <| aa ff <| aa (rfl : (1 : Int) = 1) <| Co ff <| aa tt <| aa (hP k) <| aa (rfl : (1 : Int) = 1) <| aa (bV x e.id f ⟨#[]⟩ (k + 12)) <| trivial) (gs := xg3 gT <| xc gF <| xc (G.at 1) <| mC gF <| [gT, G.call [Res.agg (Nd.cs x), Res.c (ii f)] [], G.at 1, G.call [Res.agg (Ou.cs (ag x e.id f ⟨#[]⟩))] []]) rfl
theorem xw (c : Cl) (e : Evt) (c2 : Cl) (o2 : List Ou) (hu : Nd.up c.n1 = true) (hA : ∀ k, ak PP GL XX HH NN (k + 13) 69 [A.agg (Cl.cs c), A.c (ii 1), A.agg (Nd.cs (pt c.n1 e.n)), A.c (C.slice 5 [])] [] = some ([Res.agg (Cl.cs c2), Res.top 5 (List.map Ou.cs o2)], [])) (k : Nat) : ak PP GL XX HH NN (k + 14) 42 [A.agg (Cl.cs c), A.agg [ii 12, ii 1, ii e.id, ii e.block, st e.data, u e.n, C.slice 1 (List.map eB e.keeps)]] [] = some ([Res.agg (Cl.cs c2), Res.top 5 (List.map Ou.cs o2)], []) := by
  exact rt (xa3 tt <| aa ff <| aa (rfl : (1 : Int) = 1) <| ud ff <| aa tt <| aa hu <| aa (Fh c.n1.store.disk (IntKind.wrap .i64 (if 1000 < Evt.n e then 1000 else Evt.n e)) (k + 12)) <| aa (hA k) <| aa (Eq.refl (List.length (List.map Ou.cs o2))) <| trivial) (gs := xg3 gT <| xc gF <| xc (G.at 1) <| gu gF <| xg2 gT <| [G.call [Res.agg (Dk.cs (Bm c.n1.store.disk (IntKind.wrap .i64 (if 1000 < Evt.n e then 1000 else Evt.n e))))] [], G.call [Res.agg (Cl.cs c2), Res.top 5 (List.map Ou.cs o2)] []]) rfl
theorem yc (c : Cl) (e : Evt) (c2 : Cl) (o2 : List Ou) (hu : Nd.up c.n1 = false) (hA : ∀ k, ak PP GL XX HH NN (k + 13) 69 [A.agg (Cl.cs c), A.c (ii 1), A.agg (Nd.cs c.n1), A.c (C.slice 5 [])] [] = some ([Res.agg (Cl.cs c2), Res.top 5 (List.map Ou.cs o2)], [])) (k : Nat) : ak PP GL XX HH NN (k + 14) 42 [A.agg (Cl.cs c), A.agg [ii 12, ii 1, ii e.id, ii e.block, st e.data, u e.n, C.slice 1 (List.map eB e.keeps)]] [] = some ([Res.agg (Cl.cs c2), Res.top 5 (List.map Ou.cs o2)], []) := by
  exact rt (xa3 tt <| aa ff <| aa (rfl : (1 : Int) = 1) <| ud ff <| aa tt <| aa hu <| aa (hA k) <| aa (Eq.refl (List.length (List.map Ou.cs o2))) <| trivial) (gs := xg3 gT <| xc gF <| xc (G.at 1) <| gu gF <| [gT, gF, G.call [Res.agg (Cl.cs c2), Res.top 5 (List.map Ou.cs o2)] []]) rfl
theorem yO (c : Cl) (e : Evt) (hr : c.n1.draws.length ≤ 1000000) (hd : decide ((↑(c.n1.draws.length) : Int) < 1000) = true) (k : Nat) : ak PP GL XX HH NN (k + 14) 42 [A.agg (Cl.cs c), A.agg [ii 13, ii 1, ii e.id, ii e.block, st e.data, u e.n, C.slice 1 (List.map eB e.keeps)]] [] = some ([Res.agg (Cl.cs ({ c with n1 := drawn c.n1 e.n } : Cl)), Res.top 5 []], []) := by
  exact rt (xa3 tt <| aa ff <| aa (rfl : (1 : Int) = 1) <| m6 ff <| aa tt <| aa (au (eU) c.n1.draws) <| aa hd <| aa (bP (List.map eU c.n1.draws)) <| aa (aV (eU) (l := Nd.draws c.n1) (n := 1073741824) (by omega)) <| aa (bL (eU) c.n1.draws ([Evt.n e])) <| aa (aV (eU) (l := Nd.draws c.n1 ++ [Evt.n e]) (n := 1073741824) (by simp only [vr]; omega)) <| aa (Eq.refl (List.length (List.map eU c.n1.draws))) <| aa (rfl : (1 : Int) = 1) <| trivial) (gs := xg3 gT <| xc gF <| xc (G.at 1) <| bv gF <| [gT, G.len (c.n1.draws.length), gT, G.app (List.map eU c.n1.draws), G.app (List.map eU (Nd.draws c.n1 ++ [Evt.n e])), G.at 1]) rfl
theorem yv (c : Cl) (e : Evt) (hd : decide ((↑(c.n1.draws.length) : Int) < 1000) = false) (k : Nat) : ak PP GL XX HH NN (k + 14) 42 [A.agg (Cl.cs c), A.agg [ii 13, ii 1, ii e.id, ii e.block, st e.data, u e.n, C.slice 1 (List.map eB e.keeps)]] [] = some ([Res.agg (Cl.cs c), Res.top 5 []], []) := by
  exact rt (xa3 tt <| aa ff <| aa (rfl : (1 : Int) = 1) <| m6 ff <| aa tt <| aa (au (eU) c.n1.draws) <| aa hd <| aa (rfl : (1 : Int) = 1) <| trivial) (gs := xg3 gT <| xc gF <| xc (G.at 1) <| bv gF <| [gT, G.len (c.n1.draws.length), gF, G.at 1]) rfl
def ot (c c2 : Cl) (o2 : List Ou) (f : Int) : Cl × List Ou := bif f == 0 then (c, []) else (c2, o2)
theorem y2 (c : Cl) (e : Evt) (c2 : Cl) (o2 : List Ou) (x : Nd) (o : List Ou) (p : Pk) (f : Int) (hR : ∀ k, ak PP GL XX HH NN (k + 13) 68 [A.c (st e.data), A.c (u c.link.ses)] [] = some ([Res.agg (Pk.cs p), Res.c (ii f)], [])) (hP : ∀ k, ak PP GL XX HH NN (k + 13) 63 [A.agg (Nd.cs c.n1), A.c (st e.data)] [] = some ([Res.agg (Nd.cs x), Res.top 5 (List.map Ou.cs o)], [])) (hA : ∀ k, ak PP GL XX HH NN (k + 13) 69 [A.agg (Cl.cs c), A.c (ii 1), A.agg (Nd.cs x), A.c (C.slice 5 (List.map Ou.cs o))] [] = some ([Res.agg (Cl.cs c2), Res.top 5 (List.map Ou.cs o2)], [])) (k : Nat) : ak PP GL XX HH NN (k + 14) 42 [A.agg (Cl.cs c), A.agg [ii 14, ii 1, ii e.id, ii e.block, st e.data, u e.n, C.slice 1 (List.map eB e.keeps)]] [] = some ([Res.agg (Cl.cs (ot c c2 o2 f).1), Res.top 5 (List.map Ou.cs (ot c c2 o2 f).2)], []) := by
  rcases bft (f == 0) with z0 | z0
  · exact rt (xa3 tt <| aa ff <| aa (rfl : (1 : Int) = 1) <| m6 ff <| aa ff <| aa tt <| aa (hR k) <| aa z0 <| trivial) (gs := xg3 gT <| xc gF <| xc (G.at 1) <| bv gF <| [gF, gT, G.call [Res.agg (Pk.cs p), Res.c (ii f)] [], gT]) (by simp only [ot, z0, vq] <;> rfl)
  · exact rt (xa3 tt <| aa ff <| aa (rfl : (1 : Int) = 1) <| m6 ff <| aa ff <| aa tt <| aa (hR k) <| aa z0 <| aa (hP k) <| aa (hA k) <| aa (Eq.refl (List.length (List.map Ou.cs o2))) <| trivial) (gs := xg3 gT <| xc gF <| xc (G.at 1) <| bv gF <| [gF, gT, G.call [Res.agg (Pk.cs p), Res.c (ii f)] [], gF, G.call [Res.agg (Nd.cs x), Res.top 5 (List.map Ou.cs o)] [], G.call [Res.agg (Cl.cs c2), Res.top 5 (List.map Ou.cs o2)] []]) (by simp only [ot, z0, vq] <;> rfl)
theorem yE (c : Cl) (e : Evt) (h1 : (Evt.kind e == 1) = false) (h2 : (Evt.kind e == 2) = false) (h3 : (Evt.kind e == 3) = false) (h4 : (Evt.kind e == 4) = false) (h5 : (Evt.kind e == 5) = false) (h6 : (Evt.kind e == 6) = false) (h7 : (Evt.kind e == 7) = false) (h8 : (Evt.kind e == 8) = false) (h9 : (Evt.kind e == 9) = false) (h10 : (Evt.kind e == 10) = false) (h11 : (Evt.kind e == 11) = false) (h12 : (Evt.kind e == 12) = false) (h13 : (Evt.kind e == 13) = false) (h14 : (Evt.kind e == 14) = false) (k : Nat) : ak PP GL XX HH NN (k + 14) 42 [A.agg (Cl.cs c), A.agg [ii e.kind, ii 1, ii e.id, ii e.block, st e.data, u e.n, C.slice 1 (List.map eB e.keeps)]] [] = some ([Res.agg (Cl.cs c), Res.top 5 []], []) := by
  exact rt (xa3 tt <| aa ff <| aa (rfl : (1 : Int) = 1) <| aa h1 <| aa h2 <| aa h3 <| aa h4 <| aa h5 <| aa h6 <| aa h7 <| aa h8 <| aa h9 <| aa h10 <| aa h11 <| aa h12 <| aa h13 <| aa h14 <| trivial) (gs := xg3 gT <| xc gF <| xc (G.at 1) <| bv gF <| xg2 gF <| []) rfl
end Go.Dm
namespace Go.Dm
open Go
abbrev Rc (x : Cl × List Ou) : List Res × List (List C) := ([.agg x.1.cs, .top 5 (x.2.map Ou.cs)], [])
theorem NdB.sure {N a m : Nat} {n : Nd} (h : NdB N a m n) : n.store.disk.sure.length = N := h.1.1
theorem NdB.draws {N a m : Nat} {n : Nd} (h : NdB N a m n) : n.draws.length ≤ m := by have := h.2.2; omega
theorem NdB.mints {N a m : Nat} {n : Nd} (h : NdB N a m n) : n.mints.length ≤ m := by have := h.2.2; omega
theorem ym.cacheIn {N : Nat} {d : Dk} (h : ym N d) : rF d := fun w hw => by
  have := h.2.2 w hw
  exact ⟨this.1, by rw [h.1]; exact this.2.1⟩
theorem qq {N a m : Nat} (n : Nd) (ks : List Bool) (h : NdB N a m n) (hN : 0 < N) (hN2 : N ≤ 1000) (ha : a ≤ 870) (k : Nat) : ak PP GL XX HH NN (k + 9) 65 [.agg n.cs, .c (.slice 1 (ks.map eB))] [] = some ([.agg (cc n ks).1.cs, .c (ii (cc n ks).2)], []) := by
  have h0 := h.1.1
  have h1 := (jI n.store.disk ks).1 N h.1
  have h2 := h.2.1
  exact xU n ks (cL n.store.disk ks) (by rw [h1.1]; omega) (Nat.zero_le _) (Nat.le_trans (gm h1 0) (by decide)) (Nat.le_trans (gm h1 1) (by decide)) (fun k => Ba n.store.disk ks h.1.cacheIn (by omega) (by omega) (by omega) (k + 6)) k
theorem nA {N a m : Nat} (n : Nd) (h : NdB N a m n) (hN : 0 < N) (hN2 : N ≤ 1000) (ha : a ≤ 870) (k : Nat) : ak PP GL XX HH NN (k + 9) 65 [.agg n.cs, .nil] [] = some ([.agg (cc n []).1.cs, .c (ii (cc n []).2)], []) := by
  have h0 := h.1.1
  have h1 := (jI n.store.disk []).1 N h.1
  exact yz n (cL n.store.disk []) (by rw [h1.1]; omega) (Nat.zero_le _) (Nat.le_trans (gm h1 0) (by decide)) (Nat.le_trans (gm h1 1) (by decide)) (fun k => Ay n.store.disk (by omega) (by omega) (k + 6)) k
theorem Dr {N a m s : Nat} (c : Cl) (h : ClB N a m s c) (hN2 : N ≤ 1000) (ha : a ≤ 870) (hm : m ≤ 100000) (k : Nat) : ak PP GL XX HH NN (k + 11) 61 [.agg c.cs, .nil] [] = some (Rc (dJ c)) := by
  have a0 := h.n0.sure
  have a1 := h.n1.sure
  have b0 := h.n0.2.1
  have b1 := h.n1.2.1
  have d0 := h.n0.draws
  have d1 := h.n1.draws
  have e0 := h.n0.mints
  have e1 := h.n1.mints
  exact CV c (by omega) (by omega) (by omega) (by omega) (by omega) (by omega) (by omega) (by omega) k
theorem cT {N a m s : Nat} (c : Cl) (n : Nd) (l : List Ou) (h : ClB N a m s c) (hn : NdB N a m n) (hl : bb 3 l) (hN2 : N ≤ 1000) (ha : a ≤ 870) (hm : m ≤ 100000) (hs : s ≤ 100000) (k : Nat) : ak PP GL XX HH NN (k + 12) 69 [.agg c.cs, .c (ii 0), .agg n.cs, .c (.slice 5 (l.map Ou.cs))] [] = some (Rc (bD c 0 n l)) := by
  have a0 := hn.sure
  have a1 := h.n1.sure
  have b0 := hn.2.1
  have b1 := h.n1.2.1
  have d0 := hn.draws
  have d1 := h.n1.draws
  have e0 := hn.mints
  have e1 := h.n1.mints
  have f0 := h.link.1
  have f1 := h.link.2.1
  have g := hl.1
  have g2 := oC l
  have := Bj c n l { bf c 0 n with link := bA 0 c.link l } (cN l) (cG l) (by omega) (show n.draws.length ≤ 1000000 by omega) (show n.mints.length ≤ 1000000 by omega) (show n.store.disk.sure.length ≤ 1000000 by omega) (show n.store.disk.cache.length ≤ 880 by omega) (show c.n1.draws.length ≤ 1000000 by omega) (show c.n1.mints.length ≤ 1000000 by omega) (show c.n1.store.disk.sure.length ≤ 1000000 by omega) (show c.n1.store.disk.cache.length ≤ 880 by omega) (fun k => La0 c n l (by omega) (by omega) (by omega) k) k
  rw [pB] at this
  exact this
theorem cX {N a m s : Nat} (c : Cl) (n : Nd) (l : List Ou) (h : ClB N a m s c) (hn : NdB N a m n) (hl : bb 3 l) (hN2 : N ≤ 1000) (ha : a ≤ 870) (hm : m ≤ 100000) (hs : s ≤ 100000) (k : Nat) : ak PP GL XX HH NN (k + 12) 69 [.agg c.cs, .c (ii 1), .agg n.cs, .c (.slice 5 (l.map Ou.cs))] [] = some (Rc (bD c 1 n l)) := by
  have a0 := hn.sure
  have a1 := h.n0.sure
  have b0 := hn.2.1
  have b1 := h.n0.2.1
  have d0 := hn.draws
  have d1 := h.n0.draws
  have e0 := hn.mints
  have e1 := h.n0.mints
  have f0 := h.link.1
  have f1 := h.link.2.1
  have g := hl.1
  have g2 := oC l
  have := Ai c n l { bf c 1 n with link := bA 1 c.link l } (cN l) (cG l) (by omega) (show c.n0.draws.length ≤ 1000000 by omega) (show c.n0.mints.length ≤ 1000000 by omega) (show c.n0.store.disk.sure.length ≤ 1000000 by omega) (show c.n0.store.disk.cache.length ≤ 880 by omega) (show n.draws.length ≤ 1000000 by omega) (show n.mints.length ≤ 1000000 by omega) (show n.store.disk.sure.length ≤ 1000000 by omega) (show n.store.disk.cache.length ≤ 880 by omega) (fun k => La1 c n l (by omega) (by omega) (by omega) k) k
  rw [pB] at this
  exact this
theorem rl {N a m s : Nat} (c : Cl) (h : ClB N a m s c) (hN2 : N ≤ 1000) (ha : a ≤ 860) (hm : m ≤ 90000) (hs : s ≤ 90000) (k : Nat) : ak PP GL XX HH NN (k + 13) 60 [.agg c.cs, .c (ii 0)] [] = some (Rc (em c 0)) := by
  have h0 := rG h 0
  have h1 := oS h0
  have h2 := oN h1.1
  have l1 := h1.2.1
  have l2 := h2.2.1
  exact xf c (d6 { aS c 0 true with link := ch c.link }).1 (fY (d6 { aS c 0 true with link := ch c.link }).1).1 (d6 { aS c 0 true with link := ch c.link }).2 (fY (d6 { aS c 0 true with link := ch c.link }).1).2 (by omega) (fun k => cT { aS c 0 true with link := ch c.link } _ _ h0 (f5 h.n0 _) (fq _ _).2 hN2 (by omega) (by omega) (by omega) k) (fun k => cX _ _ _ h1.1 (f5 h1.1.n1 _) (fq _ _).2 hN2 (by omega) (by omega) (by omega) k) k
set_option maxRecDepth 100000 in
theorem CS {N a m s : Nat} (c : Cl) (h : ClB N a m s c) (hN : 0 < N) (hN2 : N ≤ 1000) (ha : a ≤ 860) (hm : m ≤ 90000) (hs : s ≤ 90000) (kind id block g : Int) (data : ByteArray) (keeps : List Bool) (hd : data.size ≤ 300) (k : Nat) : ak PP GL XX HH NN (k + 14) 42 [.agg c.cs, .agg (Evt.mk kind 0 id block data g keeps).cs] [] = some (Rc (gQ c ⟨kind, 0, id, block, data, g, keeps⟩ 0 c.n0)) := by
  have hn := h.n0
  have h3 := h.le (show a ≤ a + 3 by omega) (Nat.le_refl m) (Nat.le_refl s)
  have a0 := hn.sure
  have b0 := hn.2.1
  have d0 := hn.draws
  have e0 := hn.mints
  by_cases k1 : kind = 1
  · subst k1
    have hr := iO c.n0 id
    exact ua c ⟨1, 0, id, block, data, g, keeps⟩ _ _ _ _ (fun k => pj c.n0 id (by omega) (by omega) (k + 3)) (fun k => cT c _ _ h3 (hn.nw hr.1) hr.2 hN2 (by omega) (by omega) (by omega) (k + 1)) k
  by_cases k2 : kind = 2
  · subst k2
    have hr := km c.n0 id
    exact vg c ⟨2, 0, id, block, data, g, keeps⟩ _ _ _ _ (fun k => rY c.n0 id (by omega) (by omega) (k + 3)) (fun k => cT c _ _ h3 (hn.nw hr.1) hr.2 hN2 (by omega) (by omega) (by omega) (k + 1)) k
  by_cases k3 : kind = 3
  · subst k3
    have hr := i1 c.n0 id
    exact ur c ⟨3, 0, id, block, data, g, keeps⟩ _ _ _ _ (fun k => qd c.n0 id (by omega) (by omega) (k + 3)) (fun k => cT c _ _ h3 (hn.nw hr.1) hr.2 hN2 (by omega) (by omega) (by omega) (k + 1)) k
  by_cases k4 : kind = 4
  · subst k4
    have hr := lR c.n0 id block
    exact Bk c ⟨4, 0, id, block, data, g, keeps⟩ _ _ _ _ (fun k => w5 c.n0 id block (by omega) (k + 7)) (fun k => cT c _ _ h3 (hn.nw hr.1) hr.2 hN2 (by omega) (by omega) (by omega) (k + 1)) k
  by_cases k5 : kind = 5
  · subst k5
    have hr := mp c.n0 id block data
    exact yU c ⟨5, 0, id, block, data, g, keeps⟩ _ _ _ _ (fun k => wY c.n0 id block data (by omega) (by omega) (by omega) (by omega) (by omega) (k + 3)) (fun k => cT c _ _ h3 (hn.nw hr.1) hr.2 hN2 (by omega) (by omega) (by omega) (k + 1)) k
  by_cases k6 : kind = 6
  · subst k6
    exact uw c ⟨6, 0, id, block, data, g, keeps⟩ _ _ (fun k => rl c h hN2 ha hm hs k) k
  by_cases k7 : kind = 7
  · subst k7
    exact oB c ⟨7, 0, id, block, data, g, keeps⟩ _ _ (fun k => Dr (aS c 0 false) (f8 h 0 false) hN2 (by omega) (by omega) (k + 2)) k
  by_cases k8 : kind = 8
  · subst k8
    exact Ab c ⟨8, 0, id, block, data, g, keeps⟩ _ _ (fun k => Dr c h hN2 (by omega) (by omega) (k + 2)) k
  by_cases k9 : kind = 9
  · subst k9
    have ht := rM h.link 0
    have f0 := h.link.1
    have f1 := h.link.2.1
    have hr := ed c.n0 (df c.link 0).1
    exact uu c ⟨9, 0, id, block, data, g, keeps⟩ _ _ _ _ _ _ _ (fun k => xe c.link 0 (by omega) (by omega) (k + 11)) (fun k => jK c.n0 _ (Nat.le_trans ht.2 (by decide)) (by omega) (by omega) k) (fun k => cT { c with link := (df c.link 0).2.1 } _ _ ⟨h3.n0, h3.n1, ht.1⟩ (hn.nw hr.1) hr.2 hN2 (by omega) (by omega) (by omega) (k + 1)) k
  by_cases k10 : kind = 10
  · subst k10
    exact yr c ⟨10, 0, id, block, data, g, keeps⟩ _ _ (fun k => cT c _ [] h3 (hn.nw (Nw.down (a := 3) (Nw.refl _ _))) (bb.nil _) hN2 (by omega) (by omega) (by omega) (k + 1)) k
  by_cases k11 : kind = 11
  · subst k11
    exact tw c ⟨11, 0, id, block, data, g, keeps⟩ _ _ (fun k => qq c.n0 keeps hn hN hN2 (by omega) (k + 4)) k
  by_cases k12 : kind = 12
  · subst k12
    cases hu : c.n0.up with
    | true =>
      have := yB c ⟨12, 0, id, block, data, g, keeps⟩ _ _ hu (fun k => cT c (pt c.n0 g) [] h3 (hn.nw (b := 3) ⟨(vU _ _).le (by omega), Nat.le_refl _, rfl⟩) (bb.nil _) hN2 (by omega) (by omega) (by omega) (k + 1)) k
      have e : dP c.n0 g = pt c.n0 g := by simp only [dP, pt, hu, cond_true]
      show _ = some (Rc (bD c 0 (dP c.n0 g) []))
      rw [e]
      exact this
    | false =>
      have := xO c ⟨12, 0, id, block, data, g, keeps⟩ _ _ hu (fun k => cT c c.n0 [] h3 (hn.nw (b := 3) (Nw.refl _ _)) (bb.nil _) hN2 (by omega) (by omega) (by omega) (k + 1)) k
      have e : dP c.n0 g = c.n0 := by unfold dP; rw [hu]; rfl
      show _ = some (Rc (bD c 0 (dP c.n0 g) []))
      rw [e]
      exact this
  by_cases k13 : kind = 13
  · subst k13
    show _ = some (Rc (bf c 0 (dd c.n0 g), []))
    cases hq : decide ((c.n0.draws.length : Int) < 1000) with
    | true =>
      have e : bf c 0 (dd c.n0 g) = Cl.mk (drawn c.n0 g) c.n1 c.link c.w0 c.w1 := by
        have e1 : dd c.n0 g = drawn c.n0 g := by unfold dd; rw [hq]; rfl
        rw [e1]; rfl
      rw [e]
      exact x9 c ⟨13, 0, id, block, data, g, keeps⟩ (by omega) hq k
    | false =>
      have e : bf c 0 (dd c.n0 g) = c := by
        have e1 : dd c.n0 g = c.n0 := by unfold dd; rw [hq]; rfl
        rw [e1]; rfl
      rw [e]
      exact yo c ⟨13, 0, id, block, data, g, keeps⟩ hq k
  by_cases k14 : kind = 14
  · subst k14
    have hr := ed c.n0 data
    exact yy c ⟨14, 0, id, block, data, g, keeps⟩ _ _ _ _ _ _ (fun k => cP data c.link.ses (by omega) (k + 4)) (fun k => jK c.n0 data (by omega) (by omega) (by omega) k) (fun k => cT c _ _ h3 (hn.nw hr.1) hr.2 hN2 (by omega) (by omega) (by omega) (k + 1)) k
  have hk : ∀ j : Int, kind ≠ j → (kind == j) = false := fun j hj => beq_false_of_ne hj
  have e : gQ c ⟨kind, 0, id, block, data, g, keeps⟩ 0 c.n0 = (c, []) := by
    unfold gQ
    simp only [hk _ k1, hk _ k2, hk _ k3, hk _ k4, hk _ k5, hk _ k6, hk _ k7, hk _ k8, hk _ k9, hk _ k10, hk _ k11, hk _ k12, hk _ k13, hk _ k14, cond_false]
  rw [e]
  exact xS c ⟨kind, 0, id, block, data, g, keeps⟩ (hk _ k1) (hk _ k2) (hk _ k3) (hk _ k4) (hk _ k5) (hk _ k6) (hk _ k7) (hk _ k8) (hk _ k9) (hk _ k10) (hk _ k11) (hk _ k12) (hk _ k13) (hk _ k14) k
theorem qP {N a m s : Nat} (c : Cl) (h : ClB N a m s c) (hN2 : N ≤ 1000) (ha : a ≤ 860) (hm : m ≤ 90000) (hs : s ≤ 90000) (k : Nat) : ak PP GL XX HH NN (k + 13) 60 [.agg c.cs, .c (ii 1)] [] = some (Rc (em c 1)) := by
  have h0 := rG h 1
  have h1 := oS h0
  have h2 := oN h1.1
  have l1 := h1.2.1
  have l2 := h2.2.1
  exact wn c (d6 { aS c 1 true with link := ch c.link }).1 (fY (d6 { aS c 1 true with link := ch c.link }).1).1 (d6 { aS c 1 true with link := ch c.link }).2 (fY (d6 { aS c 1 true with link := ch c.link }).1).2 (by omega) (fun k => cT { aS c 1 true with link := ch c.link } _ _ h0 (f5 h.n0 _) (fq _ _).2 hN2 (by omega) (by omega) (by omega) k) (fun k => cX _ _ _ h1.1 (f5 h1.1.n1 _) (fq _ _).2 hN2 (by omega) (by omega) (by omega) k) k
set_option maxRecDepth 100000 in
theorem CA {N a m s : Nat} (c : Cl) (h : ClB N a m s c) (hN : 0 < N) (hN2 : N ≤ 1000) (ha : a ≤ 860) (hm : m ≤ 90000) (hs : s ≤ 90000) (kind id block g : Int) (data : ByteArray) (keeps : List Bool) (hd : data.size ≤ 300) (k : Nat) : ak PP GL XX HH NN (k + 14) 42 [.agg c.cs, .agg (Evt.mk kind 1 id block data g keeps).cs] [] = some (Rc (gQ c ⟨kind, 1, id, block, data, g, keeps⟩ 1 c.n1)) := by
  have hn := h.n1
  have h3 := h.le (show a ≤ a + 3 by omega) (Nat.le_refl m) (Nat.le_refl s)
  have a0 := hn.sure
  have b0 := hn.2.1
  have d0 := hn.draws
  have e0 := hn.mints
  by_cases k1 : kind = 1
  · subst k1
    have hr := iO c.n1 id
    exact uj c ⟨1, 1, id, block, data, g, keeps⟩ _ _ _ _ (fun k => pj c.n1 id (by omega) (by omega) (k + 3)) (fun k => cX c _ _ h3 (hn.nw hr.1) hr.2 hN2 (by omega) (by omega) (by omega) (k + 1)) k
  by_cases k2 : kind = 2
  · subst k2
    have hr := km c.n1 id
    exact wQ c ⟨2, 1, id, block, data, g, keeps⟩ _ _ _ _ (fun k => rY c.n1 id (by omega) (by omega) (k + 3)) (fun k => cX c _ _ h3 (hn.nw hr.1) hr.2 hN2 (by omega) (by omega) (by omega) (k + 1)) k
  by_cases k3 : kind = 3
  · subst k3
    have hr := i1 c.n1 id
    exact uy c ⟨3, 1, id, block, data, g, keeps⟩ _ _ _ _ (fun k => qd c.n1 id (by omega) (by omega) (k + 3)) (fun k => cX c _ _ h3 (hn.nw hr.1) hr.2 hN2 (by omega) (by omega) (by omega) (k + 1)) k
  by_cases k4 : kind = 4
  · subst k4
    have hr := lR c.n1 id block
    exact AJ c ⟨4, 1, id, block, data, g, keeps⟩ _ _ _ _ (fun k => w5 c.n1 id block (by omega) (k + 7)) (fun k => cX c _ _ h3 (hn.nw hr.1) hr.2 hN2 (by omega) (by omega) (by omega) (k + 1)) k
  by_cases k5 : kind = 5
  · subst k5
    have hr := mp c.n1 id block data
    exact yD c ⟨5, 1, id, block, data, g, keeps⟩ _ _ _ _ (fun k => wY c.n1 id block data (by omega) (by omega) (by omega) (by omega) (by omega) (k + 3)) (fun k => cX c _ _ h3 (hn.nw hr.1) hr.2 hN2 (by omega) (by omega) (by omega) (k + 1)) k
  by_cases k6 : kind = 6
  · subst k6
    exact tq c ⟨6, 1, id, block, data, g, keeps⟩ _ _ (fun k => qP c h hN2 ha hm hs k) k
  by_cases k7 : kind = 7
  · subst k7
    exact oR c ⟨7, 1, id, block, data, g, keeps⟩ _ _ (fun k => Dr (aS c 1 false) (f8 h 1 false) hN2 (by omega) (by omega) (k + 2)) k
  by_cases k8 : kind = 8
  · subst k8
    exact zX c ⟨8, 1, id, block, data, g, keeps⟩ _ _ (fun k => Dr c h hN2 (by omega) (by omega) (k + 2)) k
  by_cases k9 : kind = 9
  · subst k9
    have ht := rM h.link 1
    have f0 := h.link.1
    have f1 := h.link.2.1
    have hr := ed c.n1 (df c.link 1).1
    exact tu c ⟨9, 1, id, block, data, g, keeps⟩ _ _ _ _ _ _ _ (fun k => xe c.link 1 (by omega) (by omega) (k + 11)) (fun k => jK c.n1 _ (Nat.le_trans ht.2 (by decide)) (by omega) (by omega) k) (fun k => cX { c with link := (df c.link 1).2.1 } _ _ ⟨h3.n0, h3.n1, ht.1⟩ (hn.nw hr.1) hr.2 hN2 (by omega) (by omega) (by omega) (k + 1)) k
  by_cases k10 : kind = 10
  · subst k10
    exact yI c ⟨10, 1, id, block, data, g, keeps⟩ _ _ (fun k => cX c _ [] h3 (hn.nw (Nw.down (a := 3) (Nw.refl _ _))) (bb.nil _) hN2 (by omega) (by omega) (by omega) (k + 1)) k
  by_cases k11 : kind = 11
  · subst k11
    exact um c ⟨11, 1, id, block, data, g, keeps⟩ _ _ (fun k => qq c.n1 keeps hn hN hN2 (by omega) (k + 4)) k
  by_cases k12 : kind = 12
  · subst k12
    cases hu : c.n1.up with
    | true =>
      have := xw c ⟨12, 1, id, block, data, g, keeps⟩ _ _ hu (fun k => cX c (pt c.n1 g) [] h3 (hn.nw (b := 3) ⟨(vU _ _).le (by omega), Nat.le_refl _, rfl⟩) (bb.nil _) hN2 (by omega) (by omega) (by omega) (k + 1)) k
      have e : dP c.n1 g = pt c.n1 g := by simp only [dP, pt, hu, cond_true]
      show _ = some (Rc (bD c 1 (dP c.n1 g) []))
      rw [e]
      exact this
    | false =>
      have := yc c ⟨12, 1, id, block, data, g, keeps⟩ _ _ hu (fun k => cX c c.n1 [] h3 (hn.nw (b := 3) (Nw.refl _ _)) (bb.nil _) hN2 (by omega) (by omega) (by omega) (k + 1)) k
      have e : dP c.n1 g = c.n1 := by unfold dP; rw [hu]; rfl
      show _ = some (Rc (bD c 1 (dP c.n1 g) []))
      rw [e]
      exact this
  by_cases k13 : kind = 13
  · subst k13
    show _ = some (Rc (bf c 1 (dd c.n1 g), []))
    cases hq : decide ((c.n1.draws.length : Int) < 1000) with
    | true =>
      have e : bf c 1 (dd c.n1 g) = Cl.mk c.n0 (drawn c.n1 g) c.link c.w0 c.w1 := by
        have e1 : dd c.n1 g = drawn c.n1 g := by unfold dd; rw [hq]; rfl
        rw [e1]; rfl
      rw [e]
      exact yO c ⟨13, 1, id, block, data, g, keeps⟩ (by omega) hq k
    | false =>
      have e : bf c 1 (dd c.n1 g) = c := by
        have e1 : dd c.n1 g = c.n1 := by unfold dd; rw [hq]; rfl
        rw [e1]; rfl
      rw [e]
      exact yv c ⟨13, 1, id, block, data, g, keeps⟩ hq k
  by_cases k14 : kind = 14
  · subst k14
    have hr := ed c.n1 data
    exact y2 c ⟨14, 1, id, block, data, g, keeps⟩ _ _ _ _ _ _ (fun k => cP data c.link.ses (by omega) (k + 4)) (fun k => jK c.n1 data (by omega) (by omega) (by omega) k) (fun k => cX c _ _ h3 (hn.nw hr.1) hr.2 hN2 (by omega) (by omega) (by omega) (k + 1)) k
  have hk : ∀ j : Int, kind ≠ j → (kind == j) = false := fun j hj => beq_false_of_ne hj
  have e : gQ c ⟨kind, 1, id, block, data, g, keeps⟩ 1 c.n1 = (c, []) := by
    unfold gQ
    simp only [hk _ k1, hk _ k2, hk _ k3, hk _ k4, hk _ k5, hk _ k6, hk _ k7, hk _ k8, hk _ k9, hk _ k10, hk _ k11, hk _ k12, hk _ k13, hk _ k14, cond_false]
  rw [e]
  exact yE c ⟨kind, 1, id, block, data, g, keeps⟩ (hk _ k1) (hk _ k2) (hk _ k3) (hk _ k4) (hk _ k5) (hk _ k6) (hk _ k7) (hk _ k8) (hk _ k9) (hk _ k10) (hk _ k11) (hk _ k12) (hk _ k13) (hk _ k14) k
theorem BX (c : Cl) (e : Evt) (h0 : (Evt.node e == 0) = false) (h1 : (Evt.node e == 1) = false) (k : Nat) : ak PP GL XX HH NN (k + 14) 42 [A.agg (Cl.cs c), A.agg (Evt.cs e)] [] = some ([Res.agg (Cl.cs c), Res.top 5 []], []) := by
  exact rt (xa3 (cn h0) <| aa (cn h1) <| trivial) (gs := xg4 gT <| []) rfl
theorem Fk {N a m s : Nat} (c : Cl) (e : Evt) (h : ClB N a m s c) (hN : 0 < N) (hN2 : N ≤ 1000) (ha : a ≤ 860) (hm : m ≤ 90000) (hs : s ≤ 90000) (hd : e.data.size ≤ 300) (k : Nat) : ak PP GL XX HH NN (k + 14) 42 [.agg c.cs, .agg e.cs] [] = some (Rc (doM c e)) := by
  obtain ⟨kind, node, id, block, data, g, keeps⟩ := e
  rcases ql node with rfl | rfl | ⟨h0, h1⟩
  · exact CS c h hN hN2 ha hm hs kind id block g data keeps hd k
  · exact CA c h hN hN2 ha hm hs kind id block g data keeps hd k
  · have e : doM c ⟨kind, node, id, block, data, g, keeps⟩ = (c, []) := by
      unfold doM
      simp only [h0, h1, Bool.not_false, Bool.and_self, cond_true]
    rw [e]
    exact BX c ⟨kind, node, id, block, data, g, keeps⟩ h0 h1 k
end Go.Dm
namespace Go.Dm
open Go
def Spl (l : List Evt) (c0 : List (List C)) (c1 : Int) (c2 : Cl) : St := St.mk (T.hole :: tc (C.slice 7 (List.map Evt.cs l)) :: T.k (K.v (V.ptr 0 0)) :: T.hole :: T.k (K.v (V.ptr 1 0)) :: T.hole :: T.k (K.v (V.own 5 c0 (Tk.tok 0))) :: tc (ii c1) :: hs 23 []) [List.map V.c (Cl.cs c2), [V.c (ii 0), V.c (bo false), V.own 1 [] Tk.exact, V.own 2 [] Tk.exact, V.c (ii 0), V.c (bo false), V.c (ii 0), V.c (u 0), V.c (u 0), V.c (u 0), V.c (u 0), V.c (bo false), V.c (bo false), V.c (bo false), V.c (w4 0), V.c (bo false), V.c (ii 0), V.c (u 0), V.c (ii 0), V.c (u 0), V.c (u 0), V.c (u 0), V.c (u 0), V.c (bo false), V.c (bo false), V.c (bo false), V.c (bo false), V.c (w4 0), V.c (bo false), V.c (bo false), V.c (ii 0), V.c (ii 0), V.c (st ⟨#[]⟩), V.c (bo false), V.c (ii 0), V.c (ii 0), V.c (bo false), V.own 1 [] Tk.exact, V.own 3 [] Tk.exact, V.c (ii 0), V.c (bo false), V.own 1 [] Tk.exact, V.own 2 [] Tk.exact, V.c (ii 0), V.c (bo false), V.c (ii 0), V.c (u 0), V.c (u 0), V.c (u 0), V.c (u 0), V.c (bo false), V.c (bo false), V.c (bo false), V.c (w4 0), V.c (bo false), V.c (ii 0), V.c (u 0), V.c (ii 0), V.c (u 0), V.c (u 0), V.c (u 0), V.c (u 0), V.c (bo false), V.c (bo false), V.c (bo false), V.c (bo false), V.c (w4 0), V.c (bo false), V.c (bo false), V.c (ii 0), V.c (ii 0), V.c (st ⟨#[]⟩), V.c (bo false), V.c (ii 0), V.c (ii 0), V.c (bo false), V.own 1 [] Tk.exact, V.own 3 [] Tk.exact, V.c (bo false), V.c (u 0), V.own 1 [] Tk.exact, V.own 1 [] Tk.exact, V.c (bo false), V.c (bo false)]] [c0.length]
theorem DZ (l : List Evt) (out : List Ou) (i : Nat) (c : Cl) (x : Evt) (c2 : Cl) (o2 : List Ou) (hx : l[i]? = some x) (ho : out.length ≤ 100000) (ho2 : o2.length ≤ 100) (hD : ∀ k, ak PP GL XX HH NN (k + 15) 42 [A.agg (Cl.cs c), A.agg (Evt.cs x)] [] = some ([Res.agg (Cl.cs c2), Res.top 5 (List.map Ou.cs o2)], [])) (k : Nat) (z0 : (decide ((↑i : Int) < (↑(l.length) : Int))) = true) : bw (EE (k + 15)) (HH 30) NN (LB PP 30 3) 2 1 (Spl l (List.map Ou.cs out) (↑i : Int) c) (Spl l (List.map Ou.cs (out ++ o2)) (IntKind.wrap .i64 ((↑i : Int) + 1)) c2) :=
  bh (aa (au (Evt.cs) (l)) <| aa z0 <| aa (rfl : (↑i : Int) = (↑i : Int)) <| aa (aI (f := Evt.cs) hx) <| aa (hD k) <| aa (bL (Ou.cs) (out) (o2)) <| aa (aV (Ou.cs) (l := out ++ o2) (n := 1073741824) (by simp only [vr]; omega)) <| aa (Eq.refl (List.length (List.map Ou.cs out))) <| trivial) (gs := [G.len (l.length), gT, G.idx i [ii x.kind, ii x.node, ii x.id, ii x.block, st x.data, u x.n, C.slice 1 (List.map eB x.keeps)], G.call [Res.agg (Cl.cs c2), Res.top 5 (List.map Ou.cs o2)] [], G.app (List.map Ou.cs (out ++ o2))]) (by kernel_rfl)
def qE (l : List Evt) (out : List Ou) (i : Nat) (c : Cl) : St := St.mk (T.hole :: tc (C.slice 7 (List.map Evt.cs l)) :: T.k (K.v (V.ptr 0 0)) :: T.hole :: T.k (K.v (V.ptr 1 0)) :: T.hole :: T.k (K.v (V.own 5 (List.map Ou.cs out) (Tk.tok 0))) :: tc (ii (↑i : Int)) :: T.hole :: T.hole :: tc (ii (↑i : Int)) :: tc (C.slice 7 (List.map Evt.cs l)) :: tc (ii (↑(l.length) : Int)) :: tc (bo (decide ((↑i : Int) < (↑(l.length) : Int)))) :: hs 17 []) [[V.c (ii c.n0.id), V.c (bo c.n0.up), V.c (C.slice 1 (List.map eS c.n0.store.disk.sure)), V.c (C.slice 2 (List.map Wr.cs c.n0.store.disk.cache)), V.c (ii c.n0.store.disk.fuse), V.c (bo c.n0.store.disk.dead), V.c (ii c.n0.store.super.blocks), V.c (u c.n0.store.super.v.cur), V.c (u c.n0.store.super.v.bit), V.c (u c.n0.store.super.v.o0), V.c (u c.n0.store.super.v.o1), V.c (bo c.n0.store.super.inc), V.c (bo c.n0.store.super.pri), V.c (bo c.n0.store.super.dis), V.c (w4 (mi c.n0.store.mask)), V.c (bo c.n0.primary), V.c (ii c.n0.state), V.c (u c.n0.ses), V.c (ii c.n0.peer.blocks), V.c (u c.n0.peer.v.cur), V.c (u c.n0.peer.v.bit), V.c (u c.n0.peer.v.o0), V.c (u c.n0.peer.v.o1), V.c (bo c.n0.peer.inc), V.c (bo c.n0.peer.was), V.c (bo c.n0.peer.dis), V.c (bo c.n0.peer.pri), V.c (w4 (mi c.n0.peer.mask)), V.c (bo c.n0.peerPri), V.c (bo c.n0.req.on), V.c (ii c.n0.req.id), V.c (ii c.n0.req.block), V.c (st c.n0.req.data), V.c (bo c.n0.asking), V.c (ii c.n0.askId), V.c (ii c.n0.wanted), V.c (bo c.n0.minted), V.c (C.slice 1 (List.map eU c.n0.draws)), V.c (C.slice 3 (List.map Mi.cs c.n0.mints)), V.c (ii c.n1.id), V.c (bo c.n1.up), V.c (C.slice 1 (List.map eS c.n1.store.disk.sure)), V.c (C.slice 2 (List.map Wr.cs c.n1.store.disk.cache)), V.c (ii c.n1.store.disk.fuse), V.c (bo c.n1.store.disk.dead), V.c (ii c.n1.store.super.blocks), V.c (u c.n1.store.super.v.cur), V.c (u c.n1.store.super.v.bit), V.c (u c.n1.store.super.v.o0), V.c (u c.n1.store.super.v.o1), V.c (bo c.n1.store.super.inc), V.c (bo c.n1.store.super.pri), V.c (bo c.n1.store.super.dis), V.c (w4 (mi c.n1.store.mask)), V.c (bo c.n1.primary), V.c (ii c.n1.state), V.c (u c.n1.ses), V.c (ii c.n1.peer.blocks), V.c (u c.n1.peer.v.cur), V.c (u c.n1.peer.v.bit), V.c (u c.n1.peer.v.o0), V.c (u c.n1.peer.v.o1), V.c (bo c.n1.peer.inc), V.c (bo c.n1.peer.was), V.c (bo c.n1.peer.dis), V.c (bo c.n1.peer.pri), V.c (w4 (mi c.n1.peer.mask)), V.c (bo c.n1.peerPri), V.c (bo c.n1.req.on), V.c (ii c.n1.req.id), V.c (ii c.n1.req.block), V.c (st c.n1.req.data), V.c (bo c.n1.asking), V.c (ii c.n1.askId), V.c (ii c.n1.wanted), V.c (bo c.n1.minted), V.c (C.slice 1 (List.map eU c.n1.draws)), V.c (C.slice 3 (List.map Mi.cs c.n1.mints)), V.c (bo c.link.up), V.c (u c.link.ses), V.c (C.slice 1 (List.map eS c.link.to0)), V.c (C.slice 1 (List.map eS c.link.to1)), V.c (bo c.w0), V.c (bo c.w1)], [V.c (ii 0), V.c (bo false), V.own 1 [] Tk.exact, V.own 2 [] Tk.exact, V.c (ii 0), V.c (bo false), V.c (ii 0), V.c (u 0), V.c (u 0), V.c (u 0), V.c (u 0), V.c (bo false), V.c (bo false), V.c (bo false), V.c (w4 0), V.c (bo false), V.c (ii 0), V.c (u 0), V.c (ii 0), V.c (u 0), V.c (u 0), V.c (u 0), V.c (u 0), V.c (bo false), V.c (bo false), V.c (bo false), V.c (bo false), V.c (w4 0), V.c (bo false), V.c (bo false), V.c (ii 0), V.c (ii 0), V.c (st ⟨#[]⟩), V.c (bo false), V.c (ii 0), V.c (ii 0), V.c (bo false), V.own 1 [] Tk.exact, V.own 3 [] Tk.exact, V.c (ii 0), V.c (bo false), V.own 1 [] Tk.exact, V.own 2 [] Tk.exact, V.c (ii 0), V.c (bo false), V.c (ii 0), V.c (u 0), V.c (u 0), V.c (u 0), V.c (u 0), V.c (bo false), V.c (bo false), V.c (bo false), V.c (w4 0), V.c (bo false), V.c (ii 0), V.c (u 0), V.c (ii 0), V.c (u 0), V.c (u 0), V.c (u 0), V.c (u 0), V.c (bo false), V.c (bo false), V.c (bo false), V.c (bo false), V.c (w4 0), V.c (bo false), V.c (bo false), V.c (ii 0), V.c (ii 0), V.c (st ⟨#[]⟩), V.c (bo false), V.c (ii 0), V.c (ii 0), V.c (bo false), V.own 1 [] Tk.exact, V.own 3 [] Tk.exact, V.c (bo false), V.c (u 0), V.own 1 [] Tk.exact, V.own 1 [] Tk.exact, V.c (bo false), V.c (bo false)]] [List.length (List.map Ou.cs out)]
theorem D3 (l : List Evt) (out : List Ou) (i : Nat) (c : Cl) (k : Nat) (z0 : (decide ((↑i : Int) < (↑(l.length) : Int))) = false) : cm (EE (k + 15)) (HH 30) NN (LB PP 30 3) (Spl l (List.map Ou.cs out) (↑i : Int) c) (Ext.exit 0) (qE l out i c) :=
  bI (aa (au (Evt.cs) (l)) <| aa z0 <| trivial) (gs := [G.len (l.length), gF]) (by kernel_rfl)
abbrev vf (x : Cl × List Ou) (e : Evt) : Cl × List Ou := ((doM x.1 e).1, x.2 ++ (doM x.1 e).2)
theorem Lpl {N a m s : Nat} (c : Cl) (l : List Evt) (h : ClB N a m s c) (hN : 0 < N) (hN2 : N ≤ 1000) (ha : a + 4 * l.length ≤ 860) (hm : m + l.length ≤ 90000) (hs : s + 6 * l.length ≤ 90000) (hd : ∀ e ∈ l, e.data.size ≤ 300) (k : Nat) : bz (EE (k + 15)) (HH 30) NN (LB PP 30 3) (Spl l [] 0 c) (.exit 0) (qE l (iN c l).2 l.length (iN c l).1) := by
  refine dU (E := EE (k + 15)) (fun (x : Cl × List Ou) (i : Nat) => Spl l (x.2.map Ou.cs) (i : Nat) x.1) (fun i x => ClB N (a + 4 * i) (m + i) (s + 6 * i) x.1 ∧ x.2.length ≤ 18 * i) l vf (c, []) (nv := 2) (nt := 1) (e := .exit 0) (t := fun x => qE l x.2 l.length x.1) rfl (by kernel_rfl) (by kernel_rfl) ⟨h, Nat.le_refl _⟩ (fun x i e hx hp => ?_) (fun hp => D3 l _ _ _ k dge) (by unfold NN; omega)
  obtain ⟨c1, out⟩ := x
  obtain ⟨p1, p2⟩ := hp
  simp only at p1 p2
  have hlt := dp hx
  have hw := qJ hx (by omega)
  have hb := Af p1 e
  have hl := hb.2.1
  refine ⟨?_, hb.1, ?_⟩
  · have := DZ l out i c1 e (doM c1 e).1 (doM c1 e).2 hx (by omega) (by omega) (fun k => Fk c1 e p1 hN hN2 (by omega) (by omega) (by omega) (hd e (List.mem_of_getElem? hx)) (k + 1)) k (dlt hx)
    rwa [hw] at this
  · simp only [List.length_append]; omega
theorem EZ (c : Cl) (l : List Evt) (c3 : Cl) (out : List Ou) (ho : out.length ≤ 100000) (hL : ∀ k, bz (EE (k + 15)) (HH 30) NN (LB PP 30 3) (Spl l [] 0 c) (Ext.exit 0) (qE l out (l.length) c3)) (k : Nat) : ak PP GL XX HH NN (k + 16) 30 [A.agg (Cl.cs c), A.c (C.slice 7 (List.map Evt.cs l))] [] = some ([Res.agg (Cl.cs c3), Res.top 5 (List.map Ou.cs out)], []) := by
  exact rt (aa (hL k) <| aa (Eq.refl (List.length (List.map Ou.cs out))) <| trivial) (gs := [G.loop (Ext.exit 0) (qE l out (l.length) c3)]) rfl
theorem A9 (c : Cl) (k : Nat) : ak PP GL XX HH NN (k + 16) 30 [A.agg (Cl.cs c), A.nil] [] = some ([Res.agg (Cl.cs c), Res.top 5 []], []) := by
  exact rt (aa (rfl : (0 : Nat) = (0 : Nat)) <| aa ff <| aa ((rfl : (0 : Nat) = (0 : Nat))).symm <| trivial) (gs := [G.un, G.len 0, gF]) rfl
theorem vI {N : Nat} : ∀ (l : List Evt) {a m s : Nat} {c : Cl}, ClB N a m s c → (iN c l).2.length ≤ 18 * l.length
  | l, a, m, s, c, h => by
    have key : ∀ (l : List Evt) {a m s : Nat} (x : Cl × List Ou), ClB N a m s x.1 → (l.foldl vf x).2.length ≤ x.2.length + 18 * l.length := by
      intro l
      induction l with
      | nil => intro a m s x h; exact Nat.le_refl _
      | cons e l ih =>
        intro a m s x h
        rw [List.foldl_cons]
        have hb := Af h e
        have := ih (vf x e) hb.1
        have h2 := hb.2.1
        simp only [List.length_append, List.length_cons] at this ⊢
        omega
    have := key l (c, []) h
    simp only [List.length_nil, Nat.zero_add] at this
    exact this
theorem zA {N a m s : Nat} (c : Cl) (l : List Evt) (h : ClB N a m s c) (hN : 0 < N) (hN2 : N ≤ 1000) (ha : a + 4 * l.length ≤ 860) (hm : m + l.length ≤ 90000) (hs : s + 6 * l.length ≤ 90000) (hd : ∀ e ∈ l, e.data.size ≤ 300) (k : Nat) : ak PP GL XX HH NN (k + 16) 30 [.agg c.cs, .c (.slice 7 (l.map Evt.cs))] [] = some (Rc (iN c l)) := by
  have ho := vI l h
  exact EZ c l _ _ (by omega) (fun k => Lpl c l h hN hN2 ha hm hs hd k) k
def zr (n : Nat) : Cl := ⟨(cc (iJ 0 (cy n 7)) []).1, (cc (iJ 1 (cy n 7)) []).1, lk0, false, false⟩
theorem xn (n : Nat) (h1 : ce (aZ n 7) = true) : ym (n + 2) (cy n 7) := by
  refine ⟨by simp [cy], fun s hs => ?_, fun w hw => by cases hw⟩
  simp only [cy, List.mem_append, List.mem_cons, List.not_mem_nil, or_false, List.mem_replicate] at hs
  rcases hs with (rfl | rfl) | ⟨_, rfl⟩
  · have : (bd (aZ n 7)).1 = bG (cH (aZ n 7)) := by unfold bd; rw [h1]; rfl
    rw [this, aw, an]
    decide
  · rw [aw, aA]; decide
  · decide
theorem oO (n : Nat) (i : Int) (h1 : ce (aZ n 7) = true) : NdB (n + 2) 0 0 (iJ i (cy n 7)) := ⟨xn n h1, Nat.zero_le _, Nat.zero_le _⟩
theorem B7 (n : Nat) (h1 : ce (aZ n 7) = true) : ClB (n + 2) 0 0 0 (zr n) := ⟨(oO n 0 h1).nw (ja _ _), (oO n 1 h1).nw (ja _ _), LkB.none _ _ _⟩
theorem Dy (n : Nat) (h1 : ce (aZ n 7) = true) (hn : n ≤ 900) (hF : ∀ k, ak PP GL XX HH NN (k + 9) 71 [.c (ii (n : Int)), .c (u 7)] [] = some ([.agg (cy n 7).cs, .c (ii 0)], [])) (k : Nat) : ak PP GL XX HH NN (k + 10) 49 [.c (ii (n : Int)), .c (u 7)] [] = some ([.agg (zr n).cs, .c (ii 0)], []) :=
  CG n 7 (cy n 7) _ _ _ _ hF (fun k => by
    have := nA (iJ 0 (cy n 7)) (oO n 0 h1) (by omega) (by omega) (by omega) k
    rw [r9] at this
    exact this) (fun k => by
    have := nA (iJ 1 (cy n 7)) (oO n 1 h1) (by omega) (by omega) (by omega) k
    rw [r9] at this
    exact this) k
theorem Ds (n : Nat) (h : n = 1 ∨ n = 2 ∨ n = 3 ∨ n = 4) : ce (aZ n 7) = true := by
  rcases h with rfl | rfl | rfl | rfl <;> decide
theorem DF (n : Nat) (h : n = 1 ∨ n = 2 ∨ n = 3 ∨ n = 4) : ((bd (aZ n 7)).2 == 0) = true := by
  unfold bd
  rw [Ds n h]
  rfl
theorem zw (n : Nat) (h : n = 1 ∨ n = 2 ∨ n = 3 ∨ n = 4) (k : Nat) : ak PP GL XX HH NN (k + 10) 49 [.c (ii (n : Int)), .c (u 7)] [] = some ([.agg (zr n).cs, .c (ii 0)], []) := by
  refine Dy n (Ds n h) (by omega) (fun k => ?_) k
  have h2 := DF n h
  rcases h with rfl | rfl | rfl | rfl
  · exact Ae 7 h2 (fun k => kR (aZ 1 7) k) (k + 3)
  · exact zQ 7 h2 (fun k => kR (aZ 2 7) k) (k + 3)
  · exact Bo 7 h2 (fun k => kR (aZ 3 7) k) (k + 3)
  · exact AA 7 h2 (fun k => kR (aZ 4 7) k) (k + 3)
abbrev lg (b : Int) : Int := IntKind.wrap .i64 (1 + IntKind.wrap .i64 (b.tmod 4))
theorem Ca (b : Int) (l : List Evt) (c : Cl) (c2 : Cl) (o : List Ou) (hN : ∀ k, ak PP GL XX HH NN (k + 16) 49 [A.c (ii (lg b)), A.c (u 7)] [] = some ([Res.agg (Cl.cs c), Res.c (ii 0)], [])) (hP : ∀ k, ak PP GL XX HH NN (k + 16) 30 [A.agg (Cl.cs c), A.c (C.slice 7 (List.map Evt.cs l))] [] = some ([Res.agg (Cl.cs c2), Res.top 5 (List.map Ou.cs o)], [])) (k : Nat) : ak PP GL XX HH NN (k + 17) 29 [A.c (by8 b), A.c (C.slice 7 (List.map Evt.cs l))] [] = some ([Res.agg (Cl.cs c2)], []) := by
  exact rt (aa (show (4 : Int) ≠ (0 : Int) from by decide) <| aa (kf (k + 15)) <| aa (hN k) <| aa (hP k) <| trivial) (gs := [G.ok, G.call [Res.c (u 7)] [], G.call [Res.agg (Cl.cs c), Res.c (ii 0)] [], G.call [Res.agg (Cl.cs c2), Res.top 5 (List.map Ou.cs o)] []]) rfl
theorem Do (b : Int) (c : Cl) (hN : ∀ k, ak PP GL XX HH NN (k + 16) 49 [A.c (ii (lg b)), A.c (u 7)] [] = some ([Res.agg (Cl.cs c), Res.c (ii 0)], [])) (k : Nat) : ak PP GL XX HH NN (k + 17) 29 [A.c (by8 b), A.nil] [] = some ([Res.agg (Cl.cs c)], []) := by
  exact rt (aa (show (4 : Int) ≠ (0 : Int) from by decide) <| aa (kf (k + 15)) <| aa (hN k) <| aa (A9 c k) <| trivial) (gs := [G.ok, G.call [Res.c (u 7)] [], G.call [Res.agg (Cl.cs c), Res.c (ii 0)] [], G.call [Res.agg (Cl.cs c), Res.top 5 []] []]) rfl
def fk (b : Int) : Nat := (b.tmod 4).toNat + 1
theorem i9 (b : Int) (h : 0 ≤ b) : fk b = 1 ∨ fk b = 2 ∨ fk b = 3 ∨ fk b = 4 := by
  unfold fk
  have h1 := Int.tmod_nonneg 4 h
  have h2 := Int.tmod_lt_of_pos b (show (0 : Int) < 4 by decide)
  omega
theorem qA (b : Int) (h : 0 ≤ b) : lg b = (fk b : Int) := by
  unfold lg fk
  have h1 := Int.tmod_nonneg 4 h
  have h2 := Int.tmod_lt_of_pos b (show (0 : Int) < 4 by decide)
  rw [ej (x := b.tmod 4) (by omega) (by omega), ej (by omega) (by omega)]
  omega
def eF (b : Int) (l : List Evt) : Cl := (iN (zr (fk b)) l).1
theorem ry (b : Int) (hb : 0 ≤ b) (l : List Evt) (hl : l.length ≤ 200) (hd : ∀ e ∈ l, e.data.size ≤ 300) (k : Nat) : ak PP GL XX HH NN (k + 17) 29 [.c (by8 b), .c (.slice 7 (l.map Evt.cs))] [] = some ([.agg (eF b l).cs], []) := by
  have h4 := i9 b hb
  exact Ca b l _ _ (iN (zr (fk b)) l).2 (fun k => by rw [qA b hb]; exact zw _ h4 (k + 6)) (fun k => zA (zr (fk b)) l (B7 _ (Ds _ h4)) (by omega) (by omega) (by omega) (by omega) (by omega) hd k) k
theorem xK (b : Int) (hb : 0 ≤ b) (k : Nat) : ak PP GL XX HH NN (k + 17) 29 [.c (by8 b), .nil] [] = some ([.agg (eF b []).cs], []) := by
  have h4 := i9 b hb
  exact Do b _ (fun k => by rw [qA b hb]; exact zw _ h4 (k + 6)) k
theorem oY (b : Int) (hb : 0 ≤ b) (l : List Evt) : ClB (fk b + 2) (4 * l.length) l.length (6 * l.length) (eF b l) := by
  have := wM l (B7 _ (Ds _ (i9 b hb)))
  exact this.le (by omega) (by omega) (by omega)
end Go.Dm
namespace Go.Dm
open Go
theorem u6 (l : List Mi) (hl : l.length ≤ 100000) (k : Nat) : ak PP GL XX HH NN (k + 1) 53 [.c (.slice 3 (l.map Mi.cs))] [] = some ([.c (.map (o7 (par l)))], []) := by
  rw [sG (h := r6) rfl]
  unfold r6
  have : (l.map Mi.cs).length ≤ 1000000 := by rw [List.length_map]; omega
  have e : (l.map Mi.cs).mapM xM = some l := uI l
  simp only [true_or, true_and, this, if_true, e]
  rfl
theorem B8 (n : Int) (hn : 0 ≤ n ∧ n ≤ 1000000) (k : Nat) : ak PP GL XX HH NN (k + 1) 50 [.nil, .c (ii n)] [] = some ([.top 3 []], []) := by
  rw [sG (h := oF 3) rfl]
  unfold oF
  simp only [hn, and_self, if_true]
theorem Aw (a : List Mi) (b : List Mi) (h0 : a.length ≤ 1000000) (h1 : b.length ≤ 1000000) (w1 : decide (IntKind.wrap .i64 (0 + (↑(a.length) : Int)) < 0) = false) (w2 : decide (IntKind.wrap .i64 (IntKind.wrap .i64 (0 + (↑(a.length) : Int)) + (↑(b.length) : Int)) < 0) = false) (w3 : (0 : Int) ≤ IntKind.wrap .i64 (IntKind.wrap .i64 (0 + (↑(a.length) : Int)) + (↑(b.length) : Int)) ∧ IntKind.wrap .i64 (IntKind.wrap .i64 (0 + (↑(a.length) : Int)) + (↑(b.length) : Int)) ≤ 1000000) (k : Nat) : ak PP GL XX HH NN (k + 2) 31 [A.c (C.slice 1 [[C.slice 3 (List.map Mi.cs a)], [C.slice 3 (List.map Mi.cs b)]])] [] = some ([Res.top 3 (List.map Mi.cs (a ++ b))], []) := by
  exact rt (aa (rfl : (2 : Nat) = (2 : Nat)) <| aa tt <| aa (rfl : (0 : Int) = (0 : Int)) <| aa (rfl : some ([C.slice 3 (List.map Mi.cs a)]) = some ([C.slice 3 (List.map Mi.cs a)])) <| aa (au (Mi.cs) (a)) <| aa w1 <| aa tt <| aa (rfl : (1 : Int) = (1 : Int)) <| aa (rfl : some ([C.slice 3 (List.map Mi.cs b)]) = some ([C.slice 3 (List.map Mi.cs b)])) <| aa (au (Mi.cs) (b)) <| aa w2 <| aa ff <| aa (B8 (IntKind.wrap .i64 (IntKind.wrap .i64 (0 + (↑(a.length) : Int)) + (↑(b.length) : Int))) w3 k) <| aa (rfl : (2 : Nat) = (2 : Nat)) <| aa tt <| aa (rfl : (0 : Int) = (0 : Int)) <| aa (rfl : some ([C.slice 3 (List.map Mi.cs a)]) = some ([C.slice 3 (List.map Mi.cs a)])) <| aa (bP (List.map Mi.cs a)) <| aa (aV (Mi.cs) (l := a) (n := 1073741824) (by omega)) <| aa ((rfl : (0 : Nat) = (0 : Nat))).symm <| aa tt <| aa (rfl : (1 : Int) = (1 : Int)) <| aa (rfl : some ([C.slice 3 (List.map Mi.cs b)]) = some ([C.slice 3 (List.map Mi.cs b)])) <| aa (bL (Mi.cs) (a) (b)) <| aa (aV (Mi.cs) (l := a ++ b) (n := 1073741824) (by simp only [vr]; omega)) <| aa (Eq.refl (List.length (List.map Mi.cs a))) <| aa ff <| aa (Eq.refl (List.length (List.map Mi.cs (a ++ b)))) <| trivial) (gs := xc (G.len 2) <| xc G.un <| xc gT <| xc (G.idx 0 [C.slice 3 (List.map Mi.cs a)]) <| xc (G.len (a.length)) <| xc gF <| xc gT <| xc (G.idx 1 [C.slice 3 (List.map Mi.cs b)]) <| xc (G.len (b.length)) <| xg2 gF <| [G.call [Res.top 3 []] [], G.len 2, G.un, gT, G.idx 0 [C.slice 3 (List.map Mi.cs a)], G.app (List.map Mi.cs a), gT, G.idx 1 [C.slice 3 (List.map Mi.cs b)], G.app (List.map Mi.cs (a ++ b)), gF]) rfl
theorem yn (a b : List Mi) (h : a.length + b.length ≤ 1000000) (k : Nat) : ak PP GL XX HH NN (k + 2) 31 [.c (.slice 1 [[.slice 3 (a.map Mi.cs)], [.slice 3 (b.map Mi.cs)]])] [] = some ([.top 3 ((a ++ b).map Mi.cs)], []) := by
  have e1 : IntKind.wrap .i64 (0 + (a.length : Int)) = a.length := by rw [ej (by omega) (by omega)]; omega
  have e2 : IntKind.wrap .i64 (IntKind.wrap .i64 (0 + (a.length : Int)) + (b.length : Int)) = a.length + b.length := by rw [e1, ej (by omega) (by omega)]
  exact Aw a b (by omega) (by omega) (by rw [e1]; exact decide_eq_false (by omega)) (by rw [e2]; exact decide_eq_false (by omega)) (by rw [e2]; omega) k
def Six (l : List Int) (g : Int) (c0 : Int) : St := St.mk (tc (C.slice 1 (List.map eU l)) :: tc (u g) :: hs 5 (tc (ii (↑(l.length) : Int)) :: tc (ii c0) :: hs 10 [])) [] []
def tg (l : List Int) (g : Int) (i : Nat) (x : Int) : St := St.mk [tc (C.slice 1 (List.map eU l)), tc (u g), T.hole, T.hole, tc (ii (↑i : Int)), tc (ii (↑i : Int)), T.hole, tc (ii (↑(l.length) : Int)), tc (ii (↑i : Int)), tc (bo (decide ((↑i : Int) < (↑(l.length) : Int)))), tc (ii (↑i : Int)), tc (u g), tc (C.slice 1 (List.map eU l)), tc (ii (↑i : Int)), tc (C.rptr [u x]), tc (u x), tc (bo (g == x)), tc (ii (↑i : Int)), T.hole] [] []
theorem Ea (l : List Int) (g : Int) (i : Nat) (x : Int) (hx : l[i]? = some x) (k : Nat) (z0 : (decide ((↑i : Int) < (↑(l.length) : Int))) = true) (z1 : (g == x) = true) : cm (EE (k + 1)) (HH 36) NN (LB PP 36 2) (Six l g (↑i : Int)) (Ext.ret) (tg l g i x) :=
  bI (aa z0 <| aa (rfl : (↑i : Int) = (↑i : Int)) <| aa (aI (f := eU) hx) <| aa z1 <| trivial) (gs := [gT, G.idx i [u x], gT]) (by kernel_rfl)
theorem EA (l : List Int) (g : Int) (i : Nat) (x : Int) (hx : l[i]? = some x) (k : Nat) (z0 : (decide ((↑i : Int) < (↑(l.length) : Int))) = true) (z1 : (g == x) = false) : bw (EE (k + 1)) (HH 36) NN (LB PP 36 2) 0 0 (Six l g (↑i : Int)) (Six l g (IntKind.wrap .i64 ((↑i : Int) + 1))) :=
  bh (aa z0 <| aa (rfl : (↑i : Int) = (↑i : Int)) <| aa (aI (f := eU) hx) <| aa z1 <| trivial) (gs := [gT, G.idx i [u x], gF]) (by kernel_rfl)
def rQ (l : List Int) (g : Int) (i : Nat) : St := St.mk (tc (C.slice 1 (List.map eU l)) :: tc (u g) :: hs 5 (tc (ii (↑(l.length) : Int)) :: tc (ii (↑i : Int)) :: tc (bo (decide ((↑i : Int) < (↑(l.length) : Int)))) :: hs 9 [])) [] []
theorem DN (l : List Int) (g : Int) (i : Nat) (k : Nat) (z0 : (decide ((↑i : Int) < (↑(l.length) : Int))) = false) : cm (EE (k + 1)) (HH 36) NN (LB PP 36 2) (Six l g (↑i : Int)) (Ext.exit 0) (rQ l g i) :=
  bI (aa z0 <| trivial) (gs := [gF]) (by kernel_rfl)
theorem FB (l : List Int) (g : Int) (i : Nat) (x : Int) (hL : ∀ k, bz (EE (k + 1)) (HH 36) NN (LB PP 36 2) (Six l g 0) Ext.ret (tg l g i x)) (k : Nat) : ak PP GL XX HH NN (k + 2) 36 [A.c (C.slice 1 (List.map eU l)), A.c (u g)] [] = some ([Res.c (ii (↑i : Int))], []) := by
  exact rt (aa (au (eU) (l)) <| aa (hL k) <| trivial) (gs := [G.len (l.length), G.loop Ext.ret (tg l g i x)]) rfl
theorem F2 (l : List Int) (g : Int) (hL : ∀ k, bz (EE (k + 1)) (HH 36) NN (LB PP 36 2) (Six l g 0) (Ext.exit 0) (rQ l g (l.length))) (k : Nat) : ak PP GL XX HH NN (k + 2) 36 [A.c (C.slice 1 (List.map eU l)), A.c (u g)] [] = some ([Res.c (ii (-1 : Int))], []) := by
  exact rt (aa (au (eU) (l)) <| aa (hL k) <| trivial) (gs := [G.len (l.length), G.loop (Ext.exit 0) (rQ l g (l.length))]) rfl
theorem xr (l : List Int) (g : Int) (hl : l.length ≤ 1000000) (k : Nat) : ak PP GL XX HH NN (k + 2) 36 [.c (.slice 1 (l.map eU)), .c (u g)] [] = some ([.c (ii (uM l g))], []) := by
  rcases sL (E := fun k => EE (k + 1)) (H := HH 36) (n := NN) (b := LB PP 36 2) (fun i => Six l g (i : Nat)) l (g == ·) (fun i x => tg l g i x) (rQ l g l.length) (nv := 0) (nt := 0) (e := .ret) (e' := .exit 0) (by kernel_rfl) (by kernel_rfl)
    (fun k i x hx hp => by
      have := EA l g i x hx k (dlt hx) hp
      rwa [qJ hx (by omega)] at this)
    (fun k i x hx hp => Ea l g i x hx k (dlt hx) hp)
    (fun k => DN l g l.length k dge) (by unfold NN; omega) with ⟨hb, hL⟩ | ⟨hb, i, x, hx, hp, hf, hj, hL⟩
  · unfold uM
    rw [hb]; exact F2 l g hL k
  · unfold uM
    rw [hb, Am hx hp hj]; exact FB l g i x hL k
theorem EC (l : List Int) (g : Int) (hl : l.length ≤ 1000000) (k : Nat) : ak PP GL XX HH NN (k + 3) 51 [A.c (C.slice 1 (List.map eU l)), A.c (u g)] [] = some ([Res.c (bo (decide (uM l g ≥ 0)))], []) := by
  exact rt (aa (xr l g hl k) <| trivial) (gs := [G.call [Res.c (ii (uM l g))] []]) rfl
theorem j6 (l : List Int) (g : Int) (hl : l.length ≤ 1000000) (k : Nat) : ak PP GL XX HH NN (k + 3) 51 [.c (.slice 1 (l.map eU)), .c (u g)] [] = some ([.c (bo (l.contains g))], []) := by
  rw [← vZ]; exact EC l g hl k
def Sli (l : List Mi) (c0 : Int) (c1 : List (List C)) : St := St.mk (T.hole :: tc (u c0) :: T.hole :: T.hole :: T.k (K.v (V.own 1 c1 (Tk.tok 0))) :: tc (C.map (List.map (fun (x : Int × Int) => (Value.int IntKind.u64 x.1, Value.int IntKind.u64 x.2)) (par l))) :: hs 18 []) [] [c1.length]
def u7 (l : List Mi) (a : List Int) (g : Int) : St := St.mk (T.hole :: tc (u g) :: T.hole :: T.hole :: T.k (K.v (V.own 1 (List.map eU a) (Tk.tok 0))) :: tc (C.map (List.map (fun (x : Int × Int) => (Value.int IntKind.u64 x.1, Value.int IntKind.u64 x.2)) (par l))) :: T.hole :: T.hole :: tc (u g) :: tc (bo (g != 0)) :: tc (bo (g != 0)) :: ks 4 (tc (bo false) :: hs 8 [])) [] [List.length (List.map eU a)]
theorem DX (l : List Mi) (a : List Int) (g : Int) (k : Nat) (z0 : (g == 0) = true) : cm (EE (k + 4)) (HH 37) NN (LB PP 37 2) (Sli l g (List.map eU a)) (Ext.exit 0) (u7 l a g) :=
  bI (xa5 (cn z0) <| aa ff <| trivial) (gs := xg6 gF <| []) (by kernel_rfl)
def vR (l : List Mi) (a : List Int) (g : Int) : St := St.mk (T.hole :: tc (u g) :: T.hole :: T.hole :: T.k (K.v (V.own 1 (List.map eU a) (Tk.tok 0))) :: tc (C.map (List.map (fun (x : Int × Int) => (Value.int IntKind.u64 x.1, Value.int IntKind.u64 x.2)) (par l))) :: T.hole :: T.hole :: tc (u g) :: tc (bo (g != 0)) :: tc (bo (g != 0)) :: T.k (K.v (V.own 1 (List.map eU a) (Tk.tok 0))) :: tc (u g) :: tc (bo (List.contains a g)) :: tc (bo !List.contains a g) :: tc (bo !List.contains a g) :: hs 8 []) [] [List.length (List.map eU a)]
theorem DR (l : List Mi) (a : List Int) (g : Int) (ha : a.length ≤ 1000000) (k : Nat) (z0 : (g == 0) = false) (z1 : (List.contains a g) = true) : cm (EE (k + 4)) (HH 37) NN (LB PP 37 2) (Sli l g (List.map eU a)) (Ext.exit 0) (vR l a g) :=
  bI (xa3 (cn z0) <| aa (j6 a g ha (k + 1)) <| xa2 (cn z0) <| aa (cn z1) <| trivial) (gs := xg3 gT <| xc (G.call [Res.c (bo (List.contains a g))] []) <| xg2 gT <| [gF]) (by kernel_rfl)
theorem DO (l : List Mi) (a : List Int) (g : Int) (ha : a.length ≤ 1000000) (hl : l.length ≤ 1000000) (k : Nat) (z0 : (g == 0) = false) (z1 : (List.contains a g) = false) : bw (EE (k + 4)) (HH 37) NN (LB PP 37 2) 0 1 (Sli l g (List.map eU a)) (Sli l (luk (par l) g).1 (List.map eU (a ++ [g]))) :=
  bh (xa3 (cn z0) <| aa (j6 a g ha (k + 1)) <| xa2 (cn z0) <| aa (cn z1) <| aa (bL (eU) (a) ([g])) <| aa (aV (eU) (l := a ++ [g]) (n := 1073741824) (by simp only [vr]; omega)) <| aa (Eq.refl (List.length (List.map eU a))) <| aa (wK (par l) g) <| trivial) (gs := xg3 gT <| xc (G.call [Res.c (bo (List.contains a g))] []) <| xg3 gT <| [G.app (List.map eU (a ++ [g])), G.look (luk (par l) g).1 (luk (par l) g).2]) (by kernel_rfl)
theorem zf (l : List Mi) (hl : l.length ≤ 100000) (g : Int) (k i : Nat) (hi : i < uP l g) : bw (EE (k + 4)) (HH 37) NN (LB PP 37 2) 0 1 (Sli l (gI (jO l) g i) ((acc (jO l) g i).map eU)) (Sli l (gI (jO l) g (i + 1)) ((acc (jO l) g (i + 1)).map eU)) := by
  obtain ⟨h1, _, h3⟩ := iw l g
  have hs := h3 i hi
  unfold dT at hs
  simp only [Bool.or_eq_false_iff] at hs
  have hlen := lN (jO l) g i
  have := DO l (acc (jO l) g i) (gI (jO l) g i) (by omega) (by omega) k hs.1 hs.2
  rw [FP] at this
  rw [r4]
  exact this
theorem FA (l : List Mi) (g : Int) (a : List Int) (z : Int) (hl : l.length ≤ 100000) (hL : ∀ k, bz (EE (k + 4)) (HH 37) NN (LB PP 37 2) (Sli l g []) (Ext.exit 0) (u7 l a z)) (k : Nat) : ak PP GL XX HH NN (k + 5) 37 [A.c (C.slice 3 (List.map Mi.cs l)), A.c (u g)] [] = some ([Res.top 1 (List.map eU a)], []) := by
  exact rt (aa (u6 l hl (k + 3)) <| aa (hL k) <| aa (Eq.refl (List.length (List.map eU a))) <| trivial) (gs := [G.call [Res.c (C.map (o7 (par l)))] [], G.loop (Ext.exit 0) (u7 l a z)]) rfl
theorem FN (l : List Mi) (g : Int) (a : List Int) (z : Int) (hl : l.length ≤ 100000) (hL : ∀ k, bz (EE (k + 4)) (HH 37) NN (LB PP 37 2) (Sli l g []) (Ext.exit 0) (vR l a z)) (k : Nat) : ak PP GL XX HH NN (k + 5) 37 [A.c (C.slice 3 (List.map Mi.cs l)), A.c (u g)] [] = some ([Res.top 1 (List.map eU a)], []) := by
  exact rt (aa (u6 l hl (k + 3)) <| aa (hL k) <| aa (Eq.refl (List.length (List.map eU a))) <| trivial) (gs := [G.call [Res.c (C.map (o7 (par l)))] [], G.loop (Ext.exit 0) (vR l a z)]) rfl
theorem zN (l : List Mi) (g : Int) (hl : l.length ≤ 100000) (k : Nat) : ak PP GL XX HH NN (k + 5) 37 [.c (.slice 3 (l.map Mi.cs)), .c (u g)] [] = some ([.top 1 ((eL l g).map eU)], []) := by
  obtain ⟨h1, h2, _⟩ := iw l g
  have hle := oi hl g
  cases hz : tL l g == 0 with
  | true =>
    refine FA l g (eL l g) (tL l g) hl (fun k => ?_) k
    exact fR (E := EE (k + 4)) (nv := 0) (nt := 1) (fun i => Sli l (gI (jO l) g i) ((acc (jO l) g i).map eU)) (uP l g) rfl (by kernel_rfl) (by kernel_rfl) (fun i hi => zf l hl g k i hi) (DX l (eL l g) (tL l g) k hz) (by unfold NN; omega)
  | false =>
    have hc : (eL l g).contains (tL l g) = true := by
      unfold dT at h2
      have hz' : (gI (jO l) g (uP l g) == 0) = false := hz
      rw [hz', Bool.false_or] at h2
      exact h2
    refine FN l g (eL l g) (tL l g) hl (fun k => ?_) k
    exact fR (E := EE (k + 4)) (nv := 0) (nt := 1) (fun i => Sli l (gI (jO l) g i) ((acc (jO l) g i).map eU)) (uP l g) rfl (by kernel_rfl) (by kernel_rfl) (fun i hi => zf l hl g k i hi) (DR l (eL l g) (tL l g) hle k hz hc) (by unfold NN; omega)
theorem Fv (l : List Mi) (o : Int) (g : Int) (hl : l.length ≤ 100000) (h2 : List.length (eL l g) ≤ 1000000) (k : Nat) : ak PP GL XX HH NN (k + 6) 34 [A.c (C.slice 3 (List.map Mi.cs l)), A.c (u o), A.c (u g)] [] = some ([Res.c (bo (inL l o g))], []) := by
  exact rt (aa (zN l g hl k) <| aa (j6 (eL l g) o h2 (k + 2)) <| trivial) (gs := [G.call [Res.top 1 (List.map eU (eL l g))] [], G.call [Res.c (bo (List.contains (eL l g) o))] []]) (by simp only [inL, vq] <;> rfl)
theorem rm (l : List Mi) (o g : Int) (hl : l.length ≤ 100000) (k : Nat) : ak PP GL XX HH NN (k + 6) 34 [.c (.slice 3 (l.map Mi.cs)), .c (u o), .c (u g)] [] = some ([.c (bo (inL l o g))], []) := Fv l o g hl (oi hl g) k
theorem rL (l : List Mi) (a : Int) (b : Int) (hl : l.length ≤ 100000) (k : Nat) : ak PP GL XX HH NN (k + 7) 33 [A.c (C.slice 3 (List.map Mi.cs l)), A.c (u a), A.c (u b)] [] = some ([Res.c (bo (!inL l a b && !inL l b a))], []) := by
  rcases bft (inL l a b) with z0 | z0
  · exact rt (aa (rm l a b hl k) <| xa6 (cn z0) <| trivial) (gs := xc (G.call [Res.c (bo (inL l a b))] []) <| xg6 gF <| []) (by simp only [z0, vq] <;> rfl)
  · exact rt (aa (rm l a b hl k) <| xa4 (cn z0) <| aa (rm l b a hl k) <| xa2 (cn z0) <| trivial) (gs := xc (G.call [Res.c (bo (inL l a b))] []) <| xg4 gT <| xc (G.call [Res.c (bo (inL l b a))] []) <| xg2 gT <| []) (by simp only [z0, vq] <;> rfl)
theorem dG (c : Cl) (h : c.n0.mints.length + c.n1.mints.length ≤ 1000000) (k : Nat) : ak PP GL XX HH NN (k + 3) 13 [A.agg (Cl.cs c)] [] = some ([Res.top 3 (List.map Mi.cs (aL c))], []) := by
  exact rt (aa (yn c.n0.mints c.n1.mints h k) <| aa (Eq.refl (List.length (List.map Mi.cs (Nd.mints c.n0 ++ Nd.mints c.n1)))) <| trivial) (gs := [G.call [Res.top 3 (List.map Mi.cs (Nd.mints c.n0 ++ Nd.mints c.n1))] []]) (by simp only [aL, vq] <;> rfl)
theorem lj (c : Cl) (k : Nat) : ak PP GL XX HH NN (k + 1) 11 [A.agg (Cl.cs c), A.c (ii 0)] [] = some ([Res.c (u c.n0.store.super.v.cur)], []) := by
  exact rt (aa (rfl : (0 : Int) = 0) <| trivial) (gs := [G.at 0]) rfl
theorem iA (c : Cl) (k : Nat) : ak PP GL XX HH NN (k + 1) 32 [A.agg (Cl.cs c), A.c (ii 0)] [] = some ([Res.c (u c.n0.store.super.v.cur)], []) := by
  exact rt (aa (rfl : (0 : Int) = 0) <| trivial) (gs := [G.at 0]) rfl
theorem lx (c : Cl) (k : Nat) : ak PP GL XX HH NN (k + 1) 11 [A.agg (Cl.cs c), A.c (ii 1)] [] = some ([Res.c (u c.n1.store.super.v.cur)], []) := by
  exact rt (aa (rfl : (1 : Int) = 1) <| trivial) (gs := [G.at 1]) rfl
theorem ip (c : Cl) (k : Nat) : ak PP GL XX HH NN (k + 1) 32 [A.agg (Cl.cs c), A.c (ii 1)] [] = some ([Res.c (u c.n1.store.super.v.cur)], []) := by
  exact rt (aa (rfl : (1 : Int) = 1) <| trivial) (gs := [G.at 1]) rfl
theorem Dh (c : Cl) (h : c.n0.mints.length + c.n1.mints.length ≤ 100000) (hM : List.length (aL c) ≤ 100000) (k : Nat) : ak PP GL XX HH NN (k + 8) 15 [A.agg (Cl.cs c)] [] = some ([Res.c (ii (bif !Nd.up c.n0 || !Nd.up c.n1 then (-1 : Int) else bif Ve.cur c.n0.store.super.v == Ve.cur c.n1.store.super.v then 0 else bif !inL (aL c) c.n0.store.super.v.cur c.n1.store.super.v.cur && !inL (aL c) c.n1.store.super.v.cur c.n0.store.super.v.cur then 3 else bif inL (aL c) c.n1.store.super.v.cur c.n0.store.super.v.cur then 1 else 2))], []) := by
  rcases bft c.n0.up with z0 | z0
  · rcases bft c.n1.up with z1 | z1
    · rcases bft (Ve.cur c.n0.store.super.v == Ve.cur c.n1.store.super.v) with z2 | z2
      · exact rt (xa6 (cn z0) <| aa (cn z1) <| aa (iA c (k + 6)) <| aa (ip c (k + 6)) <| aa (dG c (show c.n0.mints.length + c.n1.mints.length ≤ 1000000 from by omega) (k + 4)) <| aa z2 <| trivial) (gs := xg7 gF <| [G.call [Res.c (u c.n0.store.super.v.cur)] [], G.call [Res.c (u c.n1.store.super.v.cur)] [], G.call [Res.top 3 (List.map Mi.cs (aL c))] [], gT]) (by simp only [z0, z1, z2, vq] <;> rfl)
      · rcases bft (!inL (aL c) c.n0.store.super.v.cur c.n1.store.super.v.cur && !inL (aL c) c.n1.store.super.v.cur c.n0.store.super.v.cur) with z3 | z3
        · exact rt (xa6 (cn z0) <| aa (cn z1) <| aa (iA c (k + 6)) <| aa (ip c (k + 6)) <| aa (dG c (show c.n0.mints.length + c.n1.mints.length ≤ 1000000 from by omega) (k + 4)) <| aa z2 <| aa (rL (aL c) c.n0.store.super.v.cur c.n1.store.super.v.cur hM k) <| aa z3 <| trivial) (gs := xg7 gF <| [G.call [Res.c (u c.n0.store.super.v.cur)] [], G.call [Res.c (u c.n1.store.super.v.cur)] [], G.call [Res.top 3 (List.map Mi.cs (aL c))] [], gF, G.call [Res.c (bo (!inL (aL c) c.n0.store.super.v.cur c.n1.store.super.v.cur && !inL (aL c) c.n1.store.super.v.cur c.n0.store.super.v.cur))] [], gT]) (by simp only [z0, z1, z2, z3, vq] <;> rfl)
        · rcases bft (inL (aL c) c.n1.store.super.v.cur c.n0.store.super.v.cur) with z4 | z4
          · exact rt (xa6 (cn z0) <| aa (cn z1) <| aa (iA c (k + 6)) <| aa (ip c (k + 6)) <| aa (dG c (show c.n0.mints.length + c.n1.mints.length ≤ 1000000 from by omega) (k + 4)) <| aa z2 <| aa (rL (aL c) c.n0.store.super.v.cur c.n1.store.super.v.cur hM k) <| aa z3 <| aa (rm (aL c) c.n1.store.super.v.cur c.n0.store.super.v.cur hM (k + 1)) <| aa z4 <| trivial) (gs := xg7 gF <| [G.call [Res.c (u c.n0.store.super.v.cur)] [], G.call [Res.c (u c.n1.store.super.v.cur)] [], G.call [Res.top 3 (List.map Mi.cs (aL c))] [], gF, G.call [Res.c (bo (!inL (aL c) c.n0.store.super.v.cur c.n1.store.super.v.cur && !inL (aL c) c.n1.store.super.v.cur c.n0.store.super.v.cur))] [], gF, G.call [Res.c (bo (inL (aL c) c.n1.store.super.v.cur c.n0.store.super.v.cur))] [], gT]) (by simp_all only [vq] <;> rfl)
          · exact rt (xa6 (cn z0) <| aa (cn z1) <| aa (iA c (k + 6)) <| aa (ip c (k + 6)) <| aa (dG c (show c.n0.mints.length + c.n1.mints.length ≤ 1000000 from by omega) (k + 4)) <| aa z2 <| aa (rL (aL c) c.n0.store.super.v.cur c.n1.store.super.v.cur hM k) <| aa z3 <| aa (rm (aL c) c.n1.store.super.v.cur c.n0.store.super.v.cur hM (k + 1)) <| aa z4 <| trivial) (gs := xg7 gF <| [G.call [Res.c (u c.n0.store.super.v.cur)] [], G.call [Res.c (u c.n1.store.super.v.cur)] [], G.call [Res.top 3 (List.map Mi.cs (aL c))] [], gF, G.call [Res.c (bo (!inL (aL c) c.n0.store.super.v.cur c.n1.store.super.v.cur && !inL (aL c) c.n1.store.super.v.cur c.n0.store.super.v.cur))] [], gF, G.call [Res.c (bo (inL (aL c) c.n1.store.super.v.cur c.n0.store.super.v.cur))] [], gF]) (by simp_all only [vq] <;> rfl)
    · exact rt (xa6 (cn z0) <| aa (cn z1) <| trivial) (gs := xg6 gF <| [gT]) (by simp only [z0, z1, vq] <;> rfl)
  · exact rt (xa6 (cn z0) <| aa tt <| trivial) (gs := xg7 gT <| []) (by simp only [z0, vq] <;> rfl)
theorem il (c : Cl) : (aL c).length = c.n0.mints.length + c.n1.mints.length := by unfold aL; rw [List.length_append]
theorem AG (c : Cl) (h : c.n0.mints.length + c.n1.mints.length ≤ 100000) (k : Nat) : ak PP GL XX HH NN (k + 8) 15 [.agg c.cs] [] = some ([.c (ii (BG c))], []) := by
  have := Dh c h (by rw [il]; exact h) k
  rw [this]
  unfold BG iB
  simp only [show ((0 : Int) == 0) = true from rfl, show ((1 : Int) == 0) = false from rfl, cond_true, cond_false]
  cases inL (aL c) c.n0.store.super.v.cur c.n1.store.super.v.cur <;> cases inL (aL c) c.n1.store.super.v.cur c.n0.store.super.v.cur <;> rfl
theorem Be (c : Cl) (old : Int) (g : Int) (h : c.n0.mints.length + c.n1.mints.length ≤ 100000) (hM : List.length (aL c) ≤ 100000) (h2 : List.length (eL (aL c) g) ≤ 1000000) (k : Nat) : ak PP GL XX HH NN (k + 7) 17 [A.agg (Cl.cs c), A.c (u old), A.c (u g)] [] = some ([Res.c (ii (dY c old g))], []) := by
  exact rt (aa (dG c (show c.n0.mints.length + c.n1.mints.length ≤ 1000000 from by omega) (k + 3)) <| aa (zN (aL c) g hM (k + 1)) <| aa (xr (eL (aL c) g) old h2 (k + 4)) <| trivial) (gs := [G.call [Res.top 3 (List.map Mi.cs (aL c))] [], G.call [Res.top 1 (List.map eU (eL (aL c) g))] [], G.call [Res.c (ii (uM (eL (aL c) g) old))] []]) (by simp only [dY, vq] <;> rfl)
theorem gG (c : Cl) (old g : Int) (h : c.n0.mints.length + c.n1.mints.length ≤ 100000) (k : Nat) : ak PP GL XX HH NN (k + 7) 17 [.agg c.cs, .c (u old), .c (u g)] [] = some ([.c (ii (dY c old g))], []) := by
  have hM : (aL c).length ≤ 100000 := by rw [il]; exact h
  exact Be c old g h hM (oi hM g) k
theorem Fd (c : Cl) (d : Cl) (k : Nat) : ak PP GL XX HH NN (k + 1) 40 [A.c (ii 0), A.c (C.rptr (Cl.cs d)), A.c (C.rptr (Cl.cs c))] [] = some ([Res.c (bo (Nd.state d.n0 == 4 && !Nd.state c.n0 == 4))], []) := by
  rcases bft (Nd.state d.n0 == 4) with z0 | z0
  · exact rt (aa (rfl : (0 : Int) = 0) <| xa3 z0 <| aa (rfl : (0 : Int) = 0) <| xa4 z0 <| trivial) (gs := xc (G.at 0) <| xg3 gT <| xc (G.at 0) <| xg4 gT <| []) (by simp only [z0, vq] <;> rfl)
  · exact rt (aa (rfl : (0 : Int) = 0) <| xa7 z0 <| trivial) (gs := xc (G.at 0) <| xg7 gF <| []) (by simp only [z0, vq] <;> rfl)
theorem Fj (c : Cl) (d : Cl) (k : Nat) : ak PP GL XX HH NN (k + 1) 40 [A.c (ii 1), A.c (C.rptr (Cl.cs d)), A.c (C.rptr (Cl.cs c))] [] = some ([Res.c (bo (Nd.state d.n1 == 4 && !Nd.state c.n1 == 4))], []) := by
  rcases bft (Nd.state d.n1 == 4) with z0 | z0
  · exact rt (aa (rfl : (1 : Int) = 1) <| xa3 z0 <| aa (rfl : (1 : Int) = 1) <| xa4 z0 <| trivial) (gs := xc (G.at 1) <| xg3 gT <| xc (G.at 1) <| xg4 gT <| []) (by simp only [z0, vq] <;> rfl)
  · exact rt (aa (rfl : (1 : Int) = 1) <| xa7 z0 <| trivial) (gs := xc (G.at 1) <| xg7 gF <| []) (by simp only [z0, vq] <;> rfl)
theorem EH (c : Cl) (d : Cl) (k : Nat) : ak PP GL XX HH NN (k + 2) 39 [A.c (C.slice 1 [[ii 0], [ii 1]]), A.c (C.fn 40 [C.rptr (Cl.cs d), C.rptr (Cl.cs c)])] [] = some ([Res.c (ii (cB c d))], []) := by
  rcases bft (Nd.state d.n0 == 4 && !Nd.state c.n0 == 4) with z0 | z0
  · exact rt (aa (rfl : (2 : Nat) = (2 : Nat)) <| aa tt <| aa (rfl : (0 : Int) = (0 : Int)) <| aa (rfl : some ([ii 0]) = some ([ii 0])) <| aa (Fd c d k) <| aa z0 <| trivial) (gs := [G.len 2, G.un, gT, G.idx 0 [ii 0], G.call [Res.c (bo (Nd.state d.n0 == 4 && !Nd.state c.n0 == 4))] [], gT]) (by simp only [cB, z0, vq] <;> rfl)
  · rcases bft (Nd.state d.n1 == 4 && !Nd.state c.n1 == 4) with z1 | z1
    · exact rt (aa (rfl : (2 : Nat) = (2 : Nat)) <| aa tt <| aa (rfl : (0 : Int) = (0 : Int)) <| aa (rfl : some ([ii 0]) = some ([ii 0])) <| aa (Fd c d k) <| aa z0 <| aa tt <| aa (rfl : (1 : Int) = (1 : Int)) <| aa (rfl : some ([ii 1]) = some ([ii 1])) <| aa (Fj c d k) <| aa z1 <| trivial) (gs := [G.len 2, G.un, gT, G.idx 0 [ii 0], G.call [Res.c (bo (Nd.state d.n0 == 4 && !Nd.state c.n0 == 4))] [], gF, gT, G.idx 1 [ii 1], G.call [Res.c (bo (Nd.state d.n1 == 4 && !Nd.state c.n1 == 4))] [], gT]) (by simp only [cB, z0, z1, vq] <;> rfl)
    · exact rt (aa (rfl : (2 : Nat) = (2 : Nat)) <| aa tt <| aa (rfl : (0 : Int) = (0 : Int)) <| aa (rfl : some ([ii 0]) = some ([ii 0])) <| aa (Fd c d k) <| aa z0 <| aa tt <| aa (rfl : (1 : Int) = (1 : Int)) <| aa (rfl : some ([ii 1]) = some ([ii 1])) <| aa (Fj c d k) <| aa z1 <| aa ff <| trivial) (gs := xc (G.len 2) <| xc G.un <| xc gT <| xc (G.idx 0 [ii 0]) <| xc (G.call [Res.c (bo (Nd.state d.n0 == 4 && !Nd.state c.n0 == 4))] []) <| xc gF <| xc gT <| xc (G.idx 1 [ii 1]) <| xc (G.call [Res.c (bo (Nd.state d.n1 == 4 && !Nd.state c.n1 == 4))] []) <| xg2 gF <| []) (by simp only [cB, z0, z1, vq] <;> rfl)
theorem qL (c : Cl) (d : Cl) (k : Nat) : ak PP GL XX HH NN (k + 3) 19 [A.agg (Cl.cs c), A.agg (Cl.cs d)] [] = some ([Res.c (ii (cB c d))], []) := by
  exact rt (aa (EH c d k) <| trivial) (gs := [G.call [Res.c (ii (cB c d))] []]) rfl
def Ssa (l : List Mi) (c0 : Int) : St := St.mk (tc (C.slice 3 (List.map Mi.cs l)) :: tc (C.slice 3 (List.map Mi.cs l)) :: T.hole :: T.hole :: T.hole :: tc (ii c0) :: hs 20 []) [] []
theorem Ej (l : List Mi) (i : Nat) (x : Mi) (hx : l[i]? = some x) (k : Nat) (z0 : (decide ((↑i : Int) < (↑(l.length) : Int))) = true) (z1 : (Mi.g x == Mi.g x && (Mi.p x == Mi.p x && (Mi.n x == Mi.n x && true))) = true) : bw (EE (k + 1)) (HH 12) NN (LB PP 12 4) 0 0 (Ssa l (↑i : Int)) (Ssa l (IntKind.wrap .i64 ((↑i : Int) + 1))) :=
  bh (aa (au (Mi.cs) (l)) <| aa z0 <| aa (rfl : (↑i : Int) = (↑i : Int)) <| aa (aI (f := Mi.cs) hx) <| aa (rfl : (↑i : Int) = (↑i : Int)) <| aa (aI (f := Mi.cs) hx) <| aa (cn z1) <| trivial) (gs := xc (G.len (l.length)) <| xc gT <| xg2 (G.idx i [u x.g, u x.p, ii x.n]) <| [gF]) (by kernel_rfl)
def wl (l : List Mi) (i : Nat) : St := St.mk (tc (C.slice 3 (List.map Mi.cs l)) :: tc (C.slice 3 (List.map Mi.cs l)) :: T.hole :: T.hole :: T.hole :: tc (ii (↑i : Int)) :: hs 5 (tc (ii (↑i : Int)) :: tc (C.slice 3 (List.map Mi.cs l)) :: tc (ii (↑(l.length) : Int)) :: tc (bo (decide ((↑i : Int) < (↑(l.length) : Int)))) :: hs 11 [])) [] []
theorem EB (l : List Mi) (i : Nat) (k : Nat) (z0 : (decide ((↑i : Int) < (↑(l.length) : Int))) = false) : cm (EE (k + 1)) (HH 12) NN (LB PP 12 4) (Ssa l (↑i : Int)) (Ext.exit 0) (wl l i) :=
  bI (aa (au (Mi.cs) (l)) <| aa z0 <| trivial) (gs := [G.len (l.length), gF]) (by kernel_rfl)
theorem saF (l : List Mi) (hL : ∀ k, bz (EE (k + 1)) (HH 12) NN (LB PP 12 4) (Ssa l 0) (Ext.exit 0) (wl l (l.length))) (k : Nat) : ak PP GL XX HH NN (k + 2) 12 [A.c (C.slice 3 (List.map Mi.cs l)), A.c (C.slice 3 (List.map Mi.cs l))] [] = some ([Res.c (bo true)], []) := by
  exact rt (xa2 (au (Mi.cs) (l)) <| aa (cn (Ef ((↑(l.length) : Int)))) <| aa (hL k) <| trivial) (gs := xg2 (G.len (l.length)) <| [gF, G.loop (Ext.exit 0) (wl l (l.length))]) rfl
theorem CT (l : List Mi) (hl : l.length ≤ 1000000) (k : Nat) : ak PP GL XX HH NN (k + 2) 12 [.c (.slice 3 (l.map Mi.cs)), .c (.slice 3 (l.map Mi.cs))] [] = some ([.c (bo true)], []) := by
  refine saF l (fun k => ?_) k
  refine fR (E := EE (k + 1)) (nv := 0) (nt := 0) (fun i => Ssa l (i : Nat)) l.length rfl (by kernel_rfl) (by kernel_rfl) (fun i hi => ?_) (EB l l.length k dge) (by unfold NN; omega)
  have hx : l[i]? = some l[i] := List.getElem?_eq_getElem hi
  have := Ej l i l[i] hx k (dlt hx) (by simp)
  rwa [qJ hx (by omega)] at this
theorem xQ (c : Cl) (d : Cl) (h : c.n0.mints.length + c.n1.mints.length ≤ 100000) (hM : List.length (aL c) ≤ 100000) (hS : ∀ k, ak PP GL XX HH NN (k + 6) 19 [A.agg (Cl.cs c), A.agg (Cl.cs d)] [] = some ([Res.c (ii (-1 : Int))], [])) (k : Nat) : ak PP GL XX HH NN (k + 7) 21 [A.agg (Cl.cs c), A.agg (Cl.cs d)] [] = some ([Res.c (bo true)], []) := by
  exact rt (aa (hS k) <| aa tt <| trivial) (gs := [G.call [Res.c (ii (-1 : Int))] [], gT]) rfl
theorem y3 (c : Cl) (d : Cl) (h : c.n0.mints.length + c.n1.mints.length ≤ 100000) (hM : List.length (aL c) ≤ 100000) (hS : ∀ k, ak PP GL XX HH NN (k + 6) 19 [A.agg (Cl.cs c), A.agg (Cl.cs d)] [] = some ([Res.c (ii 0)], [])) (k : Nat) : ak PP GL XX HH NN (k + 7) 21 [A.agg (Cl.cs c), A.agg (Cl.cs d)] [] = some ([Res.c (bo (Nd.up c.n0 && Nd.up c.n1 && (Su.inc c.n0.store.super || (Su.dis c.n0.store.super || inL (aL c) c.n0.store.super.v.cur c.n1.store.super.v.cur))))], []) := by
  rcases bft c.n0.up with z0 | z0
  · rcases bft c.n1.up with z1 | z1
    · rcases bft c.n0.store.super.inc with z2 | z2
      · exact rt (aa (hS k) <| aa ff <| xa6 (cn z0) <| aa (cn z1) <| aa (rfl : (0 : Int) = 0) <| xa3 z2 <| ud tt <| trivial) (gs := xc (G.call [Res.c (ii 0)] []) <| xg8 gF <| xc (G.at 0) <| bv gT <| xg2 gT <| []) (by simp only [z0, z1, z2, vq] <;> rfl)
      · rcases bft c.n0.store.super.dis with z3 | z3
        · exact rt (aa (hS k) <| aa ff <| xa6 (cn z0) <| aa (cn z1) <| aa (rfl : (0 : Int) = 0) <| xa3 z2 <| ud z3 <| trivial) (gs := xc (G.call [Res.c (ii 0)] []) <| xg8 gF <| xc (G.at 0) <| xg3 gF <| gu gT <| []) (by simp only [z0, z1, z2, z3, vq] <;> rfl)
        · exact rt (aa (hS k) <| aa ff <| xa6 (cn z0) <| aa (cn z1) <| aa (rfl : (0 : Int) = 0) <| xa3 z2 <| xa2 z3 <| aa (dG c (show c.n0.mints.length + c.n1.mints.length ≤ 1000000 from by omega) (k + 3)) <| xa3 z3 <| aa (iA c (k + 5)) <| xa4 z3 <| aa (ip c (k + 5)) <| aa z3 <| aa (rm (aL c) c.n0.store.super.v.cur c.n1.store.super.v.cur hM k) <| aa z3 <| trivial) (gs := xc (G.call [Res.c (ii 0)] []) <| xg8 gF <| xc (G.at 0) <| xg5 gF <| xc (G.call [Res.top 3 (List.map Mi.cs (aL c))] []) <| xg3 gF <| xc (G.call [Res.c (u c.n0.store.super.v.cur)] []) <| xg4 gF <| [G.call [Res.c (u c.n1.store.super.v.cur)] [], gF, G.call [Res.c (bo (inL (aL c) c.n0.store.super.v.cur c.n1.store.super.v.cur))] [], gF]) (by simp only [z0, z1, z2, z3, vq] <;> rfl)
    · exact rt (aa (hS k) <| aa ff <| xa6 (cn z0) <| aa (cn z1) <| trivial) (gs := xc (G.call [Res.c (ii 0)] []) <| xg7 gF <| [gT]) (by simp only [z0, z1, vq] <;> rfl)
  · exact rt (aa (hS k) <| aa ff <| xa6 (cn z0) <| aa tt <| trivial) (gs := xc (G.call [Res.c (ii 0)] []) <| xc gF <| xg7 gT <| []) (by simp only [z0, vq] <;> rfl)
theorem yg (c : Cl) (d : Cl) (h : c.n0.mints.length + c.n1.mints.length ≤ 100000) (hM : List.length (aL c) ≤ 100000) (hS : ∀ k, ak PP GL XX HH NN (k + 6) 19 [A.agg (Cl.cs c), A.agg (Cl.cs d)] [] = some ([Res.c (ii 1)], [])) (k : Nat) : ak PP GL XX HH NN (k + 7) 21 [A.agg (Cl.cs c), A.agg (Cl.cs d)] [] = some ([Res.c (bo (Nd.up c.n0 && Nd.up c.n1 && (Su.inc c.n1.store.super || (Su.dis c.n1.store.super || inL (aL c) c.n1.store.super.v.cur c.n0.store.super.v.cur))))], []) := by
  rcases bft c.n0.up with z0 | z0
  · rcases bft c.n1.up with z1 | z1
    · rcases bft c.n1.store.super.inc with z2 | z2
      · exact rt (aa (hS k) <| aa ff <| xa6 (cn z0) <| aa (cn z1) <| aa (rfl : (1 : Int) = 1) <| xa3 z2 <| ud tt <| trivial) (gs := xc (G.call [Res.c (ii 1)] []) <| xg8 gF <| xc (G.at 1) <| bv gT <| xg2 gT <| []) (by simp only [z0, z1, z2, vq] <;> rfl)
      · rcases bft c.n1.store.super.dis with z3 | z3
        · exact rt (aa (hS k) <| aa ff <| xa6 (cn z0) <| aa (cn z1) <| aa (rfl : (1 : Int) = 1) <| xa3 z2 <| ud z3 <| trivial) (gs := xc (G.call [Res.c (ii 1)] []) <| xg8 gF <| xc (G.at 1) <| xg3 gF <| gu gT <| []) (by simp only [z0, z1, z2, z3, vq] <;> rfl)
        · exact rt (aa (hS k) <| aa ff <| xa6 (cn z0) <| aa (cn z1) <| aa (rfl : (1 : Int) = 1) <| xa3 z2 <| xa2 z3 <| aa (dG c (show c.n0.mints.length + c.n1.mints.length ≤ 1000000 from by omega) (k + 3)) <| xa3 z3 <| aa (ip c (k + 5)) <| xa4 z3 <| aa (iA c (k + 5)) <| aa z3 <| aa (rm (aL c) c.n1.store.super.v.cur c.n0.store.super.v.cur hM k) <| aa z3 <| trivial) (gs := xc (G.call [Res.c (ii 1)] []) <| xg8 gF <| xc (G.at 1) <| xg5 gF <| xc (G.call [Res.top 3 (List.map Mi.cs (aL c))] []) <| xg3 gF <| xc (G.call [Res.c (u c.n1.store.super.v.cur)] []) <| xg4 gF <| [G.call [Res.c (u c.n0.store.super.v.cur)] [], gF, G.call [Res.c (bo (inL (aL c) c.n1.store.super.v.cur c.n0.store.super.v.cur))] [], gF]) (by simp only [z0, z1, z2, z3, vq] <;> rfl)
    · exact rt (aa (hS k) <| aa ff <| xa6 (cn z0) <| aa (cn z1) <| trivial) (gs := xc (G.call [Res.c (ii 1)] []) <| xg7 gF <| [gT]) (by simp only [z0, z1, vq] <;> rfl)
  · exact rt (aa (hS k) <| aa ff <| xa6 (cn z0) <| aa tt <| trivial) (gs := xc (G.call [Res.c (ii 1)] []) <| xc gF <| xg7 gT <| []) (by simp only [z0, vq] <;> rfl)
theorem pQ (c d : Cl) : cB c d = -1 ∨ cB c d = 0 ∨ cB c d = 1 := by
  unfold cB
  cases d.n0.state == 4 && !(c.n0.state == 4) <;> cases d.n1.state == 4 && !(c.n1.state == 4) <;> simp
theorem Dl (c d : Cl) (h : c.n0.mints.length + c.n1.mints.length ≤ 100000) (k : Nat) : ak PP GL XX HH NN (k + 7) 21 [.agg c.cs, .agg d.cs] [] = some ([.c (bo (mD c d))], []) := by
  have hM : (aL c).length ≤ 100000 := by rw [il]; exact h
  have hS := fun k => qL c d (k + 3)
  unfold mD ge iB
  rcases pQ c d with e | e | e
  · rw [e] at hS ⊢; exact xQ c d h hM hS k
  · rw [e] at hS ⊢
    refine (y3 c d h hM hS k).trans ?_
    simp [Bool.or_assoc]
  · rw [e] at hS ⊢
    refine (yg c d h hM hS k).trans ?_
    simp [Bool.or_assoc]
end Go.Dm
namespace Go.Proofs
open Go.RowKit Go.Shelf Go.Dm
attribute [local go_sem] Oper.semAt_some
def iC (W : World) (b : Nat) (m : List (Int × Int)) : Prop := ∃ es clock, W.heap[b]? = some (.map es clock) ∧ es.toList.map (fun e => (e.key, e.val)) = o7 m
theorem iC.made (w : World) : iC (w.alloc (.map #[] 0)) w.heap.size [] := ⟨#[], 0, World.alloc_heap_new w _, rfl⟩
theorem iC.kept {w w' : World} {row : Option Nat} {b : Nat} {m : List (Int × Int)} (h : iC w b m) (hg : w.grownBy w' row) (hne : some b ≠ row) : iC w' b m := by
  obtain ⟨es, c, h1, h2⟩ := h
  exact ⟨es, c, (hg.block b (Array.getElem?_eq_some_iff.1 h1).1 hne).trans h1, h2⟩
theorem iC.alloc {w : World} {b : Nat} {m : List (Int × Int)} (h : iC w b m) (o : Obj) : iC (w.alloc o) b m := h.kept (World.grownBy_alloc w o none) (by simp)
theorem si (g p : Int) : ∀ (es : List MapEntry) (m : List (Int × Int)) (i : Nat), es.map (fun e => (e.key, e.val)) = o7 m →
    (Instr.findNow (.int .u64) (.int .u64 g) es i = some none ∧ upd g p m = m ++ [(g, p)]) ∨
    (∃ j e, Instr.findNow (.int .u64) (.int .u64 g) es i = some (some (i + j, e.val)) ∧ es[j]? = some e ∧ e.key = .int .u64 g ∧ o7 (upd g p m) = (es.modify j fun e => { e with key := .int .u64 g, val := .int .u64 p }).map (fun e => (e.key, e.val)))
  | [], m, i, h => by
    cases m with
    | nil => exact .inl ⟨rfl, rfl⟩
    | cons _ _ => simp [o7] at h
  | e :: es, m, i, h => by
    cases m with
    | nil => simp [o7] at h
    | cons x m =>
      obtain ⟨a, b⟩ := x
      simp only [List.map_cons, List.cons.injEq, Prod.mk.injEq, o7] at h
      obtain ⟨⟨h1, h2⟩, h3⟩ := h
      have hs : Instr.sameNow (.int .u64) (.int .u64 g) e.key = some (g == a) := by rw [h1]; simp [Instr.sameNow]
      cases hga : g == a with
      | true =>
        obtain rfl := eq_of_beq hga
        refine .inr ⟨0, e, by simp [Instr.findNow, hs], rfl, h1, ?_⟩
        simp [upd, o7]
        exact h3.symm
      | false =>
        rw [hga] at hs
        rcases si g p es m (i + 1) h3 with ⟨h4, h5⟩ | ⟨j, e', h4, h5, h6, h7⟩
        · exact .inl ⟨by simp [Instr.findNow, hs, h4], by simp [upd, hga, h5]⟩
        · refine .inr ⟨j + 1, e', by simp [Instr.findNow, hs, h4]; omega, by simpa using h5, h6, ?_⟩
          simp only [upd, hga, Bool.false_eq_true, if_false, o7, List.map_cons, List.modify_succ_cons, h1, h2]
          simp only [o7] at h7
          rw [h7]
theorem iC.update {P : Program} {t k e : TypeId} {w : World} {b : Nat} {m : List (Int × Int)} (h : iC w b m) (ht : P.underlying t = some (.map k e)) (hk : P.underlying k = some (.int .u64)) (g p : Int) :
    ∃ w', (Instr.mapUpdate t (.map (some b)) (.int .u64 g) (.int .u64 p)).run P w = .ok () w' ∧ iC w' b (upd g p m) ∧ w.grownBy w' (some b) := by
  obtain ⟨es, clock, hb, he⟩ := h
  have hck := MapKept.run_checkKey (P := P) (w := w) (kt := k) (d := .int .u64) (k := .int .u64 g) hk rfl false 9999
  rcases si g p es.toList m 0 he with ⟨h1, h2⟩ | ⟨j, x, h1, h2, h3, h4⟩
  · refine ⟨{ w with heap := w.heap.setIfInBounds b (.map (es.push { key := .int .u64 g, val := .int .u64 p, born := clock }) (clock + 1)) }, ?_, ⟨_, _, (MapKept.heap_set hb).1, ?_⟩, ⟨rfl, rfl, rfl, by simp, fun i _ hi => (MapKept.heap_set hb).2 i (fun e => hi (by rw [e]))⟩⟩
    · simp [Instr.mapUpdate, run_underlying ht, MapKept.run_getObj_map hb, hck, MapKept.run_findKey hk h1, MapKept.run_setObj_map _ hb, Result.andThen]
    rw [h2]
    simp [o7] at he ⊢
    rw [he]
  · have hj : es[j]? = some x := by simpa using h2
    have hst := MapKept.run_keyThatStays (P := P) (w := w) (d := .int .u64) (k := .int .u64 g) rfl
    rw [Nat.zero_add] at h1
    refine ⟨{ w with heap := w.heap.setIfInBounds b (.map (es.modify j fun e => { e with key := .int .u64 g, val := .int .u64 p }) clock) }, ?_, ⟨_, _, (MapKept.heap_set hb).1, ?_⟩, ⟨rfl, rfl, rfl, by simp, fun i _ hi => (MapKept.heap_set hb).2 i (fun e => hi (by rw [e]))⟩⟩
    · simp [Instr.mapUpdate, run_underlying ht, MapKept.run_getObj_map hb, hck, MapKept.run_findKey hk h1, hj, h3, hst, MapKept.run_setObj_map _ hb, Result.andThen]
    rw [h4, Array.toList_modify]
theorem gV {F : Fence} {nF : Nat} {P : Program} (w : World) {ops : Array Oper} {rest : List Oper} {o : Oper} {a : Act} {Q : Exit → Act → World → Prop}
    (hg : o.guard = none) (m x v : Operand) (t : TypeId) (hop : o.op = Op.mapUpdate t m x v)
    (k e : TypeId) (ht : P.underlying t = some (.map k e)) (hk : P.underlying k = some (.int .u64)) (b : Nat) (D : List (Int × Int))
    (hm : a.eval m = .map (some b)) (hown : iC w b D) (g p : Int) (hx : a.eval x = .int .u64 g) (hv : a.eval v = .int .u64 p)
    (hK : ∀ w', iC w' b (upd g p D) → w.grownBy w' (some b) → wpListIn F nF P ops Q rest (a.put o.dst undef) w') :
    wpListIn F nF P ops Q (o :: rest) a w := by
  refine wpListIn_plain hg fun K' hK' => ?_
  obtain ⟨w', hrun, r1, r2⟩ := hown.update ht hk g p
  unfold Oper.wpIn
  refine ⟨by simp [Oper.about, hop], ?_⟩
  rw [Oper.semAt_plain F _ _ (by rw [hop]; intro c hc'; cases hc')]
  simp [execOp, hop, hm, hx, hv, hrun, Result.andThen]
  exact hK' _ _ (hK w' r1 r2)
end Go.Proofs
namespace Go.Proofs
open Go.RowKit Go.Shelf Go.Dm
attribute [local go_sem] Oper.semAt_some
def bk (l : List Mi) (k : Nat) : List (Nat × Mi) := (List.range k).map fun j => (l.length - 1 - j, l[l.length - 1 - j]?.getD default)
theorem vG (l : List Mi) (k : Nat) : bk l (k + 1) = bk l k ++ [(l.length - 1 - k, l[l.length - 1 - k]?.getD default)] := by simp [bk, List.range_succ]
theorem v4 (l : List Mi) (k : Nat) : (bk l k).length = k := by simp [bk]
abbrev ES (x : Nat × Mi) : Array Value := #[.int .i64 (x.1 : Int), .agg #[.int .u64 x.2.g, .int .u64 x.2.p, .int .i64 x.2.n]]
def KpB (n₀ Bs : Nat) (A B : World) : Prop := Below n₀ A B ∧ B.heap[Bs]? = A.heap[Bs]?
theorem KpB.refl (n₀ Bs : Nat) (A : World) : KpB n₀ Bs A A := ⟨Below.refl _ _, rfl⟩
theorem KpB.trans {n₀ Bs : Nat} {A B C : World} (h : KpB n₀ Bs A B) (k : KpB n₀ Bs B C) : KpB n₀ Bs A C := ⟨h.1.trans k.1, k.2.trans h.2⟩
theorem KpB.putObj {n₀ Bs : Nat} {w : World} (hn : n₀ ≤ w.heap.size) (hB : Bs < w.heap.size) (W : World) (l : Nat) (o o' : Obj) (hl : w.heap.size ≤ l) (h : W.heap[l]? = some o) (h1 : o.isCells = false) (h2 : o.isWalk = false) : KpB n₀ Bs W (W.putObj l o') :=
  ⟨belowK_b hn W l o o' hl h h1 h2, World.putObj_heap_other (by omega)⟩
set_option maxRecDepth 100000 in
set_option maxHeartbeats 2000000 in
theorem Bw.closure_in (F : Fence) (n : Nat) (h24 : F.fn 104) (hro : F.round = none) (hn : 1 ≤ n) (l Bs n₀ b off cap : Nat) (zs : List Mi) (hreach : zs.length ≤ 1000000) (hb : b < n₀) (J Jx : List (Nat × Mi) → World → Prop)
    (hY : ∀ pre x W, J pre W → pre.length < zs.length → YieldAt F (n - 1) Tryz.prog l (ES x) W fun e W' =>
      (e = .returned (.bool true) ∧ J (pre ++ [x]) W' ∧ KpB n₀ Bs W W') ∨ (e = .returned (.bool false) ∧ Jx (pre ++ [x]) W'))
    (W : World) (hBs : W.cell? ⟨Bs, 0, none⟩ = some (.slice (some ⟨b, off, none⟩) zs.length cap))
    (hc : ∀ j, j < zs.length → W.rangeAt b (off + j * 3) [.int .u64 (zs[j]?.getD default).g, .int .u64 (zs[j]?.getD default).p, .int .i64 (zs[j]?.getD default).n]) (h0 : J [] W) :
    CallsIn F n Tryz.prog 104 #[.func (.yield l) #[] #[], .pointer (some ⟨Bs, 0, none⟩)] W fun e W' => (∃ v, e = .returned v) ∧
      ((∃ ys, ys = bk zs zs.length ∧ J ys W') ∨ (∃ pre, (∃ k, k ≤ zs.length ∧ pre = bk zs k) ∧ Jx pre W')) := by
  refine callsIn_of_wp Tryz.func104 rfl h24 ?_ hro
  simp only [Tryz.ntmps104, List.size_toArray, List.length_cons, List.length_nil, Nat.reduceAdd, Nat.reduceSub, Array.replicate_succ, Array.replicate_zero, List.push_toArray, List.append_toArray, List.nil_append, List.cons_append]
  gi_wp2
  gi_loopw [3] (fun i wr => ∃ k : Nat, k ≤ zs.length ∧ i = .int .i64 ((zs.length : Int) - 1 - k) ∧ J (bk zs k) wr ∧ KpB n₀ Bs W wr)
    (fun i _ => (intOf i + 1).toNat)
  case atStart => exact ⟨0, Nat.zero_le _, by simp, h0, KpB.refl _ _ _⟩
  case round =>
    obtain ⟨k, hk, rfl, hJs, hnx⟩ := hrel
    by_cases hlt : k < zs.length
    · obtain ⟨fn, tmps, assign, body, hy, hR⟩ := hY _ (zs.length - 1 - k, zs[zs.length - 1 - k]?.getD default) wr hJs (by rw [v4]; exact hlt)
      obtain ⟨q, hq⟩ : ∃ q, zs.length - 1 - k = q := ⟨_, rfl⟩
      have hqi : (zs.length : Int) - 1 - k = (q : Int) := by omega
      have hql : q < zs.length := by omega
      simp only [ES, hq] at hy
      rw [hqi]
      have hBx : wr.cell? ⟨Bs, 0, none⟩ = some (.slice (some ⟨b, off, none⟩) zs.length cap) := (World.cell?_of_block (w := W) hnx.2).trans hBs
      have hr := hc q hql
      have hx0 : wr.cell? ⟨b, off + q * 3, none⟩ = _ := (hnx.1.cell (p := ⟨b, off + q * 3, none⟩) hb).trans (hr 0 _ rfl)
      have hx1 : wr.cell? ⟨b, off + q * 3 + 1, none⟩ = _ := (hnx.1.cell (p := ⟨b, off + q * 3 + 1, none⟩) hb).trans (hr 1 _ rfl)
      have hx2 : wr.cell? ⟨b, off + q * 3 + 2, none⟩ = _ := (hnx.1.cell (p := ⟨b, off + q * 3 + 2, none⟩) hb).trans (hr 2 _ rfl)
      clear hc
      simp only [List.getElem?_eq_getElem hql, Option.getD_some] at hy hx0 hx1 hx2
      gi_wp2
      refine hR.mono ?_
      rintro e W3 (⟨rfl, hJ3, hk3⟩ | ⟨rfl, hJx3⟩)
      · gi_wp2
        go_roundw
        case rel => exact ⟨k + 1, by omega, by simp; omega, by rw [vG]; exact hJ3, hnx.trans hk3⟩
        case measure => simp [intOf]
      · gi_wp2
        refine bodyPost_ret (results_none rfl _ _ _) rfl ?_
        exact ⟨⟨_, rfl⟩, .inr ⟨_, ⟨k + 1, by omega, (vG _ _).symm⟩, hJx3⟩⟩
    · obtain rfl : k = zs.length := by omega
      gi_wp2
      go_end0
      exact ⟨⟨_, rfl⟩, .inl ⟨_, rfl, hJs⟩⟩
set_option maxRecDepth 100000 in
set_option maxHeartbeats 1000000 in
theorem Bw.closure_nil_in (F : Fence) (n : Nat) (h24 : F.fn 104) (hro : F.round = none) (l Bs cap : Nat) (a : Option Addr) (J : List (Nat × Mi) → World → Prop) (W : World) (hBs : W.cell? ⟨Bs, 0, none⟩ = some (.slice a 0 cap)) (h0 : J [] W) :
    CallsIn F n Tryz.prog 104 #[.func (.yield l) #[] #[], .pointer (some ⟨Bs, 0, none⟩)] W fun e W' => (∃ v, e = .returned v) ∧ J [] W' := by
  refine callsIn_of_wp Tryz.func104 rfl h24 ?_ hro
  simp only [Tryz.ntmps104, List.size_toArray, List.length_cons, List.length_nil, Nat.reduceAdd, Nat.reduceSub, Array.replicate_succ, Array.replicate_zero, List.push_toArray, List.append_toArray, List.nil_append, List.cons_append]
  gi_wp2
  gi_loopw [3] (fun i wr => i = .int .i64 (-1) ∧ J [] wr) (fun _ _ => 0)
  case atStart => exact ⟨by simp, h0⟩
  case round =>
    obtain ⟨rfl, hJs⟩ := hrel
    gi_wp2
    go_end0
    exact ⟨⟨_, rfl⟩, hJs⟩
set_option maxHeartbeats 1000000 in
theorem Bw.backward_in (F : Fence) (n : Nat) (h22 : F.fn 72) (hro : F.round = none) (a : Option Addr) (len cap : Nat) (w : World) :
    CallsIn F n Tryz.prog 72 #[.slice a len cap] w fun e w' => e = .returned (.func (.func 104) #[] #[.pointer (some ⟨w.heap.size, 0, none⟩)]) ∧ w' = w.alloc (.cells #[.slice a len cap] 43) := by
  refine callsIn_of_wp Tryz.func72 rfl h22 ?_ hro
  simp only [Tryz.ntmps72, List.size_toArray, List.length_cons, List.length_nil, Nat.reduceAdd, Nat.reduceSub, Array.replicate_succ, Array.replicate_zero, List.push_toArray, List.append_toArray, List.nil_append, List.cons_append]
  gi_wp2
  go_ret
  exact ⟨rfl, rfl⟩
def j4 (n₀ : Nat) (W : World) (sv : Value) (zs : List Mi) : Prop :=
  (∃ a cap, sv = .slice a 0 cap ∧ zs = []) ∨ ∃ b off cap, sv = .slice (some ⟨b, off, none⟩) zs.length cap ∧ b < n₀ ∧
    ∀ j, j < zs.length → W.rangeAt b (off + j * 3) [.int .u64 (zs[j]?.getD default).g, .int .u64 (zs[j]?.getD default).p, .int .i64 (zs[j]?.getD default).n]
theorem j4.below {n₀ : Nat} {A B : World} (h : Below n₀ A B) {sv : Value} {zs : List Mi} : j4 n₀ A sv zs → j4 n₀ B sv zs
  | .inl e => .inl e
  | .inr ⟨b, off, cap, e, hb, hc⟩ => .inr ⟨b, off, cap, e, hb, fun j hj i v hv => (h.cell (p := ⟨b, off + j * 3 + i, none⟩) hb).trans (hc j hj i v hv)⟩
theorem Bw.stops (F : Fence) (n : Nat) (h24 : F.fn 104) (hro : F.round = none) (hn : 1 ≤ n) (Bs n₀ : Nat) (sv : Value) (zs : List Mi) (hreach : zs.length ≤ 1000000) (w : World) (hBs : Bs < w.heap.size) (hn₀ : n₀ ≤ w.heap.size)
    (hc : w.cell? ⟨Bs, 0, none⟩ = some sv) (hI : j4 n₀ w sv zs) :
    SeqStopsK F n Tryz.prog 104 #[.pointer (some ⟨Bs, 0, none⟩)] ES (KpB n₀ Bs) (fun ys => ys = bk zs zs.length) (fun pre => ∃ k, k ≤ zs.length ∧ pre = bk zs k) zs.length w := fun l J Jx W hW _ _ hY h0 => by
  have hc' := (hW.cell (p := ⟨Bs, 0, none⟩) hBs).trans hc
  rcases hI.below (hW.mono hn₀) with ⟨a, cap, rfl, rfl⟩ | ⟨b, off, cap, rfl, hb, hcs⟩
  · exact (Bw.closure_nil_in F n h24 hro l Bs cap a J W hc' h0).mono fun e W' ⟨he, hj⟩ => ⟨he, .inl ⟨_, rfl, hj⟩⟩
  · exact Bw.closure_in F n h24 hro hn l Bs n₀ b off cap zs hreach hb J Jx hY W hc' hcs h0
def Al (xs : List (Nat × Mi)) : List (Int × Int) := xs.foldl (fun m x => upd x.2.g x.2.p m) []
theorem uN (pre : List (Nat × Mi)) (x : Nat × Mi) : Al (pre ++ [x]) = upd x.2.g x.2.p (Al pre) := by simp [Al]
theorem Cf (l : List Mi) : (bk l l.length).map (·.2) = l.reverse := by
  apply List.ext_getElem
  · simp [bk]
  · intro i h1 h2
    have hi : i < l.length := by simpa using h2
    have : l.length - 1 - i < l.length := by omega
    simp [bk, this]
theorem AY (l : List Mi) : Al (bk l l.length) = par l := by
  have : Al (bk l l.length) = ((bk l l.length).map (·.2)).foldl (fun m x => upd x.g x.p m) [] := by rw [List.foldl_map]; rfl
  rw [this, Cf, List.foldl_reverse]
  rfl
end Go.Proofs
namespace Go.Proofs
open Go.RowKit Go.Shelf Go.Dm
attribute [local go_sem] Oper.semAt_some
set_option maxRecDepth 100000 in
set_option maxHeartbeats 2000000 in
theorem Bw.parents_in (F : Fence) (n : Nat) (h18 : F.fn 53) (h22 : F.fn 72) (h24 : F.fn 104) (hro : F.round = none) (hn : 3 ≤ n) (a : Option Addr) (len cap : Nat) (zs : List Mi) (hlen : zs.length ≤ 1000000) (w : World) (hL : j4 w.heap.size w (.slice a len cap) zs) :
    CallsIn F n Tryz.prog 53 #[.slice a len cap] w fun e W' => e = .returned (.map (some w.heap.size)) ∧ iC W' w.heap.size (par zs) ∧ Below w.heap.size w W' := by
  have h1 : 1 ≤ n := by omega
  have hmm := @run_makeMap Tryz.prog
  refine callsIn_of_wp_marks Tryz.func53 rfl h18 ?_ hro
  simp only [Tryz.ntmps53, List.size_toArray, List.length_cons, List.length_nil, Nat.reduceAdd, Nat.reduceSub, Array.replicate_succ, Array.replicate_zero, List.push_toArray, List.append_toArray, List.nil_append, List.cons_append]
  gi_wp2_with (gi_at_call 72; refine (Bw.backward_in F (n - 1) h22 hro _ _ _ _).mono ?_; rintro e w' ⟨rfl, rfl⟩)
  have cM := iC.made w
  have bM := Boxed.new (w.alloc (.map #[] 0)) 96 (.map (some w.heap.size))
  have bS := Boxed.new ((w.alloc (.map #[] 0)).alloc (.cells #[.map (some w.heap.size)] 96)) 43 (.slice a len cap)
  simp only [World.size_alloc] at bM bS
  have hB0 : Below w.heap.size w (((w.alloc (.map #[] 0)).alloc (.cells #[.map (some w.heap.size)] 96)).alloc (.cells #[.slice a len cap] 43)) := (((Below.refl _ w).alloc (Nat.le_refl _) _).alloc (by simp) _).alloc (by simp; omega) _
  refine wpIn_rangeFunc_ownH hro h1 (gf := 104) (lb := #[.pointer (some ⟨w.heap.size + 1 + 1, 0, none⟩)]) rfl h24 (enters_of Tryz.func104 (by kernel_rfl) rfl)
    (Bw.stops F (n - 1) h24 hro (by omega) (w.heap.size + 1 + 1) w.heap.size _ zs hlen _ (by simp) (by simp; omega) bS.cell (hL.below hB0)) (fun h k => h.trans k) (KpB.putObj (by simp; omega) (by simp)) (Below.refl _ _) (fun _ => rfl)
    (fun pre W => (Boxed W (w.heap.size + 1) 96 (.map (some w.heap.size)) ∧ Boxed W (w.heap.size + 1 + 1) 43 (.slice a len cap) ∧ iC W w.heap.size (Al pre)) ∧ Below w.heap.size w W)
    (fun _ _ _ => False)
    (OwnFrom.and (fun s A B row hs hg hr => ⟨hs.1.kept hg (fun e => by have := (hr _ e.symm).1; simp at this; omega), hs.2.1.kept hg (fun e => by have := (hr _ e.symm).1; simp at this; omega), hs.2.2.kept hg (fun e => by have := (hr _ e.symm).1; simp at this; omega)⟩) (ownFrom_below (Nat.le_refl _) (by simp; omega)))
    (fun _ _ _ _ _ hs _ _ => hs)
    ⟨⟨bM.alloc _, bS, (cM.alloc _).alloc _⟩, hB0⟩
    (fun x a' W => ∃ bx, w.heap.size + 3 ≤ bx ∧ W.heap[bx]? = some (.cells #[.int .u64 x.2.g, .int .u64 x.2.p, .int .i64 x.2.n] 76 (0, 0)) ∧ a' = { tmps := #[.slice a len cap, undef, .map none, .pointer (some ⟨w.heap.size + 1, 0, none⟩), undef, .pointer (some ⟨bx, 0, none⟩), .map (some w.heap.size), .slice a len cap, .func (.func 104) #[] #[.pointer (some ⟨w.heap.size + 1 + 1, 0, none⟩)], .int .i64 (x.1 : Int), .agg #[.int .u64 x.2.g, .int .u64 x.2.p, .int .i64 x.2.n], undef, undef, undef, undef, undef, undef], defers := [] })
    ?Ax ?assign ?body ?done ?stop
  case Ax =>
    rintro x a' _ A B row ⟨bx, h1, h2, h3⟩ hg hr
    exact ⟨bx, h1, (hg.block bx (Array.getElem?_eq_some_iff.1 h2).1 (fun e => by obtain ⟨_, o, ho, hc⟩ := hr bx e.symm; rw [h2] at ho; cases ho; cases hc)).trans h2, h3⟩
  case assign =>
    rintro l pre x W K ⟨⟨hb, hs, hm⟩, hB⟩ hK
    gi_wp2
    have hlt := hs.lt
    exact hK _ _ (KeepsFrom.of_grownBy (World.grownBy_alloc W _ none) (fun j e => by cases e)) ⟨(Below.refl _ W).alloc hB.size _, Below.heap_alloc _ _ _ hlt⟩ ⟨⟨hb.alloc _, hs.alloc _, hm.alloc _⟩, hB.alloc hB.size _⟩
      ⟨W.heap.size, by omega, World.alloc_heap_new W _, rfl⟩
  case body =>
    rintro l pre x a' W hl hloop ⟨⟨hb, hs, hm⟩, hB⟩ ⟨bx, hbx, hx, rfl⟩ hlt
    have hc := hb.cell
    have hx0 : W.cell? ⟨bx, 0, none⟩ = some (.int .u64 x.2.g) := by simp [World.cell?, hx]
    have hx1 : W.cell? ⟨bx, 1, none⟩ = some (.int .u64 x.2.p) := by simp [World.cell?, hx]
    gi_wp2_with (gi_at_mapUpdate; refine gV _ rfl _ _ _ 96 rfl 29 29 Tryz.underlying96 Tryz.underlying29 w.heap.size (Al pre) rfl hm _ _ rfl rfl ?_; intro w1 hown1 hgrow1)
    exact ⟨KeepsFrom.of_grownBy hgrow1 (fun j e => by cases e; simp; omega), ⟨(Below.refl _ W).grown hgrow1 hB.size (fun k e => by cases e; exact Nat.le_refl _), hgrow1.block _ hs.lt (fun e => by simp at e; omega)⟩,
      ⟨hb.kept hgrow1 (fun e => by simp at e), hs.kept hgrow1 (fun e => by simp at e; omega), by rw [uN]; exact hown1⟩, hB.grown hgrow1 hB.size (fun k e => by cases e; exact Nat.le_refl _)⟩
  case done =>
    rintro D ys W hD rfl ⟨⟨hb, hs, hm⟩, hB⟩ hK
    have hc := hb.cell
    gi_wp2
    refine ⟨by simp, .inl ⟨_, _, rfl, run_takeDeferred hK, ?_⟩⟩
    rw [AY] at hm
    exact ⟨_, results_tmp rfl _ _ _, rfl, hm.kept (grownBy_putObj' _ D _) (fun e => by cases e; simp at hD; omega), hB.trans (belowK_b (w := w) (Nat.le_refl _) W D _ _ (by simp at hD; omega) hK rfl rfl)⟩
  case stop =>
    rintro D c pre W _ _ h _
    exact h.elim
end Go.Proofs
namespace Go.Proofs
open Go.RowKit Go.Shelf Go.Lib
set_option maxRecDepth 100000 in
set_option maxHeartbeats 4000000 in
theorem Gr.grow (i0 : TypeInfo) (z : Value) (hi0 : Tryz.prog.info? 76 = some i0) (hz0 : i0.zero = some z) (hs0 : 0 < i0.size) (hb0 : i0.bytes ≤ 1000) (base : Option Addr) (n : Nat) (hn : n ≤ 1000000) (h0 : 0 < n) (w : World) :
    Calls Tryz.prog 50 #[.slice base 0 0, .int .i64 n] w fun e w' =>
      e = .returned (.slice (some ⟨w.heap.size, 0, none⟩) 0 (grownCap w n 0 76)) ∧
      w' = w.drew.alloc (.cells (Builtin.zeroCells z.cells n ++ Builtin.zeroCells z.cells (grownCap w n 0 76 - n)) 76) := by
  have h1 : ¬ ((n : Int) < 0) := by omega
  have h4 : (n : Int) > 0 := by omega
  have hold : (Builtin.firstCells i0.size 0 (.slice base 0 0)).run Tryz.prog w.drew = .ok ([] : List Value).toArray w.drew := by
    cases base with
    | none => exact run_firstCells_none w.drew i0.size 0 0 0
    | some a => exact run_firstCells_some w.drew i0.size 0 a 0 0 [] (by simp) (fun j v hj => by simp at hj)
  have hfit : n * i0.bytes ≤ 1000000 * 1000 := Nat.mul_le_mul hn hb0
  have hrz : ∀ ty, (Builtin.append_ #[43, 3] ty #[.slice base 0 0, .int .i64 (n : Int)]).run Tryz.prog w =
      .ok (.slice (some ⟨w.heap.size, 0, none⟩) n (grownCap w n 0 76)) (w.drew.alloc (.cells (Builtin.zeroCells z.cells n ++ Builtin.zeroCells z.cells (grownCap w n 0 76 - n)) 76)) := fun ty => by
    have h := Lib.run_append_grow_zeros w 43 3 ty 76 i0 z .i64 .i64 Tryz.underlying43 Tryz.underlying3 hi0 hz0 base 0 0 [] hold n h0 hs0 (by omega) (by omega) (by omega)
      (growslice_fits (by omega) (by simp; omega))
    simpa using h
  have hGn : n ≤ grownCap w n 0 76 := grownCap_ge w _ _ _
  obtain ⟨G, hG⟩ : ∃ G, G = grownCap w n 0 76 := ⟨_, rfl⟩
  rw [← hG] at hrz hGn ⊢
  have hG63 : G ≤ 9223372036854775807 := by
    have := grownCap_le_maxLen w n 0 76 (by unfold maxLen; omega)
    rw [← hG] at this
    unfold maxLen at this
    omega
  clear hold hG hi0 hz0
  refine calls_of_wp Tryz.func50 rfl ?_
  simp only [Tryz.ntmps50, List.size_toArray, List.length_cons, List.length_nil, Nat.reduceAdd, Nat.reduceSub, Array.replicate_succ, Array.replicate_zero, List.push_toArray, List.append_toArray, List.nil_append, List.cons_append]
  cases base with
  | none =>
    go_wp2_with (at_builtin; refine Lib.wpList_append_run _ rfl _ _ _ _ rfl _ _ rfl rfl _ _ (hrz _) ?_)
    all_goals (go_ret; exact ⟨rfl, rfl⟩)
  | some a =>
    obtain ⟨ab, ao, asp⟩ := a
    go_wp2_with (at_builtin; refine Lib.wpList_append_run _ rfl _ _ _ _ rfl _ _ rfl rfl _ _ (hrz _) ?_)
    all_goals (go_ret; exact ⟨rfl, rfl⟩)
set_option maxRecDepth 100000 in
set_option maxHeartbeats 4000000 in
theorem Gr.none (base : Option Addr) (w : World) :
    Calls Tryz.prog 50 #[.slice base 0 0, .int .i64 0] w fun e w' => e = .returned (.slice base 0 0) ∧ w' = w := by
  refine calls_of_wp Tryz.func50 rfl ?_
  simp only [Tryz.ntmps50, List.size_toArray, List.length_cons, List.length_nil, Nat.reduceAdd, Nat.reduceSub, Array.replicate_succ, Array.replicate_zero, List.push_toArray, List.append_toArray, List.nil_append, List.cons_append]
  go_wp2
  go_ret
  exact ⟨rfl, rfl⟩
end Go.Proofs
namespace Go.Dm
open Go Go.RowKit Go.Proofs
theorem A1 (h : Array Obj) (o : Obj) (n : Nat) (hn : n = h.size) : (h.push o)[n]? = some o := by subst hn; simp
theorem lC (l : List Mi) : (mints l).length = l.length := by simp [mints]
theorem Ag {e : List C} {m : Mi} (h : xM e = some m) : e = m.cs := by
  unfold xM at h
  split at h
  · cases h; rfl
  · cases h
theorem AI {es : List (List C)} {l : List Mi} (h : es.mapM xM = some l) : es = mints l := by
  induction es generalizing l with
  | nil => simp at h; subst h; rfl
  | cons e es ih =>
    rw [List.mapM_cons] at h
    cases he : xM e with
    | none => simp [he] at h
    | some m =>
      cases hr : es.mapM xM with
      | none => simp [he, hr] at h
      | some r =>
        simp [he, hr] at h
        subst h
        rw [Ag he, ih hr]
        rfl
theorem uq {Fr : Nat → Nat → Prop} {w : World} (hf : ∀ b o, Fr b o → b < w.heap.size) {sz : Nat} {l : List Mi} (hs : sz = 3 ∨ mints l = []) {v : Value} (h : (C.slice sz (mints l)).rep Fr w v) :
    ∃ a len cap, v = .slice a len cap ∧ j4 w.heap.size w v l := by
  simp only [C.rep] at h
  obtain ⟨a, len, cap, rfl, hlen, hcap, h4⟩ := h
  refine ⟨a, len, cap, rfl, ?_⟩
  rw [lC] at hlen
  by_cases hl : l = []
  · subst hl
    simp at hlen
    subst hlen
    exact .inl ⟨a, cap, rfl, rfl⟩
  · have hsz : sz = 3 := by
      rcases hs with h | h
      · exact h
      · exact absurd (List.map_eq_nil_iff.1 h) hl
    subst hsz
    rcases h4 with ⟨h4, _⟩ | ⟨b, o, rfl, hr⟩
    · exact absurd (List.eq_nil_of_length_eq_zero (by omega)) hl
    · have hg : ∀ j (hj : j < l.length), bF Fr w b (l[j]).cs (o + j * 3) := fun j hj => (gc hr j _ (by simp [mints, hj])).2
      have hb : b < w.heap.size := by
        have h0 : 0 < l.length := List.length_pos_iff.2 hl
        exact hf _ _ (dm (hg 0 h0) 0 _ rfl).1
      refine .inr ⟨b, o, cap, by rw [hlen], hb, fun j hj => ?_⟩
      have hc := hg j hj
      rw [List.getElem?_eq_getElem hj, Option.getD_some]
      intro i x hx
      match i, hx with
      | 0, hx => simp at hx; subst hx; obtain ⟨v, h1, h2⟩ := (dm hc 0 _ rfl).2; simp only [C.rep] at h2; rw [h1, h2.1]
      | 1, hx => simp at hx; subst hx; obtain ⟨v, h1, h2⟩ := (dm hc 1 _ rfl).2; simp only [C.rep] at h2; rw [h1, h2.1]
      | 2, hx => simp at hx; subst hx; obtain ⟨v, h1, h2⟩ := (dm hc 2 _ rfl).2; simp only [C.rep] at h2; rw [h1, h2.1]
      | i + 3, hx => simp at hx
theorem D5 : TabOk PP GL XX := ⟨fun f h xs ims rs ims' hx hh => by
  unfold XX at hx
  split at hx
  · cases hx
    unfold r6 at hh
    split at hh
    · rename_i sz es
      split at hh
      · rename_i hc
        obtain ⟨hs, hlen⟩ := hc
        rw [Option.map_eq_some_iff] at hh
        obtain ⟨l, hl, he⟩ := hh
        cases he
        have hes := AI hl
        subst hes
        rw [lC] at hlen
        refine ⟨⟨_, Proofs.Tryz.func53, rfl, by kernel_rfl⟩, ?_⟩
        refine pn.full ?_
        intro Fr w locs vs hf hgl him hap hxs
        obtain ⟨v, vs', rfl, hv, hnil⟩ : ∃ v vs', vs = v :: vs' ∧ (C.slice sz (mints l)).rep Fr w v ∧ vs' = [] := by
          cases vs with
          | nil => exact hxs.elim
          | cons v vs' => refine ⟨v, vs', rfl, hxs.1, ?_⟩; cases vs' with
            | nil => rfl
            | cons _ _ => exact hxs.2.elim
        subst hnil
        obtain ⟨a, len, cap, rfl, hM⟩ := uq hf hs hv
        have hcall := callsIn_wide.1 (Bw.parents_in Fence.wide 3 trivial trivial trivial rfl (Nat.le_refl _) a len cap l hlen w hM)
        refine hcall.mono ?_
        rintro e w' ⟨rfl, ⟨ents, clock, hm1, hm2⟩, hB⟩
        refine ⟨[.map (some w.heap.size)], fun b o => Fr b o ∨ (b = w.heap.size ∧ o = 0), rfl, BelowBut.of_below hB, fun b o h => .inl h, ?_, ⟨?_, trivial⟩, trivial, ?_, rfl⟩
        · rintro b o (h | ⟨rfl, rfl⟩)
          · exact .inl h
          · exact .inr ⟨Nat.le_refl _, (Array.getElem?_eq_some_iff.1 hm1).1⟩
        · simp only [Res.rep, C.rep]
          exact ⟨_, ents, clock, rfl, .inr ⟨rfl, trivial⟩, hm1, hm2⟩
        · cases locs with
          | nil => trivial
          | cons _ _ => exact him.elim
      · cases hh
    · cases hh
  · cases hx
    unfold oF at hh
    split at hh
    · rename_i n
      split at hh
      · rename_i hc
        obtain ⟨hn0, hn⟩ := hc
        cases hh
        refine ⟨⟨_, Proofs.Tryz.func50, rfl, by kernel_rfl⟩, ?_⟩
        refine pn.full ?_
        intro Fr w locs vs hf hgl him hap hxs
        obtain ⟨m, rfl⟩ : ∃ m : Nat, n = (m : Int) := ⟨n.toNat, by omega⟩
        obtain ⟨a, rfl⟩ : ∃ a, vs = [.slice a 0 0, .int .i64 m] := by
          match vs, hxs with
          | [v1, v2], ⟨⟨a, h1⟩, h2, _⟩ => exact ⟨a, by simp only [A.rep, C.rep] at h2; rw [h1, h2.1]⟩
          | [], h => exact h.elim
          | [_], h => exact h.2.elim
          | _ :: _ :: _ :: _, h => exact h.2.2.elim
        have hl : locs = [] := by
          cases locs with
          | nil => rfl
          | cons _ _ => exact him.elim
        subst hl
        by_cases h0 : m = 0
        · subst h0
          refine (Gr.none a w).mono ?_
          rintro e w' ⟨rfl, rfl⟩
          refine ⟨[.slice a 0 0], Fr, rfl, BelowBut.of_below (Below.refl _ _), fun b o h => h, fun b o h => .inl h, ⟨?_, trivial⟩, ⟨fun j sz es u h => by simp at h, trivial⟩, trivial, rfl⟩
          simp only [Res.rep, C.rep]
          exact ⟨⟨a, 0, 0, rfl, rfl, Nat.le_refl _, .inl ⟨rfl, rfl⟩⟩, a, 0, rfl, Nat.le_refl _, .inl rfl⟩
        · obtain ⟨i0, hi0⟩ : ∃ i0, PP.info? 76 = some i0 := Option.isSome_iff_exists.1 (by kernel_rfl)
          obtain ⟨z, hz⟩ : ∃ z, i0.zero = some z := by
            have h : ((PP.info? 76).bind (·.zero)).isSome = true := by kernel_rfl
            rw [hi0] at h
            exact Option.isSome_iff_exists.1 h
          have hs : i0.size = 3 := by
            have h : (PP.info? 76).map (·.size) = some 3 := by kernel_rfl
            rw [hi0] at h
            simpa using h
          have hb : i0.bytes = 24 := by
            have h : (PP.info? 76).map (·.bytes) = some 24 := by kernel_rfl
            rw [hi0] at h
            simpa using h
          have hzc : z.cells.size = 3 := by
            have h : ((PP.info? 76).bind (·.zero)).map (·.cells.size) = some 3 := by kernel_rfl
            rw [hi0] at h
            simp only [Option.bind_some, hz, Option.map_some, Option.some.injEq] at h
            exact h
          refine (Gr.grow i0 z hi0 hz (by omega) (by omega) a m (by omega) (by omega) w).mono ?_
          rintro e w' ⟨rfl, rfl⟩
          refine ⟨[.slice (some ⟨w.heap.size, 0, none⟩) 0 (grownCap w m 0 76)], Fr, rfl, BelowBut.of_below (((Below.refl _ w).drew).alloc (Nat.le_refl _) _), fun b o h => h, fun b o h => .inl h, ⟨?_, trivial⟩, ⟨fun j sz es u h => by simp at h, trivial⟩, trivial, rfl⟩
          simp only [Res.rep, C.rep]
          refine ⟨⟨_, 0, _, rfl, rfl, Nat.zero_le _, .inr ⟨_, _, rfl, trivial⟩⟩, _, _, rfl, Nat.zero_le _, .inr ⟨w.heap.size, rfl, Nat.le_refl _, ⟨_, _, (A1 w.drew.heap _ w.heap.size rfl), ?_⟩, ?_⟩⟩
          · have hG := grownCap_ge w m 0 9
            simp only [Array.size_append, iK, hzc]
            omega
          · intro o _ h
            have := hf _ _ h
            omega
      · cases hh
    · cases hh
  · cases hx⟩
end Go.Dm
namespace Go.Dm
open Go
theorem yL (l : List Evt) (m : Int) (hm : m ≤ 1000000) (k : Nat) : ak PP GL XX HH NN (k + 2) 28 [.c (.slice 7 (l.map Evt.cs)), .c (ii m)] [] = some ([.c (bo (dk l m))], []) := by
  cases he : decide ((l.length : Int) > m) with
  | true =>
    unfold dk
    rw [he]
    exact zo l m he k
  | false =>
    simp at he
    exact AT l m (by omega) k
theorem ju (l : List Evt) (m : Int) (hm : m ≤ 1000000) (k : Nat) : ak PP GL XX HH NN (k + 3) 8 [A.c (C.slice 7 (List.map Evt.cs l)), A.c (ii m)] [] = some ([Res.c (bo (dk l m))], []) := by
  exact rt (aa (yL l m hm k) <| trivial) (gs := [G.call [Res.c (bo (dk l m))] []]) rfl
theorem d8 (k : Nat) : ak PP GL XX HH NN (k + 2) 27 [] [] = some ([Res.c (u 7)], []) := by
  exact rt (aa (kf k) <| trivial) (gs := [G.call [Res.c (u 7)] []]) rfl
theorem qQ (b : Int) (es : List (List C)) (c : Cl) (hR : ∀ k, ak PP GL XX HH NN (k + 17) 29 [A.c (by8 b), A.c (C.slice 7 es)] [] = some ([Res.agg (Cl.cs c)], [])) (k : Nat) : ak PP GL XX HH NN (k + 18) 9 [A.c (by8 b), A.c (C.slice 7 es)] [] = some ([Res.agg (Cl.cs c)], []) := by
  exact rt (aa (hR k) <| trivial) (gs := [G.call [Res.agg (Cl.cs c)] []]) rfl
theorem Bf (b : Int) (c : Cl) (hR : ∀ k, ak PP GL XX HH NN (k + 17) 29 [A.c (by8 b), A.nil] [] = some ([Res.agg (Cl.cs c)], [])) (k : Nat) : ak PP GL XX HH NN (k + 18) 9 [A.c (by8 b), A.nil] [] = some ([Res.agg (Cl.cs c)], []) := by
  exact rt (aa (hR k) <| trivial) (gs := [G.call [Res.agg (Cl.cs c)] []]) rfl
theorem A8 (c : Cl) (d : Cl) (es : List (List C)) (o : List Ou) (hR : ∀ k, ak PP GL XX HH NN (k + 16) 30 [A.agg (Cl.cs c), A.c (C.slice 7 es)] [] = some ([Res.agg (Cl.cs d), Res.top 5 (List.map Ou.cs o)], [])) (k : Nat) : ak PP GL XX HH NN (k + 17) 10 [A.agg (Cl.cs c), A.c (C.slice 7 es)] [] = some ([Res.agg (Cl.cs d), Res.top 5 (List.map Ou.cs o)], []) := by
  exact rt (aa (hR k) <| aa (Eq.refl (List.length (List.map Ou.cs o))) <| trivial) (gs := [G.call [Res.agg (Cl.cs d), Res.top 5 (List.map Ou.cs o)] []]) rfl
theorem DD (c : Cl) (d : Cl) (e : Evt) (o : List Ou) (hR : ∀ k, ak PP GL XX HH NN (k + 14) 42 [A.agg (Cl.cs c), A.agg (Evt.cs e)] [] = some ([Res.agg (Cl.cs d), Res.top 5 (List.map Ou.cs o)], [])) (k : Nat) : ak PP GL XX HH NN (k + 15) 24 [A.agg (Cl.cs c), A.agg (Evt.cs e)] [] = some ([Res.agg (Cl.cs d), Res.top 5 (List.map Ou.cs o)], []) := by
  exact rt (aa (hR k) <| aa (Eq.refl (List.length (List.map Ou.cs o))) <| trivial) (gs := [G.call [Res.agg (Cl.cs d), Res.top 5 (List.map Ou.cs o)] []]) rfl
def B2 : List Evt := [⟨1, 0, 0, 0, ⟨#[]⟩, 0, []⟩, ⟨13, 0, 0, 0, ⟨#[]⟩, 9, []⟩, ⟨5, 0, 1, 0, ⟨#[97, 98, 99, 100, 101, 102, 103, 104]⟩, 0, []⟩]
def C9 : List Evt := [⟨1, 0, 0, 0, ⟨#[]⟩, 0, []⟩, ⟨13, 0, 0, 0, ⟨#[]⟩, 9, []⟩, ⟨5, 0, 1, 0, ⟨#[97, 98, 99, 100, 101, 102, 103, 104]⟩, 0, []⟩, ⟨1, 1, 0, 0, ⟨#[]⟩, 0, []⟩, ⟨13, 1, 0, 0, ⟨#[]⟩, 8, []⟩, ⟨5, 1, 1, 0, ⟨#[97, 98, 99, 100, 101, 102, 103, 104]⟩, 0, []⟩]
def Bx : List Evt := [⟨6, 0, 0, 0, ⟨#[]⟩, 0, []⟩, ⟨6, 1, 0, 0, ⟨#[]⟩, 0, []⟩]
def Dt : Evt := ⟨9, 1, 0, 0, ⟨#[]⟩, 0, []⟩
def aC : Cl := eF 1 B2
def aD : Cl := eF 1 C9
def aE : Cl := eF 1 []
def aX : Cl := (iN aC Bx).1
def aY : Cl := (doM aX Dt).1
set_option maxRecDepth 100000 in
theorem aR1 : BG aC = 1 := by kernel_rfl
set_option maxRecDepth 100000 in
theorem aR2 : BG aD = 3 := by kernel_rfl
set_option maxRecDepth 100000 in
theorem aR3 : BG aE = 0 := by kernel_rfl
set_option maxRecDepth 100000 in
theorem aM : aL aD = [⟨9, 7, 0⟩, ⟨8, 7, 1⟩] := by kernel_rfl
set_option maxRecDepth 100000 in
theorem aB1 : dY aD 7 9 = 1 := by kernel_rfl
set_option maxRecDepth 100000 in
theorem aB2 : dY aD 8 9 = -1 := by kernel_rfl
set_option maxRecDepth 100000 in
theorem aS1 : cB aX aY = 1 := by kernel_rfl
set_option maxRecDepth 100000 in
theorem aS2 : cB aY aX = -1 := by kernel_rfl
set_option maxRecDepth 100000 in
theorem aF : mD aX aY = true := by kernel_rfl
theorem CH (c : Cl) (d : Cl) (e : Cl) (x : Cl) (y : Cl) (o3 : List Ou) (o4 : List Ou) (hR1 : ∀ k, ak PP GL XX HH NN (k + 18) 9 [A.c (by8 1), A.c (C.slice 7 [[ii 1, ii 0, ii 0, ii 0, st ⟨#[]⟩, u 0, C.slice 1 []], [ii 13, ii 0, ii 0, ii 0, st ⟨#[]⟩, u 9, C.slice 1 []], [ii 5, ii 0, ii 1, ii 0, st (ByteArray.mk #[(97 : UInt8), (98 : UInt8), (99 : UInt8), (100 : UInt8), (101 : UInt8), (102 : UInt8), (103 : UInt8), (104 : UInt8)]), u 0, C.slice 1 []]])] [] = some ([Res.agg (Cl.cs c)], [])) (hR2 : ∀ k, ak PP GL XX HH NN (k + 18) 9 [A.c (by8 1), A.c (C.slice 7 [[ii 1, ii 0, ii 0, ii 0, st ⟨#[]⟩, u 0, C.slice 1 []], [ii 13, ii 0, ii 0, ii 0, st ⟨#[]⟩, u 9, C.slice 1 []], [ii 5, ii 0, ii 1, ii 0, st (ByteArray.mk #[(97 : UInt8), (98 : UInt8), (99 : UInt8), (100 : UInt8), (101 : UInt8), (102 : UInt8), (103 : UInt8), (104 : UInt8)]), u 0, C.slice 1 []], [ii 1, ii 1, ii 0, ii 0, st ⟨#[]⟩, u 0, C.slice 1 []], [ii 13, ii 1, ii 0, ii 0, st ⟨#[]⟩, u 8, C.slice 1 []], [ii 5, ii 1, ii 1, ii 0, st (ByteArray.mk #[(97 : UInt8), (98 : UInt8), (99 : UInt8), (100 : UInt8), (101 : UInt8), (102 : UInt8), (103 : UInt8), (104 : UInt8)]), u 0, C.slice 1 []]])] [] = some ([Res.agg (Cl.cs d)], [])) (hR3 : ∀ k, ak PP GL XX HH NN (k + 18) 9 [A.c (by8 1), A.nil] [] = some ([Res.agg (Cl.cs e)], [])) (hP : ∀ k, ak PP GL XX HH NN (k + 18) 10 [A.agg (Cl.cs c), A.c (C.slice 7 [[ii 6, ii 0, ii 0, ii 0, st ⟨#[]⟩, u 0, C.slice 1 []], [ii 6, ii 1, ii 0, ii 0, st ⟨#[]⟩, u 0, C.slice 1 []]])] [] = some ([Res.agg (Cl.cs x), Res.top 5 (List.map Ou.cs o3)], [])) (hD : ∀ k, ak PP GL XX HH NN (k + 18) 24 [A.agg (Cl.cs x), A.agg [ii 9, ii 1, ii 0, ii 0, st ⟨#[]⟩, u 0, C.slice 1 []]] [] = some ([Res.agg (Cl.cs y), Res.top 5 (List.map Ou.cs o4)], [])) (q1 : ∀ k, ak PP GL XX HH NN (k + 18) 15 [A.agg (Cl.cs c)] [] = some ([Res.c (ii 1)], [])) (q2 : ∀ k, ak PP GL XX HH NN (k + 18) 15 [A.agg (Cl.cs d)] [] = some ([Res.c (ii 3)], [])) (q3 : ∀ k, ak PP GL XX HH NN (k + 18) 15 [A.agg (Cl.cs e)] [] = some ([Res.c (ii 0)], [])) (hM : ∀ k, ak PP GL XX HH NN (k + 18) 13 [A.agg (Cl.cs d)] [] = some ([Res.top 3 [[u 9, u 7, ii 0], [u 8, u 7, ii 1]]], [])) (hS : ∀ k, ak PP GL XX HH NN (k + 18) 12 [A.c (C.slice 3 [[u 9, u 7, ii 0], [u 8, u 7, ii 1]]), A.c (C.slice 3 [[u 9, u 7, ii 0], [u 8, u 7, ii 1]])] [] = some ([Res.c (bo true)], [])) (b1 : ∀ k, ak PP GL XX HH NN (k + 18) 17 [A.agg (Cl.cs d), A.c (u 7), A.c (u 9)] [] = some ([Res.c (ii 1)], [])) (b2 : ∀ k, ak PP GL XX HH NN (k + 18) 17 [A.agg (Cl.cs d), A.c (u 8), A.c (u 9)] [] = some ([Res.c (ii (-1 : Int))], [])) (s1 : ∀ k, ak PP GL XX HH NN (k + 18) 19 [A.agg (Cl.cs x), A.agg (Cl.cs y)] [] = some ([Res.c (ii 1)], [])) (s2 : ∀ k, ak PP GL XX HH NN (k + 18) 19 [A.agg (Cl.cs y), A.agg (Cl.cs x)] [] = some ([Res.c (ii (-1 : Int))], [])) (f : ∀ k, ak PP GL XX HH NN (k + 18) 21 [A.agg (Cl.cs x), A.agg (Cl.cs y)] [] = some ([Res.c (bo true)], [])) (k : Nat) : ak PP GL XX HH NN (k + 19) 7 [] [] = some ([Res.c (bo true)], []) := by
  exact rt (aa (hR1 k) <| aa (bP ([[ii 1, ii 0, ii 0, ii 0, st ⟨#[]⟩, u 0, C.slice 1 []], [ii 13, ii 0, ii 0, ii 0, st ⟨#[]⟩, u 9, C.slice 1 []], [ii 5, ii 0, ii 1, ii 0, st (ByteArray.mk #[(97 : UInt8), (98 : UInt8), (99 : UInt8), (100 : UInt8), (101 : UInt8), (102 : UInt8), (103 : UInt8), (104 : UInt8)]), u 0, C.slice 1 []]])) <| aa (show List.length [[ii 1, ii 0, ii 0, ii 0, st ⟨#[]⟩, u 0, C.slice 1 []], [ii 13, ii 0, ii 0, ii 0, st ⟨#[]⟩, u 9, C.slice 1 []], [ii 5, ii 0, ii 1, ii 0, st (ByteArray.mk #[(97 : UInt8), (98 : UInt8), (99 : UInt8), (100 : UInt8), (101 : UInt8), (102 : UInt8), (103 : UInt8), (104 : UInt8)]), u 0, C.slice 1 []]] ≤ 1073741824 from by decide) <| aa (rfl : [[ii 1, ii 0, ii 0, ii 0, st ⟨#[]⟩, u 0, C.slice 1 []], [ii 13, ii 0, ii 0, ii 0, st ⟨#[]⟩, u 9, C.slice 1 []], [ii 5, ii 0, ii 1, ii 0, st (ByteArray.mk #[(97 : UInt8), (98 : UInt8), (99 : UInt8), (100 : UInt8), (101 : UInt8), (102 : UInt8), (103 : UInt8), (104 : UInt8)]), u 0, C.slice 1 []], [ii 1, ii 1, ii 0, ii 0, st ⟨#[]⟩, u 0, C.slice 1 []], [ii 13, ii 1, ii 0, ii 0, st ⟨#[]⟩, u 8, C.slice 1 []], [ii 5, ii 1, ii 1, ii 0, st (ByteArray.mk #[(97 : UInt8), (98 : UInt8), (99 : UInt8), (100 : UInt8), (101 : UInt8), (102 : UInt8), (103 : UInt8), (104 : UInt8)]), u 0, C.slice 1 []]] = [[ii 1, ii 0, ii 0, ii 0, st ⟨#[]⟩, u 0, C.slice 1 []], [ii 13, ii 0, ii 0, ii 0, st ⟨#[]⟩, u 9, C.slice 1 []], [ii 5, ii 0, ii 1, ii 0, st (ByteArray.mk #[(97 : UInt8), (98 : UInt8), (99 : UInt8), (100 : UInt8), (101 : UInt8), (102 : UInt8), (103 : UInt8), (104 : UInt8)]), u 0, C.slice 1 []], [ii 1, ii 1, ii 0, ii 0, st ⟨#[]⟩, u 0, C.slice 1 []], [ii 13, ii 1, ii 0, ii 0, st ⟨#[]⟩, u 8, C.slice 1 []], [ii 5, ii 1, ii 1, ii 0, st (ByteArray.mk #[(97 : UInt8), (98 : UInt8), (99 : UInt8), (100 : UInt8), (101 : UInt8), (102 : UInt8), (103 : UInt8), (104 : UInt8)]), u 0, C.slice 1 []]]) <| aa (show List.length [[ii 1, ii 0, ii 0, ii 0, st ⟨#[]⟩, u 0, C.slice 1 []], [ii 13, ii 0, ii 0, ii 0, st ⟨#[]⟩, u 9, C.slice 1 []], [ii 5, ii 0, ii 1, ii 0, st (ByteArray.mk #[(97 : UInt8), (98 : UInt8), (99 : UInt8), (100 : UInt8), (101 : UInt8), (102 : UInt8), (103 : UInt8), (104 : UInt8)]), u 0, C.slice 1 []], [ii 1, ii 1, ii 0, ii 0, st ⟨#[]⟩, u 0, C.slice 1 []], [ii 13, ii 1, ii 0, ii 0, st ⟨#[]⟩, u 8, C.slice 1 []], [ii 5, ii 1, ii 1, ii 0, st (ByteArray.mk #[(97 : UInt8), (98 : UInt8), (99 : UInt8), (100 : UInt8), (101 : UInt8), (102 : UInt8), (103 : UInt8), (104 : UInt8)]), u 0, C.slice 1 []]] ≤ 1073741824 from by decide) <| aa ((rfl : (3 : Nat) = (3 : Nat))).symm <| aa (hR2 k) <| aa (hP k) <| aa (hD k) <| aa (q1 k) <| xa2 tt <| aa (q2 k) <| xa3 tt <| aa (hR3 k) <| aa tt <| aa (q3 k) <| xa4 tt <| aa (hM k) <| aa tt <| aa (d8 (k + 16)) <| xa2 tt <| aa (d8 (k + 16)) <| xa3 tt <| aa (hS k) <| xa3 tt <| aa (d8 (k + 16)) <| aa tt <| aa (b1 k) <| xa4 tt <| aa (b2 k) <| xa5 tt <| aa (s1 k) <| xa5 tt <| aa (s2 k) <| xa5 tt <| aa (f k) <| aa tt <| trivial) (gs := xc (G.call [Res.agg (Cl.cs c)] []) <| xc (G.app [[ii 1, ii 0, ii 0, ii 0, st ⟨#[]⟩, u 0, C.slice 1 []], [ii 13, ii 0, ii 0, ii 0, st ⟨#[]⟩, u 9, C.slice 1 []], [ii 5, ii 0, ii 1, ii 0, st (ByteArray.mk #[(97 : UInt8), (98 : UInt8), (99 : UInt8), (100 : UInt8), (101 : UInt8), (102 : UInt8), (103 : UInt8), (104 : UInt8)]), u 0, C.slice 1 []]]) <| xc (G.app [[ii 1, ii 0, ii 0, ii 0, st ⟨#[]⟩, u 0, C.slice 1 []], [ii 13, ii 0, ii 0, ii 0, st ⟨#[]⟩, u 9, C.slice 1 []], [ii 5, ii 0, ii 1, ii 0, st (ByteArray.mk #[(97 : UInt8), (98 : UInt8), (99 : UInt8), (100 : UInt8), (101 : UInt8), (102 : UInt8), (103 : UInt8), (104 : UInt8)]), u 0, C.slice 1 []], [ii 1, ii 1, ii 0, ii 0, st ⟨#[]⟩, u 0, C.slice 1 []], [ii 13, ii 1, ii 0, ii 0, st ⟨#[]⟩, u 8, C.slice 1 []], [ii 5, ii 1, ii 1, ii 0, st (ByteArray.mk #[(97 : UInt8), (98 : UInt8), (99 : UInt8), (100 : UInt8), (101 : UInt8), (102 : UInt8), (103 : UInt8), (104 : UInt8)]), u 0, C.slice 1 []]]) <| xc (G.call [Res.agg (Cl.cs d)] []) <| xc (G.call [Res.agg (Cl.cs x), Res.top 5 (List.map Ou.cs o3)] []) <| xc (G.call [Res.agg (Cl.cs y), Res.top 5 (List.map Ou.cs o4)] []) <| xc (G.call [Res.c (ii 1)] []) <| xg2 gT <| xc (G.call [Res.c (ii 3)] []) <| xg3 gT <| xc (G.call [Res.agg (Cl.cs e)] []) <| xc gT <| xc (G.call [Res.c (ii 0)] []) <| xg4 gT <| xc (G.call [Res.top 3 [[u 9, u 7, ii 0], [u 8, u 7, ii 1]]] []) <| xc gT <| xc (G.call [Res.c (u 7)] []) <| xg2 gT <| xc (G.call [Res.c (u 7)] []) <| xg3 gT <| xc (G.call [Res.c (bo true)] []) <| xg3 gT <| xc (G.call [Res.c (u 7)] []) <| xc gT <| xc (G.call [Res.c (ii 1)] []) <| xg4 gT <| xc (G.call [Res.c (ii (-1 : Int))] []) <| xg5 gT <| xc (G.call [Res.c (ii 1)] []) <| xg5 gT <| xc (G.call [Res.c (ii (-1 : Int))] []) <| xg5 gT <| [G.call [Res.c (bo true)] [], gT]) rfl
theorem FQ : ∀ e ∈ B2, e.data.size ≤ 300 := by decide
theorem FG : ∀ e ∈ C9, e.data.size ≤ 300 := by decide
theorem FR : ∀ e ∈ Bx, e.data.size ≤ 300 := by decide
theorem EK : ClB 4 12 3 18 aC := oY 1 (by decide) B2
theorem Dq : ClB 4 24 6 36 aD := oY 1 (by decide) C9
theorem F4 : ClB 4 0 0 0 aE := oY 1 (by decide) []
theorem Fl : ClB 4 20 5 30 aX := wM Bx EK
theorem ClB.mints {N a m s : Nat} {c : Cl} (h : ClB N a m s c) : c.n0.mints.length + c.n1.mints.length ≤ m + m := by
  have := h.n0.mints
  have := h.n1.mints
  omega
set_option maxRecDepth 100000 in
theorem gh (k : Nat) : ak PP GL XX HH NN (k + 19) 7 [] [] = some ([.c (bo true)], []) :=
  CH aC aD aE aX aY (iN aC Bx).2 (doM aX Dt).2
    (fun k => qQ 1 (B2.map Evt.cs) aC (fun k => ry 1 (by decide) B2 (by decide) FQ k) k)
    (fun k => qQ 1 (C9.map Evt.cs) aD (fun k => ry 1 (by decide) C9 (by decide) FG k) k)
    (fun k => Bf 1 aE (fun k => xK 1 (by decide) k) k)
    (fun k => A8 aC aX (Bx.map Evt.cs) _ (fun k => zA aC Bx EK (by decide) (by decide) (by decide) (by decide) (by decide) FR k) (k + 1))
    (fun k => DD aX aY Dt _ (fun k => Fk aX Dt Fl (by decide) (by decide) (by decide) (by decide) (by decide) (by decide) k) (k + 3))
    (fun k => by rw [← aR1]; exact AG aC (Nat.le_trans EK.mints (by decide)) (k + 10))
    (fun k => by rw [← aR2]; exact AG aD (Nat.le_trans Dq.mints (by decide)) (k + 10))
    (fun k => by rw [← aR3]; exact AG aE (Nat.le_trans F4.mints (by decide)) (k + 10))
    (fun k => by
      have := dG aD (Nat.le_trans Dq.mints (by decide)) (k + 15)
      rw [aM] at this
      exact this)
    (fun k => CT [⟨9, 7, 0⟩, ⟨8, 7, 1⟩] (by decide) (k + 16))
    (fun k => by
      have := gG aD 7 9 (Nat.le_trans Dq.mints (by decide)) (k + 11)
      rw [aB1] at this
      exact this)
    (fun k => by
      have := gG aD 8 9 (Nat.le_trans Dq.mints (by decide)) (k + 11)
      rw [aB2] at this
      exact this)
    (fun k => by
      have := qL aX aY (k + 15)
      rw [aS1] at this
      exact this)
    (fun k => by
      have := qL aY aX (k + 15)
      rw [aS2] at this
      exact this)
    (fun k => by
      have := Dl aX aY (Nat.le_trans Fl.mints (by decide)) (k + 11)
      rw [aF] at this
      exact this) k
theorem pp {l : List Evt} {m : Int} (h : dk l m = false) : (l.length : Int) ≤ m := by
  unfold dk at h
  cases hq : decide ((l.length : Int) > m) with
  | true => rw [hq] at h; cases h
  | false => simp at hq; exact hq
theorem tV {l : List Evt} {m : Int} (h : dk l m = false) : ∀ e ∈ l, e.data.size ≤ 300 := fun e he => by
  unfold dk at h
  cases hq : decide ((l.length : Int) > m) with
  | true => rw [hq] at h; cases h
  | false =>
    rw [hq, cond_false] at h
    have := List.any_eq_false.1 h e he
    unfold l9 at this
    simp at this
    omega
end Go.Dm
namespace Go.Dm
open Go
def Sdo (l : List Evt) (c0 : Int) : St := St.mk (tc (C.slice 7 (List.map Evt.cs l)) :: T.hole :: T.hole :: tc (ii c0) :: hs 52 []) [] []
def Sdi (l : List Evt) (i j : Int) : St := St.mk (tc (C.slice 7 (l.map Evt.cs)) :: T.hole :: T.hole :: tc (ii i) :: tc (ii j) :: hs (51 : Nat) []) [] []
def pA (l : List Evt) (i : Nat) (x : Evt) (j : Nat) (y : Evt) : St := St.mk (tc (C.slice 7 (List.map Evt.cs l)) :: T.hole :: tc (bo false) :: tc (ii (↑i : Int)) :: tc (ii (↑j : Int)) :: hs 27 [tc (ii (↑j : Int)), tc (ii (↑i : Int)), tc (bo (decide ((↑j : Int) < (↑i : Int)))), T.hole, T.hole, tc (C.slice 7 (List.map Evt.cs l)), tc (ii (↑j : Int)), tc (C.rptr [ii y.kind, ii y.node, ii y.id, ii y.block, st y.data, u y.n, C.slice 1 (List.map eB y.keeps)]), tc (C.rptr [ii y.kind, ii y.node, ii y.id, ii y.block, st y.data, u y.n, C.slice 1 (List.map eB y.keeps)]), tc (ii y.kind), tc (bo (Evt.kind y == 13)), tc (bo (Evt.kind y == 13)), tc (C.slice 7 (List.map Evt.cs l)), tc (ii (↑j : Int)), tc (C.rptr [ii y.kind, ii y.node, ii y.id, ii y.block, st y.data, u y.n, C.slice 1 (List.map eB y.keeps)]), tc (C.rptr [u y.n, C.slice 1 (List.map eB y.keeps)]), tc (u y.n), tc (C.slice 7 (List.map Evt.cs l)), tc (ii (↑i : Int)), tc (C.rptr [ii x.kind, ii x.node, ii x.id, ii x.block, st x.data, u x.n, C.slice 1 (List.map eB x.keeps)]), tc (C.rptr [u x.n, C.slice 1 (List.map eB x.keeps)]), tc (u x.n), tc (bo (Evt.n y == Evt.n x)), tc (bo (Evt.n y == Evt.n x))]) [] []
theorem E7 (l : List Evt) (i : Nat) (x : Evt) (hx : l[i]? = some x) (j : Nat) (y : Evt) (hy : l[j]? = some y) (k : Nat) (z0 : (decide ((↑j : Int) < (↑i : Int))) = true) (z1 : (Evt.kind y == 13) = true) (z2 : (Evt.n y == Evt.n x) = true) : cm (EE (k + 2)) (HH 41) NN (LB PP 41 8) (Sdi l (↑i : Int) (↑j : Int)) (Ext.ret) (pA l i x j y) :=
  bI (aa z0 <| aa (rfl : (↑j : Int) = (↑j : Int)) <| aa (aI (f := Evt.cs) hy) <| xa3 z1 <| aa (rfl : (↑j : Int) = (↑j : Int)) <| aa (aI (f := Evt.cs) hy) <| xa5 z1 <| aa (rfl : (↑i : Int) = (↑i : Int)) <| aa (aI (f := Evt.cs) hx) <| xa4 z1 <| aa z2 <| trivial) (gs := xc gT <| xc (G.idx j [ii y.kind, ii y.node, ii y.id, ii y.block, st y.data, u y.n, C.slice 1 (List.map eB y.keeps)]) <| xg3 gT <| xc (G.idx j [ii y.kind, ii y.node, ii y.id, ii y.block, st y.data, u y.n, C.slice 1 (List.map eB y.keeps)]) <| xg5 gT <| xc (G.idx i [ii x.kind, ii x.node, ii x.id, ii x.block, st x.data, u x.n, C.slice 1 (List.map eB x.keeps)]) <| xg5 gT <| []) (by kernel_rfl)
theorem Ee (l : List Evt) (i : Nat) (x : Evt) (hx : l[i]? = some x) (j : Nat) (y : Evt) (hy : l[j]? = some y) (k : Nat) (z0 : (decide ((↑j : Int) < (↑i : Int))) = true) (z1 : (Evt.kind y == 13) = true) (z2 : (Evt.n y == Evt.n x) = false) : bw (EE (k + 2)) (HH 41) NN (LB PP 41 8) 0 0 (Sdi l (↑i : Int) (↑j : Int)) (Sdi l (↑i : Int) (IntKind.wrap .i64 ((↑j : Int) + 1))) :=
  bh (aa z0 <| aa (rfl : (↑j : Int) = (↑j : Int)) <| aa (aI (f := Evt.cs) hy) <| xa3 z1 <| aa (rfl : (↑j : Int) = (↑j : Int)) <| aa (aI (f := Evt.cs) hy) <| xa5 z1 <| aa (rfl : (↑i : Int) = (↑i : Int)) <| aa (aI (f := Evt.cs) hx) <| xa4 z1 <| aa z2 <| trivial) (gs := xc gT <| xc (G.idx j [ii y.kind, ii y.node, ii y.id, ii y.block, st y.data, u y.n, C.slice 1 (List.map eB y.keeps)]) <| xg3 gT <| xc (G.idx j [ii y.kind, ii y.node, ii y.id, ii y.block, st y.data, u y.n, C.slice 1 (List.map eB y.keeps)]) <| xg5 gT <| xc (G.idx i [ii x.kind, ii x.node, ii x.id, ii x.block, st x.data, u x.n, C.slice 1 (List.map eB x.keeps)]) <| xg4 gT <| [gF]) (by kernel_rfl)
theorem D4 (l : List Evt) (i : Nat) (j : Nat) (y : Evt) (hy : l[j]? = some y) (k : Nat) (z0 : (decide ((↑j : Int) < (↑i : Int))) = true) (z1 : (Evt.kind y == 13) = false) : bw (EE (k + 2)) (HH 41) NN (LB PP 41 8) 0 0 (Sdi l (↑i : Int) (↑j : Int)) (Sdi l (↑i : Int) (IntKind.wrap .i64 ((↑j : Int) + 1))) :=
  bh (aa z0 <| aa (rfl : (↑j : Int) = (↑j : Int)) <| aa (aI (f := Evt.cs) hy) <| m6 z1 <| aa ff <| trivial) (gs := xc gT <| xc (G.idx j [ii y.kind, ii y.node, ii y.id, ii y.block, st y.data, u y.n, C.slice 1 (List.map eB y.keeps)]) <| bv gF <| [gF]) (by kernel_rfl)
def px (l : List Evt) (i : Nat) (j : Nat) : St := St.mk (tc (C.slice 7 (List.map Evt.cs l)) :: T.hole :: T.hole :: tc (ii (↑i : Int)) :: tc (ii (↑j : Int)) :: hs 27 (tc (ii (↑j : Int)) :: tc (ii (↑i : Int)) :: tc (bo (decide ((↑j : Int) < (↑i : Int)))) :: hs 21 [])) [] []
theorem DT (l : List Evt) (i : Nat) (j : Nat) (k : Nat) (z0 : (decide ((↑j : Int) < (↑i : Int))) = false) : cm (EE (k + 2)) (HH 41) NN (LB PP 41 8) (Sdi l (↑i : Int) (↑j : Int)) (Ext.exit 2) (px l i j) :=
  bI (aa z0 <| trivial) (gs := [gF]) (by kernel_rfl)
def xi (l : List Evt) (i : Nat) (x : Evt) : St := St.mk (tc (C.slice 7 (List.map Evt.cs l)) :: T.hole :: tc (bo false) :: tc (ii (↑i : Int)) :: T.hole :: tc (ii (↑i : Int)) :: tc (C.slice 7 (List.map Evt.cs l)) :: tc (ii (↑(l.length) : Int)) :: tc (bo (decide ((↑i : Int) < (↑(l.length) : Int)))) :: T.hole :: T.hole :: tc (C.slice 7 (List.map Evt.cs l)) :: tc (ii (↑i : Int)) :: tc (C.rptr [ii x.kind, ii x.node, ii x.id, ii x.block, st x.data, u x.n, C.slice 1 (List.map eB x.keeps)]) :: tc (C.rptr [ii x.kind, ii x.node, ii x.id, ii x.block, st x.data, u x.n, C.slice 1 (List.map eB x.keeps)]) :: tc (ii x.kind) :: tc (bo (Evt.kind x != 13)) :: tc (C.slice 7 (List.map Evt.cs l)) :: tc (ii (↑i : Int)) :: tc (C.rptr [ii x.kind, ii x.node, ii x.id, ii x.block, st x.data, u x.n, C.slice 1 (List.map eB x.keeps)]) :: tc (C.rptr [u x.n, C.slice 1 (List.map eB x.keeps)]) :: tc (u x.n) :: tc (bo (Evt.n x == 0)) :: tc (bo (Evt.n x == 0)) :: ks 7 (tc (bo true) :: hs 24 [])) [] []
theorem E4 (l : List Evt) (i : Nat) (x : Evt) (hx : l[i]? = some x) (k : Nat) (z0 : (decide ((↑i : Int) < (↑(l.length) : Int))) = true) (z1 : (Evt.kind x == 13) = true) (z2 : (Evt.n x == 0) = true) : cm (EE (k + 2)) (HH 41) NN (LB PP 41 2) (Sdo l (↑i : Int)) (Ext.ret) (xi l i x) :=
  bI (aa (au (Evt.cs) (l)) <| aa z0 <| aa (rfl : (↑i : Int) = (↑i : Int)) <| aa (aI (f := Evt.cs) hx) <| aa (cn z1) <| aa (rfl : (↑i : Int) = (↑i : Int)) <| aa (aI (f := Evt.cs) hx) <| xa8 z2 <| aa tt <| trivial) (gs := xc (G.len (l.length)) <| xc gT <| xc (G.idx i [ii x.kind, ii x.node, ii x.id, ii x.block, st x.data, u x.n, C.slice 1 (List.map eB x.keeps)]) <| xc gF <| xc (G.idx i [ii x.kind, ii x.node, ii x.id, ii x.block, st x.data, u x.n, C.slice 1 (List.map eB x.keeps)]) <| xg9 gT <| []) (by kernel_rfl)
def vQ (l : List Evt) (i : Nat) (x : Evt) : St := St.mk (tc (C.slice 7 (List.map Evt.cs l)) :: T.hole :: tc (bo false) :: tc (ii (↑i : Int)) :: T.hole :: tc (ii (↑i : Int)) :: tc (C.slice 7 (List.map Evt.cs l)) :: tc (ii (↑(l.length) : Int)) :: tc (bo (decide ((↑i : Int) < (↑(l.length) : Int)))) :: T.hole :: T.hole :: tc (C.slice 7 (List.map Evt.cs l)) :: tc (ii (↑i : Int)) :: tc (C.rptr [ii x.kind, ii x.node, ii x.id, ii x.block, st x.data, u x.n, C.slice 1 (List.map eB x.keeps)]) :: tc (C.rptr [ii x.kind, ii x.node, ii x.id, ii x.block, st x.data, u x.n, C.slice 1 (List.map eB x.keeps)]) :: tc (ii x.kind) :: tc (bo (Evt.kind x != 13)) :: tc (C.slice 7 (List.map Evt.cs l)) :: tc (ii (↑i : Int)) :: tc (C.rptr [ii x.kind, ii x.node, ii x.id, ii x.block, st x.data, u x.n, C.slice 1 (List.map eB x.keeps)]) :: tc (C.rptr [u x.n, C.slice 1 (List.map eB x.keeps)]) :: tc (u x.n) :: tc (bo (Evt.n x == 0)) :: tc (bo (Evt.n x == 0)) :: tc (C.slice 7 (List.map Evt.cs l)) :: tc (ii (↑i : Int)) :: tc (C.rptr [ii x.kind, ii x.node, ii x.id, ii x.block, st x.data, u x.n, C.slice 1 (List.map eB x.keeps)]) :: tc (C.rptr [u x.n, C.slice 1 (List.map eB x.keeps)]) :: tc (u x.n) :: tc (u 7) :: tc (bo (Evt.n x == 7)) :: tc (bo (Evt.n x == 7)) :: hs 24 []) [] []
theorem Eh (l : List Evt) (i : Nat) (x : Evt) (hx : l[i]? = some x) (k : Nat) (z0 : (decide ((↑i : Int) < (↑(l.length) : Int))) = true) (z1 : (Evt.kind x == 13) = true) (z2 : (Evt.n x == 0) = false) (z3 : (Evt.n x == 7) = true) : cm (EE (k + 2)) (HH 41) NN (LB PP 41 2) (Sdo l (↑i : Int)) (Ext.ret) (vQ l i x) :=
  bI (aa (au (Evt.cs) (l)) <| aa z0 <| aa (rfl : (↑i : Int) = (↑i : Int)) <| aa (aI (f := Evt.cs) hx) <| aa (cn z1) <| aa (rfl : (↑i : Int) = (↑i : Int)) <| aa (aI (f := Evt.cs) hx) <| xa3 z2 <| aa (rfl : (↑i : Int) = (↑i : Int)) <| aa (aI (f := Evt.cs) hx) <| xa3 z2 <| aa (kf (k + 1)) <| xa2 z2 <| aa z3 <| trivial) (gs := xc (G.len (l.length)) <| xc gT <| xc (G.idx i [ii x.kind, ii x.node, ii x.id, ii x.block, st x.data, u x.n, C.slice 1 (List.map eB x.keeps)]) <| xc gF <| xc (G.idx i [ii x.kind, ii x.node, ii x.id, ii x.block, st x.data, u x.n, C.slice 1 (List.map eB x.keeps)]) <| xg3 gF <| xc (G.idx i [ii x.kind, ii x.node, ii x.id, ii x.block, st x.data, u x.n, C.slice 1 (List.map eB x.keeps)]) <| xg3 gF <| xc (G.call [Res.c (u 7)] []) <| xg2 gF <| [gT]) (by kernel_rfl)
theorem EJ (l : List Evt) (i : Nat) (x : Evt) (hx : l[i]? = some x) (j : Nat) (hL : ∀ k, bz (EE (k + 2)) (HH 41) NN (LB PP 41 8) (Sdi l (↑i : Int) 0) (Ext.exit 2) (px l i j)) (k : Nat) (z0 : (decide ((↑i : Int) < (↑(l.length) : Int))) = true) (z1 : (Evt.kind x == 13) = true) (z2 : (Evt.n x == 0) = false) (z3 : (Evt.n x == 7) = false) : bw (EE (k + 2)) (HH 41) NN (LB PP 41 2) 0 0 (Sdo l (↑i : Int)) (Sdo l (IntKind.wrap .i64 ((↑i : Int) + 1))) :=
  bh (aa (au (Evt.cs) (l)) <| aa z0 <| aa (rfl : (↑i : Int) = (↑i : Int)) <| aa (aI (f := Evt.cs) hx) <| aa (cn z1) <| aa (rfl : (↑i : Int) = (↑i : Int)) <| aa (aI (f := Evt.cs) hx) <| xa3 z2 <| aa (rfl : (↑i : Int) = (↑i : Int)) <| aa (aI (f := Evt.cs) hx) <| xa3 z2 <| aa (kf (k + 1)) <| xa2 z2 <| aa z3 <| aa (hL k) <| trivial) (gs := xc (G.len (l.length)) <| xc gT <| xc (G.idx i [ii x.kind, ii x.node, ii x.id, ii x.block, st x.data, u x.n, C.slice 1 (List.map eB x.keeps)]) <| xc gF <| xc (G.idx i [ii x.kind, ii x.node, ii x.id, ii x.block, st x.data, u x.n, C.slice 1 (List.map eB x.keeps)]) <| xg3 gF <| xc (G.idx i [ii x.kind, ii x.node, ii x.id, ii x.block, st x.data, u x.n, C.slice 1 (List.map eB x.keeps)]) <| xg3 gF <| xc (G.call [Res.c (u 7)] []) <| xg3 gF <| [G.loop (Ext.exit 2) (px l i j)]) (by kernel_rfl)
theorem D6 (l : List Evt) (i : Nat) (x : Evt) (hx : l[i]? = some x) (k : Nat) (z0 : (decide ((↑i : Int) < (↑(l.length) : Int))) = true) (z1 : (Evt.kind x == 13) = false) : bw (EE (k + 2)) (HH 41) NN (LB PP 41 2) 0 0 (Sdo l (↑i : Int)) (Sdo l (IntKind.wrap .i64 ((↑i : Int) + 1))) :=
  bh (aa (au (Evt.cs) (l)) <| aa z0 <| aa (rfl : (↑i : Int) = (↑i : Int)) <| aa (aI (f := Evt.cs) hx) <| aa (cn z1) <| trivial) (gs := [G.len (l.length), gT, G.idx i [ii x.kind, ii x.node, ii x.id, ii x.block, st x.data, u x.n, C.slice 1 (List.map eB x.keeps)], gT]) (by kernel_rfl)
def vP (l : List Evt) (i : Nat) : St := St.mk (tc (C.slice 7 (List.map Evt.cs l)) :: T.hole :: T.hole :: tc (ii (↑i : Int)) :: T.hole :: tc (ii (↑i : Int)) :: tc (C.slice 7 (List.map Evt.cs l)) :: tc (ii (↑(l.length) : Int)) :: tc (bo (decide ((↑i : Int) < (↑(l.length) : Int)))) :: hs 47 []) [] []
theorem Dv (l : List Evt) (i : Nat) (k : Nat) (z0 : (decide ((↑i : Int) < (↑(l.length) : Int))) = false) : cm (EE (k + 2)) (HH 41) NN (LB PP 41 2) (Sdo l (↑i : Int)) (Ext.exit 0) (vP l i) :=
  bI (aa (au (Evt.cs) (l)) <| aa z0 <| trivial) (gs := [G.len (l.length), gF]) (by kernel_rfl)
def w6 (l : List Evt) (i : Nat) (x : Evt) (j : Nat) (y : Evt) : St := St.mk (tc (C.slice 7 (List.map Evt.cs l)) :: T.hole :: tc (bo false) :: tc (ii (↑i : Int)) :: tc (ii (↑j : Int)) :: hs 27 [tc (ii (↑j : Int)), tc (ii (↑i : Int)), tc (bo (decide ((↑j : Int) < (↑i : Int)))), T.hole, T.hole, tc (C.slice 7 (List.map Evt.cs l)), tc (ii (↑j : Int)), tc (C.rptr [ii y.kind, ii y.node, ii y.id, ii y.block, st y.data, u y.n, C.slice 1 (List.map eB y.keeps)]), tc (C.rptr [ii y.kind, ii y.node, ii y.id, ii y.block, st y.data, u y.n, C.slice 1 (List.map eB y.keeps)]), tc (ii y.kind), tc (bo (Evt.kind y == 13)), tc (bo (Evt.kind y == 13)), tc (C.slice 7 (List.map Evt.cs l)), tc (ii (↑j : Int)), tc (C.rptr [ii y.kind, ii y.node, ii y.id, ii y.block, st y.data, u y.n, C.slice 1 (List.map eB y.keeps)]), tc (C.rptr [u y.n, C.slice 1 (List.map eB y.keeps)]), tc (u y.n), tc (C.slice 7 (List.map Evt.cs l)), tc (ii (↑i : Int)), tc (C.rptr [ii x.kind, ii x.node, ii x.id, ii x.block, st x.data, u x.n, C.slice 1 (List.map eB x.keeps)]), tc (C.rptr [u x.n, C.slice 1 (List.map eB x.keeps)]), tc (u x.n), tc (bo (Evt.n y == Evt.n x)), tc (bo (Evt.n y == Evt.n x))]) [] []
theorem Et (l : List Evt) (i : Nat) (x : Evt) (hx : l[i]? = some x) (j : Nat) (y : Evt) (hL : ∀ k, bz (EE (k + 2)) (HH 41) NN (LB PP 41 8) (Sdi l (↑i : Int) 0) Ext.ret (pA l i x j y)) (k : Nat) (z0 : (decide ((↑i : Int) < (↑(l.length) : Int))) = true) (z1 : (Evt.kind x == 13) = true) (z2 : (Evt.n x == 0) = false) (z3 : (Evt.n x == 7) = false) : cm (EE (k + 2)) (HH 41) NN (LB PP 41 2) (Sdo l (↑i : Int)) (Ext.ret) (w6 l i x j y) :=
  bI (aa (au (Evt.cs) (l)) <| aa z0 <| aa (rfl : (↑i : Int) = (↑i : Int)) <| aa (aI (f := Evt.cs) hx) <| aa (cn z1) <| aa (rfl : (↑i : Int) = (↑i : Int)) <| aa (aI (f := Evt.cs) hx) <| xa3 z2 <| aa (rfl : (↑i : Int) = (↑i : Int)) <| aa (aI (f := Evt.cs) hx) <| xa3 z2 <| aa (kf (k + 1)) <| xa2 z2 <| aa z3 <| aa (hL k) <| trivial) (gs := xc (G.len (l.length)) <| xc gT <| xc (G.idx i [ii x.kind, ii x.node, ii x.id, ii x.block, st x.data, u x.n, C.slice 1 (List.map eB x.keeps)]) <| xc gF <| xc (G.idx i [ii x.kind, ii x.node, ii x.id, ii x.block, st x.data, u x.n, C.slice 1 (List.map eB x.keeps)]) <| xg3 gF <| xc (G.idx i [ii x.kind, ii x.node, ii x.id, ii x.block, st x.data, u x.n, C.slice 1 (List.map eB x.keeps)]) <| xg3 gF <| xc (G.call [Res.c (u 7)] []) <| xg3 gF <| [G.loop Ext.ret (pA l i x j y)]) (by kernel_rfl)
theorem pI {α : Type} {l : List α} {i j : Nat} {y : α} (h : (l.take i)[j]? = some y) : l[j]? = some y ∧ j < i := by
  rw [List.getElem?_take] at h
  split at h
  · exact ⟨h, by assumption⟩
  · cases h
theorem zF (l : List Evt) (i : Nat) (x : Evt) (hx : l[i]? = some x) (hl : l.length ≤ 1000000) : ((l.take i).any (gr x) = false ∧ ∀ k, bz (EE (k + 2)) (HH 41) NN (LB PP 41 8) (Sdi l i 0) (.exit 2) (px l i i)) ∨ ((l.take i).any (gr x) = true ∧ ∃ j y, ∀ k, bz (EE (k + 2)) (HH 41) NN (LB PP 41 8) (Sdi l i 0) .ret (pA l i x j y)) := by
  have hi := dp hx
  have hlen : (l.take i).length = i := by rw [List.length_take]; omega
  rcases sL (E := fun k => EE (k + 2)) (H := HH 41) (n := NN) (b := LB PP 41 8) (fun j => Sdi l i (j : Nat)) (l.take i) (gr x) (fun j y => pA l i x j y) (px l i (l.take i).length) (nv := 0) (nt := 0) (e := .ret) (e' := .exit 2) (by kernel_rfl) (by kernel_rfl)
    (fun k j y hy hp => by
      obtain ⟨h1, h2⟩ := pI hy
      unfold gr at hp
      cases hk : y.kind == 13 with
      | true =>
        rw [hk, Bool.true_and] at hp
        have := Ee l i x hx j y h1 k (decide_eq_true (by omega)) hk hp
        rwa [qJ h1 (by omega)] at this
      | false =>
        have := D4 l i j y h1 k (decide_eq_true (by omega)) hk
        rwa [qJ h1 (by omega)] at this)
    (fun k j y hy hp => by
      obtain ⟨h1, h2⟩ := pI hy
      unfold gr at hp
      rw [Bool.and_eq_true] at hp
      exact E7 l i x hx j y h1 k (decide_eq_true (by omega)) hp.1 hp.2)
    (fun k => DT l i _ k (by rw [hlen]; exact dge)) (by unfold NN; omega) with ⟨hb, hL⟩ | ⟨hb, j, y, hy, hp, hf, hj, hL⟩
  · rw [hlen] at hL
    exact .inl ⟨hb, hL⟩
  · exact .inr ⟨hb, j, y, hL⟩
theorem Cm (l : List Evt) (i : Nat) (x : Evt) (hL : ∀ k, bz (EE (k + 2)) (HH 41) NN (LB PP 41 2) (Sdo l 0) Ext.ret (xi l i x)) (k : Nat) : ak PP GL XX HH NN (k + 3) 41 [A.c (C.slice 7 (List.map Evt.cs l))] [] = some ([Res.c (bo false)], []) := by
  exact rt (aa (hL k) <| trivial) (gs := [G.loop Ext.ret (xi l i x)]) rfl
theorem B3 (l : List Evt) (i : Nat) (x : Evt) (hL : ∀ k, bz (EE (k + 2)) (HH 41) NN (LB PP 41 2) (Sdo l 0) Ext.ret (vQ l i x)) (k : Nat) : ak PP GL XX HH NN (k + 3) 41 [A.c (C.slice 7 (List.map Evt.cs l))] [] = some ([Res.c (bo false)], []) := by
  exact rt (aa (hL k) <| trivial) (gs := [G.loop Ext.ret (vQ l i x)]) rfl
theorem BD (l : List Evt) (i : Nat) (x : Evt) (j : Nat) (y : Evt) (hL : ∀ k, bz (EE (k + 2)) (HH 41) NN (LB PP 41 2) (Sdo l 0) Ext.ret (w6 l i x j y)) (k : Nat) : ak PP GL XX HH NN (k + 3) 41 [A.c (C.slice 7 (List.map Evt.cs l))] [] = some ([Res.c (bo false)], []) := by
  exact rt (aa (hL k) <| trivial) (gs := [G.loop Ext.ret (w6 l i x j y)]) rfl
theorem Cc (l : List Evt) (i : Nat) (hL : ∀ k, bz (EE (k + 2)) (HH 41) NN (LB PP 41 2) (Sdo l 0) (Ext.exit 0) (vP l i)) (k : Nat) : ak PP GL XX HH NN (k + 3) 41 [A.c (C.slice 7 (List.map Evt.cs l))] [] = some ([Res.c (bo true)], []) := by
  exact rt (aa (hL k) <| trivial) (gs := [G.loop (Ext.exit 0) (vP l i)]) rfl
theorem Cr (l : List Evt) (hl : l.length ≤ 1000000) (k i m : Nat) (hm : (List.range l.length)[i]? = some m) (hb : j2 l m = false) : bw (EE (k + 2)) (HH 41) NN (LB PP 41 2) 0 0 (Sdo l (i : Nat)) (Sdo l ((i + 1 : Nat))) := by
  have hlt := dp hm
  rw [List.length_range] at hlt
  have hmi : m = i := by
    rw [List.getElem?_range hlt] at hm
    cases hm; rfl
  subst hmi
  have hx : l[m]? = some l[m] := List.getElem?_eq_getElem hlt
  unfold j2 at hb
  rw [hx] at hb
  simp only [Bu] at hb
  cases hk : l[m].kind == 13 with
  | false =>
    have := D6 l m l[m] hx k (dlt hx) hk
    rwa [qJ hx (by omega)] at this
  | true =>
    rw [hk, Bool.true_and, Bool.or_eq_false_iff, Bool.or_eq_false_iff] at hb
    rcases zF l m l[m] hx hl with ⟨_, hL⟩ | ⟨h2, _⟩
    · have := EJ l m l[m] hx m hL k (dlt hx) hk hb.1 hb.2.1
      rwa [qJ hx (by omega)] at this
    · rw [hb.2.2] at h2; cases h2
theorem tI (l : List Evt) (hl : l.length ≤ 1000000) (k : Nat) : ak PP GL XX HH NN (k + 3) 41 [.c (.slice 7 (l.map Evt.cs))] [] = some ([.c (bo (bN l))], []) := by
  unfold bN
  cases hb : (List.range l.length).any (j2 l) with
  | false =>
    refine Cc l l.length (fun k => ?_) k
    refine jL (E := EE (k + 2)) (n := NN) (b := LB PP 41 2) (fun i => Sdo l (i : Nat)) (List.range l.length) (j2 l) rfl (by kernel_rfl) (by kernel_rfl) (fun i m hm hp => Cr l hl k i m hm hp) ?_ (f7 hb) (by unfold NN; rw [List.length_range]; omega)
    rw [List.length_range]
    exact Dv l l.length k dge
  | true =>
    have hj := cj hb
    obtain ⟨i, hi⟩ : ∃ i, (List.range l.length).findIdx (j2 l) = i := ⟨_, rfl⟩
    have hlt : i < l.length := by rw [← hi]; rw [List.length_range] at hj; exact hj
    have hp : j2 l i = true := by
      have := List.findIdx_getElem (w := hj)
      simp only [List.getElem_range] at this
      rw [hi] at this
      exact this
    have hx : l[i]? = some l[i] := List.getElem?_eq_getElem hlt
    unfold j2 at hp
    rw [hx] at hp
    simp only [Bu, Bool.and_eq_true] at hp
    obtain ⟨hk, hp⟩ := hp
    have go : ∀ (t : St) (k : Nat), cm (EE (k + 2)) (HH 41) NN (LB PP 41 2) (Sdo l (i : Nat)) .ret t → bz (EE (k + 2)) (HH 41) NN (LB PP 41 2) (Sdo l 0) .ret t := fun t k ht =>
      ld (E := EE (k + 2)) (n := NN) (b := LB PP 41 2) (fun i => Sdo l (i : Nat)) (List.range l.length) (j2 l) rfl (by kernel_rfl) (by kernel_rfl) (fun i m hm hp => Cr l hl k i m hm hp) (fun m hm hq => by rw [hi]; exact ht) hj (by unfold NN; rw [List.length_range]; omega)
    cases h0 : l[i].n == 0 with
    | true => exact Cm l i l[i] (fun k => go _ k (E4 l i l[i] hx k (dlt hx) hk h0)) k
    | false =>
      cases h7 : l[i].n == 7 with
      | true => exact B3 l i l[i] (fun k => go _ k (Eh l i l[i] hx k (dlt hx) hk h0 h7)) k
      | false =>
        rw [h0, h7, Bool.false_or, Bool.false_or] at hp
        rcases zF l i l[i] hx hl with ⟨h2, _⟩ | ⟨_, j, y, hL⟩
        · rw [h2] at hp; cases hp
        · exact BD l i l[i] j y (fun k => go _ k (Et l i l[i] hx j y hL k (dlt hx) hk h0 h7)) k
theorem dN (l : List Evt) (hl : l.length ≤ 1000000) (k : Nat) : ak PP GL XX HH NN (k + 4) 23 [A.c (C.slice 7 (List.map Evt.cs l))] [] = some ([Res.c (bo (bN l))], []) := by
  exact rt (aa (tI l hl k) <| trivial) (gs := [G.call [Res.c (bo (bN l))] []]) rfl
end Go.Dm
namespace Go.Dm
open Go
theorem u4 : VeR ⟨7, 0, 0, 0⟩ := by unfold VeR R64; simp
theorem r3 (i : Int) (n : Nat) : NI (PV []) (iJ i (cy n 7)) :=
  ⟨⟨u5 (ov []) (s := aZ n 7) ⟨u4, Or.inl rfl, fun _ g hg => Or.inl (by rcases hg with h | h | h <;> exact h)⟩, fun w hw => by cases hw⟩, fun h => absurd h (by simp [iJ]), fun h => absurd h (show (0 : Int) ≠ 4 by decide), fun _ => rfl⟩
theorem Ap {l : List Evt} (hd : bN l = true) (hr : ∀ e ∈ l, R64 e.n) (n : Nat) : Inv (jN l) [] (zr n) := by
  have n0 := r3 0 n
  have n1 := r3 1 n
  have hc := y4 hd hr n0 n1 rfl rfl rfl rfl rfl rfl
  obtain ⟨s0, q0⟩ := gE (T := []) trivial n0 []
  obtain ⟨s1, q1⟩ := gE (T := []) trivial n1 []
  refine ⟨(hc.stepA s0).stepB s1, ⟨fun _ => ⟨?_, ?_⟩, fun h => absurd h (by simp [zr, lk0])⟩⟩
  · rcases q0 with q | q
    · show (cc (iJ 0 (cy n 7)) []).1.state = 0
      rw [q]; rfl
    · exact q.2
  · rcases q1 with q | q
    · show (cc (iJ 1 (cy n 7)) []).1.state = 0
      rw [q]; rfl
    · exact q.2
theorem v6 {l r : List Evt} (hd : bN (l ++ r) = true) (hr : ∀ e ∈ l ++ r, R64 e.n) (b : Int) : ∃ T, Inv (jN r) T (eF b l) := sh l r (Ap hd hr _)
def Sll (c : Cl) (c0 : Int) : St := St.mk (hs 5 (T.k (K.v (V.ptr 0 0)) :: T.k (K.v (V.own 3 (List.map Mi.cs (aL c)) (Tk.tok 0))) :: tc (ii c0) :: hs 82 [])) [[V.c (ii c.n0.id), V.c (bo c.n0.up), V.c (C.slice 1 (List.map eS c.n0.store.disk.sure)), V.c (C.slice 2 (List.map Wr.cs c.n0.store.disk.cache)), V.c (ii c.n0.store.disk.fuse), V.c (bo c.n0.store.disk.dead), V.c (ii c.n0.store.super.blocks), V.c (u c.n0.store.super.v.cur), V.c (u c.n0.store.super.v.bit), V.c (u c.n0.store.super.v.o0), V.c (u c.n0.store.super.v.o1), V.c (bo c.n0.store.super.inc), V.c (bo c.n0.store.super.pri), V.c (bo c.n0.store.super.dis), V.c (w4 (mi c.n0.store.mask)), V.c (bo c.n0.primary), V.c (ii c.n0.state), V.c (u c.n0.ses), V.c (ii c.n0.peer.blocks), V.c (u c.n0.peer.v.cur), V.c (u c.n0.peer.v.bit), V.c (u c.n0.peer.v.o0), V.c (u c.n0.peer.v.o1), V.c (bo c.n0.peer.inc), V.c (bo c.n0.peer.was), V.c (bo c.n0.peer.dis), V.c (bo c.n0.peer.pri), V.c (w4 (mi c.n0.peer.mask)), V.c (bo c.n0.peerPri), V.c (bo c.n0.req.on), V.c (ii c.n0.req.id), V.c (ii c.n0.req.block), V.c (st c.n0.req.data), V.c (bo c.n0.asking), V.c (ii c.n0.askId), V.c (ii c.n0.wanted), V.c (bo c.n0.minted), V.c (C.slice 1 (List.map eU c.n0.draws)), V.c (C.slice 3 (List.map Mi.cs c.n0.mints)), V.c (ii c.n1.id), V.c (bo c.n1.up), V.c (C.slice 1 (List.map eS c.n1.store.disk.sure)), V.c (C.slice 2 (List.map Wr.cs c.n1.store.disk.cache)), V.c (ii c.n1.store.disk.fuse), V.c (bo c.n1.store.disk.dead), V.c (ii c.n1.store.super.blocks), V.c (u c.n1.store.super.v.cur), V.c (u c.n1.store.super.v.bit), V.c (u c.n1.store.super.v.o0), V.c (u c.n1.store.super.v.o1), V.c (bo c.n1.store.super.inc), V.c (bo c.n1.store.super.pri), V.c (bo c.n1.store.super.dis), V.c (w4 (mi c.n1.store.mask)), V.c (bo c.n1.primary), V.c (ii c.n1.state), V.c (u c.n1.ses), V.c (ii c.n1.peer.blocks), V.c (u c.n1.peer.v.cur), V.c (u c.n1.peer.v.bit), V.c (u c.n1.peer.v.o0), V.c (u c.n1.peer.v.o1), V.c (bo c.n1.peer.inc), V.c (bo c.n1.peer.was), V.c (bo c.n1.peer.dis), V.c (bo c.n1.peer.pri), V.c (w4 (mi c.n1.peer.mask)), V.c (bo c.n1.peerPri), V.c (bo c.n1.req.on), V.c (ii c.n1.req.id), V.c (ii c.n1.req.block), V.c (st c.n1.req.data), V.c (bo c.n1.asking), V.c (ii c.n1.askId), V.c (ii c.n1.wanted), V.c (bo c.n1.minted), V.c (C.slice 1 (List.map eU c.n1.draws)), V.c (C.slice 3 (List.map Mi.cs c.n1.mints)), V.c (bo c.link.up), V.c (u c.link.ses), V.c (C.slice 1 (List.map eS c.link.to0)), V.c (C.slice 1 (List.map eS c.link.to1)), V.c (bo c.w0), V.c (bo c.w1)]] [List.length (List.map Mi.cs (aL c))]
theorem CD (c : Cl) (i : Nat) (x : Mi) (hx : (aL c)[i]? = some x) (hc : c.n0.mints.length + c.n1.mints.length ≤ 100000) (h1 : decide ((↑i : Int) < (↑(c.n0.mints.length) : Int)) = true) (h2 : (Mi.n x == 0) = true) (h3 : decide ((↑i : Int) ≥ (↑(c.n0.mints.length) : Int)) = false) (h4 : decide (dY c 7 x.g < 1) = false) (k : Nat) (z0 : (decide ((↑i : Int) < (↑(List.length (aL c)) : Int))) = true) : bw (EE (k + 19)) (HH 6) NN (LB PP 6 8) 1 1 (Sll c (↑i : Int)) (Sll c (IntKind.wrap .i64 ((↑i : Int) + 1))) :=
  bh (aa (au (Mi.cs) (aL c)) <| aa z0 <| aa (au (Mi.cs) c.n0.mints) <| xa3 h1 <| aa (rfl : (↑i : Int) = (↑i : Int)) <| aa (aI (f := Mi.cs) hx) <| xa4 h1 <| xa6 (cn h2) <| aa (au (Mi.cs) c.n0.mints) <| xa2 (cn h2) <| xa6 h3 <| aa (cn h2) <| aa h3 <| aa (cn h2) <| xa2 ff <| aa (d8 (k + 17)) <| xa3 ff <| aa (rfl : (↑i : Int) = (↑i : Int)) <| aa (aI (f := Mi.cs) hx) <| xa3 ff <| aa (gG c 7 x.g hc (k + 12)) <| xa2 ff <| aa h4 <| trivial) (gs := xc (G.len (List.length (aL c))) <| xc gT <| xc (G.len (c.n0.mints.length)) <| xg3 gT <| xc (G.idx i [u x.g, u x.p, ii x.n]) <| xg4 gT <| xg6 gF <| xc (G.len (c.n0.mints.length)) <| bv gF <| xc gF <| xc (G.call [Res.c (u 7)] []) <| xg3 gF <| xc (G.idx i [u x.g, u x.p, ii x.n]) <| xg3 gF <| xc (G.call [Res.c (ii (dY c 7 x.g))] []) <| xg3 gF <| []) (by kernel_rfl)
def fe (c : Cl) (i : Nat) : St := St.mk (hs 5 (T.k (K.v (V.ptr 0 0)) :: T.k (K.v (V.own 3 (List.map Mi.cs (aL c)) (Tk.tok 0))) :: tc (ii (↑i : Int)) :: hs 15 (tc (ii (↑i : Int)) :: T.k (K.v (V.own 3 (List.map Mi.cs (aL c)) (Tk.tok 0))) :: tc (ii (↑(List.length (aL c)) : Int)) :: tc (bo (decide ((↑i : Int) < (↑(List.length (aL c)) : Int)))) :: hs 63 []))) [[V.c (ii c.n0.id), V.c (bo c.n0.up), V.c (C.slice 1 (List.map eS c.n0.store.disk.sure)), V.c (C.slice 2 (List.map Wr.cs c.n0.store.disk.cache)), V.c (ii c.n0.store.disk.fuse), V.c (bo c.n0.store.disk.dead), V.c (ii c.n0.store.super.blocks), V.c (u c.n0.store.super.v.cur), V.c (u c.n0.store.super.v.bit), V.c (u c.n0.store.super.v.o0), V.c (u c.n0.store.super.v.o1), V.c (bo c.n0.store.super.inc), V.c (bo c.n0.store.super.pri), V.c (bo c.n0.store.super.dis), V.c (w4 (mi c.n0.store.mask)), V.c (bo c.n0.primary), V.c (ii c.n0.state), V.c (u c.n0.ses), V.c (ii c.n0.peer.blocks), V.c (u c.n0.peer.v.cur), V.c (u c.n0.peer.v.bit), V.c (u c.n0.peer.v.o0), V.c (u c.n0.peer.v.o1), V.c (bo c.n0.peer.inc), V.c (bo c.n0.peer.was), V.c (bo c.n0.peer.dis), V.c (bo c.n0.peer.pri), V.c (w4 (mi c.n0.peer.mask)), V.c (bo c.n0.peerPri), V.c (bo c.n0.req.on), V.c (ii c.n0.req.id), V.c (ii c.n0.req.block), V.c (st c.n0.req.data), V.c (bo c.n0.asking), V.c (ii c.n0.askId), V.c (ii c.n0.wanted), V.c (bo c.n0.minted), V.c (C.slice 1 (List.map eU c.n0.draws)), V.c (C.slice 3 (List.map Mi.cs c.n0.mints)), V.c (ii c.n1.id), V.c (bo c.n1.up), V.c (C.slice 1 (List.map eS c.n1.store.disk.sure)), V.c (C.slice 2 (List.map Wr.cs c.n1.store.disk.cache)), V.c (ii c.n1.store.disk.fuse), V.c (bo c.n1.store.disk.dead), V.c (ii c.n1.store.super.blocks), V.c (u c.n1.store.super.v.cur), V.c (u c.n1.store.super.v.bit), V.c (u c.n1.store.super.v.o0), V.c (u c.n1.store.super.v.o1), V.c (bo c.n1.store.super.inc), V.c (bo c.n1.store.super.pri), V.c (bo c.n1.store.super.dis), V.c (w4 (mi c.n1.store.mask)), V.c (bo c.n1.primary), V.c (ii c.n1.state), V.c (u c.n1.ses), V.c (ii c.n1.peer.blocks), V.c (u c.n1.peer.v.cur), V.c (u c.n1.peer.v.bit), V.c (u c.n1.peer.v.o0), V.c (u c.n1.peer.v.o1), V.c (bo c.n1.peer.inc), V.c (bo c.n1.peer.was), V.c (bo c.n1.peer.dis), V.c (bo c.n1.peer.pri), V.c (w4 (mi c.n1.peer.mask)), V.c (bo c.n1.peerPri), V.c (bo c.n1.req.on), V.c (ii c.n1.req.id), V.c (ii c.n1.req.block), V.c (st c.n1.req.data), V.c (bo c.n1.asking), V.c (ii c.n1.askId), V.c (ii c.n1.wanted), V.c (bo c.n1.minted), V.c (C.slice 1 (List.map eU c.n1.draws)), V.c (C.slice 3 (List.map Mi.cs c.n1.mints)), V.c (bo c.link.up), V.c (u c.link.ses), V.c (C.slice 1 (List.map eS c.link.to0)), V.c (C.slice 1 (List.map eS c.link.to1)), V.c (bo c.w0), V.c (bo c.w1)]] [List.length (List.map Mi.cs (aL c))]
theorem CF (c : Cl) (i : Nat) (k : Nat) (z0 : (decide ((↑i : Int) < (↑(List.length (aL c)) : Int))) = false) : cm (EE (k + 19)) (HH 6) NN (LB PP 6 8) (Sll c (↑i : Int)) (Ext.exit 0) (fe c i) :=
  bI (aa (au (Mi.cs) (aL c)) <| aa z0 <| trivial) (gs := [G.len (List.length (aL c)), gF]) (by kernel_rfl)
theorem BO (c : Cl) (i : Nat) (x : Mi) (hx : (aL c)[i]? = some x) (hc : c.n0.mints.length + c.n1.mints.length ≤ 100000) (h1 : decide ((↑i : Int) < (↑(c.n0.mints.length) : Int)) = false) (h2 : (Mi.n x == 1) = true) (h3 : decide ((↑i : Int) ≥ (↑(c.n0.mints.length) : Int)) = true) (h4 : decide (dY c 7 x.g < 1) = false) (k : Nat) (z0 : (decide ((↑i : Int) < (↑(List.length (aL c)) : Int))) = true) : bw (EE (k + 19)) (HH 6) NN (LB PP 6 8) 1 1 (Sll c (↑i : Int)) (Sll c (IntKind.wrap .i64 ((↑i : Int) + 1))) :=
  bh (aa (au (Mi.cs) (aL c)) <| aa z0 <| aa (au (Mi.cs) c.n0.mints) <| xa7 h1 <| xa6 ff <| aa (au (Mi.cs) c.n0.mints) <| xa2 ff <| xa3 h3 <| aa (rfl : (↑i : Int) = (↑i : Int)) <| aa (aI (f := Mi.cs) hx) <| xa3 h3 <| aa ff <| aa h3 <| aa ff <| xa2 (cn h2) <| aa (d8 (k + 17)) <| xa3 (cn h2) <| aa (rfl : (↑i : Int) = (↑i : Int)) <| aa (aI (f := Mi.cs) hx) <| xa3 (cn h2) <| aa (gG c 7 x.g hc (k + 12)) <| xa2 (cn h2) <| aa h4 <| trivial) (gs := xc (G.len (List.length (aL c))) <| xc gT <| xc (G.len (c.n0.mints.length)) <| bv gF <| xc gF <| xc (G.len (c.n0.mints.length)) <| xg2 gF <| xg3 gT <| xc (G.idx i [u x.g, u x.p, ii x.n]) <| xg3 gT <| xc gF <| xc gT <| xg3 gF <| xc (G.call [Res.c (u 7)] []) <| xg3 gF <| xc (G.idx i [u x.g, u x.p, ii x.n]) <| xg3 gF <| xc (G.call [Res.c (ii (dY c 7 x.g))] []) <| xg3 gF <| []) (by kernel_rfl)
theorem llF (b : Int) (l : List Evt) (c : Cl) (n : Nat) (g1 : dk l (80 : Int) = false) (g2 : bN l = true) (hl : l.length ≤ 1000000) (hc : c.n0.mints.length + c.n1.mints.length ≤ 100000) (hc2 : c.n0.mints.length + c.n1.mints.length ≤ 1000000) (hR : ∀ k, ak PP GL XX HH NN (k + 19) 9 [A.c (by8 b), A.c (C.slice 7 (List.map Evt.cs l))] [] = some ([Res.agg (Cl.cs c)], [])) (hL : ∀ k, bz (EE (k + 19)) (HH 6) NN (LB PP 6 8) (Sll c 0) (Ext.exit 0) (fe c n)) (k : Nat) : ak PP GL XX HH NN (k + 20) 6 [A.c (by8 b), A.c (C.slice 7 (List.map Evt.cs l))] [] = some ([Res.c (bo (!(Nd.up c.n0 && decide (dY c 7 c.n0.store.super.v.cur < 0)) && !(Nd.up c.n1 && decide (dY c 7 c.n1.store.super.v.cur < 0))))], []) := by
  rcases bft c.n0.up with z0 | z0
  · rcases bft (decide (dY c 7 c.n0.store.super.v.cur < 0)) with z1 | z1
    · exact rt (aa (gh k) <| aa ff <| aa (ju l 80 (show (80 : Int) ≤ 1000000 from by decide) (k + 16)) <| xa2 g1 <| aa (dN l hl (k + 15)) <| xa2 g1 <| aa (cn g2) <| aa (hR k) <| aa (dG c hc2 (k + 16)) <| aa (hL k) <| aa tt <| aa (rfl : (0 : Int) = 0) <| xa2 z0 <| aa (d8 (k + 17)) <| xa3 z0 <| aa (lj c (k + 18)) <| aa z0 <| aa (gG c 7 c.n0.store.super.v.cur hc (k + 12)) <| xa2 z0 <| aa z1 <| trivial) (gs := xc (G.call [Res.c (bo true)] []) <| xc gF <| xc (G.call [Res.c (bo (dk l 80))] []) <| xg2 gF <| xc (G.call [Res.c (bo (bN l))] []) <| xg3 gF <| xc (G.call [Res.agg (Cl.cs c)] []) <| xc (G.call [Res.top 3 (List.map Mi.cs (aL c))] []) <| xc (G.loop (Ext.exit 0) (fe c n)) <| xc G.un <| xc gT <| xc (G.at 0) <| xg2 gT <| xc (G.call [Res.c (u 7)] []) <| xg3 gT <| xc (G.call [Res.c (u c.n0.store.super.v.cur)] []) <| xc gT <| xc (G.call [Res.c (ii (dY c 7 c.n0.store.super.v.cur))] []) <| xg3 gT <| []) (by simp only [z0, z1, vq] <;> rfl)
    · rcases bft c.n1.up with z2 | z2
      · rcases bft (decide (dY c 7 c.n1.store.super.v.cur < 0)) with z3 | z3
        · exact rt (aa (gh k) <| aa ff <| aa (ju l 80 (show (80 : Int) ≤ 1000000 from by decide) (k + 16)) <| xa2 g1 <| aa (dN l hl (k + 15)) <| xa2 g1 <| aa (cn g2) <| aa (hR k) <| aa (dG c hc2 (k + 16)) <| aa (hL k) <| aa tt <| aa (rfl : (0 : Int) = 0) <| xa2 z0 <| aa (d8 (k + 17)) <| xa3 z0 <| aa (lj c (k + 18)) <| aa z0 <| aa (gG c 7 c.n0.store.super.v.cur hc (k + 12)) <| xa2 z0 <| aa z1 <| aa tt <| aa (rfl : (1 : Int) = 1) <| xa2 z2 <| aa (d8 (k + 17)) <| xa3 z2 <| aa (lx c (k + 18)) <| aa z2 <| aa (gG c 7 c.n1.store.super.v.cur hc (k + 12)) <| xa2 z2 <| aa z3 <| trivial) (gs := xc (G.call [Res.c (bo true)] []) <| xc gF <| xc (G.call [Res.c (bo (dk l 80))] []) <| xg2 gF <| xc (G.call [Res.c (bo (bN l))] []) <| xg3 gF <| xc (G.call [Res.agg (Cl.cs c)] []) <| xc (G.call [Res.top 3 (List.map Mi.cs (aL c))] []) <| xc (G.loop (Ext.exit 0) (fe c n)) <| xc G.un <| xc gT <| xc (G.at 0) <| xg2 gT <| xc (G.call [Res.c (u 7)] []) <| xg3 gT <| xc (G.call [Res.c (u c.n0.store.super.v.cur)] []) <| xc gT <| xc (G.call [Res.c (ii (dY c 7 c.n0.store.super.v.cur))] []) <| xg2 gT <| xc gF <| xc gT <| xc (G.at 1) <| xg2 gT <| xc (G.call [Res.c (u 7)] []) <| xg3 gT <| xc (G.call [Res.c (u c.n1.store.super.v.cur)] []) <| xc gT <| xc (G.call [Res.c (ii (dY c 7 c.n1.store.super.v.cur))] []) <| xg3 gT <| []) (by simp only [z0, z1, z2, z3, vq] <;> rfl)
        · exact rt (aa (gh k) <| aa ff <| aa (ju l 80 (show (80 : Int) ≤ 1000000 from by decide) (k + 16)) <| xa2 g1 <| aa (dN l hl (k + 15)) <| xa2 g1 <| aa (cn g2) <| aa (hR k) <| aa (dG c hc2 (k + 16)) <| aa (hL k) <| aa tt <| aa (rfl : (0 : Int) = 0) <| xa2 z0 <| aa (d8 (k + 17)) <| xa3 z0 <| aa (lj c (k + 18)) <| aa z0 <| aa (gG c 7 c.n0.store.super.v.cur hc (k + 12)) <| xa2 z0 <| aa z1 <| aa tt <| aa (rfl : (1 : Int) = 1) <| xa2 z2 <| aa (d8 (k + 17)) <| xa3 z2 <| aa (lx c (k + 18)) <| aa z2 <| aa (gG c 7 c.n1.store.super.v.cur hc (k + 12)) <| xa2 z2 <| aa z3 <| aa ff <| trivial) (gs := xc (G.call [Res.c (bo true)] []) <| xc gF <| xc (G.call [Res.c (bo (dk l 80))] []) <| xg2 gF <| xc (G.call [Res.c (bo (bN l))] []) <| xg3 gF <| xc (G.call [Res.agg (Cl.cs c)] []) <| xc (G.call [Res.top 3 (List.map Mi.cs (aL c))] []) <| xc (G.loop (Ext.exit 0) (fe c n)) <| xc G.un <| xc gT <| xc (G.at 0) <| xg2 gT <| xc (G.call [Res.c (u 7)] []) <| xg3 gT <| xc (G.call [Res.c (u c.n0.store.super.v.cur)] []) <| xc gT <| xc (G.call [Res.c (ii (dY c 7 c.n0.store.super.v.cur))] []) <| xg2 gT <| xc gF <| xc gT <| xc (G.at 1) <| xg2 gT <| xc (G.call [Res.c (u 7)] []) <| xg3 gT <| xc (G.call [Res.c (u c.n1.store.super.v.cur)] []) <| xc gT <| xc (G.call [Res.c (ii (dY c 7 c.n1.store.super.v.cur))] []) <| xg2 gT <| xg2 gF <| []) (by simp only [z0, z1, z2, z3, vq] <;> rfl)
      · exact rt (aa (gh k) <| aa ff <| aa (ju l 80 (show (80 : Int) ≤ 1000000 from by decide) (k + 16)) <| xa2 g1 <| aa (dN l hl (k + 15)) <| xa2 g1 <| aa (cn g2) <| aa (hR k) <| aa (dG c hc2 (k + 16)) <| aa (hL k) <| aa tt <| aa (rfl : (0 : Int) = 0) <| xa2 z0 <| aa (d8 (k + 17)) <| xa3 z0 <| aa (lj c (k + 18)) <| aa z0 <| aa (gG c 7 c.n0.store.super.v.cur hc (k + 12)) <| xa2 z0 <| aa z1 <| aa tt <| aa (rfl : (1 : Int) = 1) <| xa8 z2 <| xa2 ff <| trivial) (gs := xc (G.call [Res.c (bo true)] []) <| xc gF <| xc (G.call [Res.c (bo (dk l 80))] []) <| xg2 gF <| xc (G.call [Res.c (bo (bN l))] []) <| xg3 gF <| xc (G.call [Res.agg (Cl.cs c)] []) <| xc (G.call [Res.top 3 (List.map Mi.cs (aL c))] []) <| xc (G.loop (Ext.exit 0) (fe c n)) <| xc G.un <| xc gT <| xc (G.at 0) <| xg2 gT <| xc (G.call [Res.c (u 7)] []) <| xg3 gT <| xc (G.call [Res.c (u c.n0.store.super.v.cur)] []) <| xc gT <| xc (G.call [Res.c (ii (dY c 7 c.n0.store.super.v.cur))] []) <| xg2 gT <| xc gF <| xc gT <| xc (G.at 1) <| mC gF <| []) (by simp only [z0, z1, z2, vq] <;> rfl)
  · rcases bft c.n1.up with z1 | z1
    · rcases bft (decide (dY c 7 c.n1.store.super.v.cur < 0)) with z2 | z2
      · exact rt (aa (gh k) <| aa ff <| aa (ju l 80 (show (80 : Int) ≤ 1000000 from by decide) (k + 16)) <| xa2 g1 <| aa (dN l hl (k + 15)) <| xa2 g1 <| aa (cn g2) <| aa (hR k) <| aa (dG c hc2 (k + 16)) <| aa (hL k) <| aa tt <| aa (rfl : (0 : Int) = 0) <| xa8 z0 <| aa ff <| aa tt <| aa (rfl : (1 : Int) = 1) <| xa2 z1 <| aa (d8 (k + 17)) <| xa3 z1 <| aa (lx c (k + 18)) <| aa z1 <| aa (gG c 7 c.n1.store.super.v.cur hc (k + 12)) <| xa2 z1 <| aa z2 <| trivial) (gs := xc (G.call [Res.c (bo true)] []) <| xc gF <| xc (G.call [Res.c (bo (dk l 80))] []) <| xg2 gF <| xc (G.call [Res.c (bo (bN l))] []) <| xg3 gF <| xc (G.call [Res.agg (Cl.cs c)] []) <| xc (G.call [Res.top 3 (List.map Mi.cs (aL c))] []) <| xc (G.loop (Ext.exit 0) (fe c n)) <| xc G.un <| xc gT <| xc (G.at 0) <| xg9 gF <| xc gT <| xc (G.at 1) <| xg2 gT <| xc (G.call [Res.c (u 7)] []) <| xg3 gT <| xc (G.call [Res.c (u c.n1.store.super.v.cur)] []) <| xc gT <| xc (G.call [Res.c (ii (dY c 7 c.n1.store.super.v.cur))] []) <| xg3 gT <| []) (by simp only [z0, z1, z2, vq] <;> rfl)
      · exact rt (aa (gh k) <| aa ff <| aa (ju l 80 (show (80 : Int) ≤ 1000000 from by decide) (k + 16)) <| xa2 g1 <| aa (dN l hl (k + 15)) <| xa2 g1 <| aa (cn g2) <| aa (hR k) <| aa (dG c hc2 (k + 16)) <| aa (hL k) <| aa tt <| aa (rfl : (0 : Int) = 0) <| xa8 z0 <| aa ff <| aa tt <| aa (rfl : (1 : Int) = 1) <| xa2 z1 <| aa (d8 (k + 17)) <| xa3 z1 <| aa (lx c (k + 18)) <| aa z1 <| aa (gG c 7 c.n1.store.super.v.cur hc (k + 12)) <| xa2 z1 <| aa z2 <| aa ff <| trivial) (gs := xc (G.call [Res.c (bo true)] []) <| xc gF <| xc (G.call [Res.c (bo (dk l 80))] []) <| xg2 gF <| xc (G.call [Res.c (bo (bN l))] []) <| xg3 gF <| xc (G.call [Res.agg (Cl.cs c)] []) <| xc (G.call [Res.top 3 (List.map Mi.cs (aL c))] []) <| xc (G.loop (Ext.exit 0) (fe c n)) <| xc G.un <| xc gT <| xc (G.at 0) <| xg9 gF <| xc gT <| xc (G.at 1) <| xg2 gT <| xc (G.call [Res.c (u 7)] []) <| xg3 gT <| xc (G.call [Res.c (u c.n1.store.super.v.cur)] []) <| xc gT <| xc (G.call [Res.c (ii (dY c 7 c.n1.store.super.v.cur))] []) <| xg2 gT <| xg2 gF <| []) (by simp only [z0, z1, z2, vq] <;> rfl)
    · exact rt (aa (gh k) <| aa ff <| aa (ju l 80 (show (80 : Int) ≤ 1000000 from by decide) (k + 16)) <| xa2 g1 <| aa (dN l hl (k + 15)) <| xa2 g1 <| aa (cn g2) <| aa (hR k) <| aa (dG c hc2 (k + 16)) <| aa (hL k) <| aa tt <| aa (rfl : (0 : Int) = 0) <| xa8 z0 <| aa ff <| aa tt <| aa (rfl : (1 : Int) = 1) <| xa8 z1 <| xa2 ff <| trivial) (gs := xc (G.call [Res.c (bo true)] []) <| xc gF <| xc (G.call [Res.c (bo (dk l 80))] []) <| xg2 gF <| xc (G.call [Res.c (bo (bN l))] []) <| xg3 gF <| xc (G.call [Res.agg (Cl.cs c)] []) <| xc (G.call [Res.top 3 (List.map Mi.cs (aL c))] []) <| xc (G.loop (Ext.exit 0) (fe c n)) <| xc G.un <| xc gT <| xc (G.at 0) <| xg9 gF <| xc gT <| xc (G.at 1) <| mC gF <| []) (by simp only [z0, z1, vq] <;> rfl)
theorem FJ (b : Int) (l : List Evt) (g1 : dk l (80 : Int) = true) (k : Nat) : ak PP GL XX HH NN (k + 20) 6 [A.c (by8 b), A.c (C.slice 7 (List.map Evt.cs l))] [] = some ([Res.c (bo true)], []) := by
  exact rt (aa (gh k) <| aa ff <| aa (ju l 80 (show (80 : Int) ≤ 1000000 from by decide) (k + 16)) <| xa4 g1 <| aa tt <| trivial) (gs := xc (G.call [Res.c (bo true)] []) <| xc gF <| xc (G.call [Res.c (bo (dk l 80))] []) <| xg5 gT <| []) rfl
theorem Fy (b : Int) (l : List Evt) (g1 : dk l (80 : Int) = false) (g2 : bN l = false) (hl : l.length ≤ 1000000) (k : Nat) : ak PP GL XX HH NN (k + 20) 6 [A.c (by8 b), A.c (C.slice 7 (List.map Evt.cs l))] [] = some ([Res.c (bo true)], []) := by
  exact rt (aa (gh k) <| aa ff <| aa (ju l 80 (show (80 : Int) ≤ 1000000 from by decide) (k + 16)) <| xa2 g1 <| aa (dN l hl (k + 15)) <| xa2 g1 <| aa (cn g2) <| trivial) (gs := xc (G.call [Res.c (bo true)] []) <| xc gF <| xc (G.call [Res.c (bo (dk l 80))] []) <| xg2 gF <| xc (G.call [Res.c (bo (bN l))] []) <| xg2 gF <| [gT]) rfl
theorem Lll {fut : List Int} {T : Tre} (c : Cl) (hI : Inv fut T c) (hc : c.n0.mints.length + c.n1.mints.length ≤ 100000) (k : Nat) : bz (EE (k + 19)) (HH 6) NN (LB PP 6 8) (Sll c 0) (.exit 0) (fe c (aL c).length) := by
  have hM : (aL c).length ≤ 100000 := by rw [il]; exact hc
  refine dU (E := EE (k + 19)) (fun (_ : Unit) (i : Nat) => Sll c (i : Nat)) (fun _ _ => True) (aL c) (fun a _ => a) () (nv := 1) (nt := 1) (e := .exit 0) (t := fun _ => fe c (aL c).length) rfl (by kernel_rfl) (by kernel_rfl) trivial (fun _ i x hx _ => ⟨?_, trivial⟩) (fun _ => CF c _ k dge) (by unfold NN; omega)
  have hlt := dp hx
  have hw := qJ hx (by omega)
  have hb := uc hI hx
  unfold rg at hb
  rw [Bool.or_eq_false_iff, Bool.or_eq_false_iff] at hb
  obtain ⟨⟨b1, b2⟩, b3⟩ := hb
  by_cases hi : (i : Int) < (c.n0.mints.length : Int)
  · rw [decide_eq_true hi, Bool.true_and, Bool.not_eq_false'] at b1
    have := CD c i x hx hc (decide_eq_true hi) b1 (decide_eq_false (by omega)) b3 k (dlt hx)
    rwa [hw] at this
  · have hi2 : (i : Int) ≥ (c.n0.mints.length : Int) := by omega
    rw [decide_eq_true hi2, Bool.true_and, Bool.not_eq_false'] at b2
    have := BO c i x hx hc (decide_eq_false hi) b2 (decide_eq_true hi2) b3 k (dlt hx)
    rwa [hw] at this
theorem CX (b : Int) (hb : 0 ≤ b) (l : List Evt) (hr : ∀ e ∈ l, R64 e.n) (k : Nat) : ak PP GL XX HH NN (k + 20) 6 [.c (by8 b), .c (.slice 7 (l.map Evt.cs))] [] = some ([.c (bo true)], []) := by
  cases g1 : dk l 80 with
  | true => exact FJ b l g1 k
  | false =>
    cases g2 : bN l with
    | false => exact Fy b l g1 g2 (by have := pp g1; omega) k
    | true =>
      have e1 := pp g1
      have hl : l.length ≤ 1000000 := by omega
      have hm := (oY b hb l).mints
      obtain ⟨T, hI⟩ := v6 (l := l) (r := []) (by rw [List.append_nil]; exact g2) (by rw [List.append_nil]; exact hr) b
      have h := llF b l (eF b l) _ g1 g2 hl (by omega) (by omega) (fun k => qQ b (l.map Evt.cs) _ (fun k => ry b hb l (by omega) (tV g1) k) (k + 1)) (fun k => Lll _ hI (by omega) k) k
      have z0 : ((eF b l).n0.up && decide (dY (eF b l) 7 (eF b l).n0.store.super.v.cur < 0)) = false := by
        cases hu : (eF b l).n0.up with
        | false => rfl
        | true => exact nO hI hI.1.na hu
      have z1 : ((eF b l).n1.up && decide (dY (eF b l) 7 (eF b l).n1.store.super.v.cur < 0)) = false := by
        cases hu : (eF b l).n1.up with
        | false => rfl
        | true => exact nO hI hI.1.nb hu
      rw [z0, z1] at h
      exact h
end Go.Dm
