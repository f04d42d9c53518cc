/-
  A part of the proofs over this seat: its functions, one by one (the file in which the theorems stand says what is proved).
-/
import Derived.KernelRfl
import Derived.Test.YtnilacbgecakcaaGreatFvL1
set_option maxRecDepth 100000
set_option maxHeartbeats 0
set_option linter.unusedSimpArgs false
set_option linter.unusedVariables false
namespace Go.Dm
open Go
open Go.IntKind (wrap)
theorem qk(m:Mm)(c:Cl)(d:Cl)(e:bg)(l:List Ou)(p:Int)(hl:l.length<=1000000)(k:Nat):EO (k+5) 45 [A.imp 0,A.c (ii p)] [(Sp.mk m c d e l).cs]=some ([au.c (bo (dC l p))],[(Sp.mk m c d e l).cs]):=by
 exact kS (ec (Tj l p hl k)<|e0) (rs:=[au.c (bo (dC l p))]) (cy:=[(m.cs++(lL c d e l))]) rfl
theorem Xx(m:Mm)(c:Cl)(d:Cl)(e:bg)(l:List Ou)(k:Nat):EO (k+1) 19 [A.imp 0] [(Sp.mk m c d e l).cs]=some ([],[(Sp.mk (bW m c) c d e l).cs]):=by
 rcases be (c.n0.ag==1) with z0|z0
 ·rcases be (c.n1.ag==1) with z1|z1
  ·exact kS (eg (G.un)<|et<|cP<|ci z0<|cQ<|cP<|et<|cQ<|ci z1<|cP<|cQ<|ef<|e0) (rs:=[]) (cy:=[([sS m.n0.ay,sL m.n0.begun,sI m.n0.aB,sS m.n1.ay,sL m.n1.begun,sI m.n1.aB,sS m.n1.ay,sL m.n1.begun,sI m.n1.aB,sS m.n0.ay,sL m.n0.begun,sI m.n0.aB,bo m.h0,bo m.h1,bo m.d0,bo m.d1,bo m.w0.on,ii m.w0.id,ii m.w0.block,st m.w0.data,bo m.w1.on,ii m.w1.id,ii m.w1.block,st m.w1.data,ii m.count,ii m.cg]++(lL c d e l))]) (by first|(simp only[bW,z0,z1,vq]<;>rfl)|(simp_all only[bW,vq]<;>rfl))
  ·rcases be (c.n1.ag==4) with z2|z2
   ·exact kS (eg (G.un)<|et<|cP<|ci z0<|cQ<|cP<|et<|cQ<|eb z1<|eb z2<|cP<|cQ<|ef<|e0) (rs:=[]) (cy:=[([sS m.n0.ay,sL m.n0.begun,sI m.n0.aB,sS m.n1.ay,sL m.n1.begun,sI m.n1.aB,sS m.n1.ay,sL m.n1.begun,sI m.n1.aB,sS m.n0.ay,sL m.n0.begun,sI m.n0.aB,bo m.h0,bo m.h1,bo m.d0,bo m.d1,bo m.w0.on,ii m.w0.id,ii m.w0.block,st m.w0.data,bo m.w1.on,ii m.w1.id,ii m.w1.block,st m.w1.data,ii m.count,ii m.cg]++(lL c d e l))]) (by first|(simp only[bW,z0,z1,z2,vq]<;>rfl)|(simp_all only[bW,vq]<;>rfl))
   ·exact kS (eg (G.un)<|et<|cP<|ci z0<|cQ<|cP<|et<|cQ<|eb z1<|eb z2<|ef<|e0) (rs:=[]) (cy:=[([sS m.n0.ay,sL m.n0.begun,sI m.n0.aB,sS m.n1.ay,sL m.n1.begun,sI m.n1.aB,sS m.n1.ay,sL m.n1.begun,sI m.n1.aB,sS m.s1.ay,sL m.s1.begun,sI m.s1.aB,bo m.h0,bo m.h1,bo m.d0,bo m.d1,bo m.w0.on,ii m.w0.id,ii m.w0.block,st m.w0.data,bo m.w1.on,ii m.w1.id,ii m.w1.block,st m.w1.data,ii m.count,ii m.cg]++(lL c d e l))]) (by first|(simp only[bW,z0,z1,z2,vq]<;>rfl)|(simp_all only[bW,vq]<;>rfl))
 ·rcases be (c.n0.ag==4) with z1|z1
  ·rcases be (c.n1.ag==1) with z2|z2
   ·exact kS (eg (G.un)<|et<|cP<|eb z0<|eb z1<|cQ<|cP<|et<|cQ<|ci z2<|cP<|cQ<|ef<|e0) (rs:=[]) (cy:=[([sS m.n0.ay,sL m.n0.begun,sI m.n0.aB,sS m.n1.ay,sL m.n1.begun,sI m.n1.aB,sS m.n1.ay,sL m.n1.begun,sI m.n1.aB,sS m.n0.ay,sL m.n0.begun,sI m.n0.aB,bo m.h0,bo m.h1,bo m.d0,bo m.d1,bo m.w0.on,ii m.w0.id,ii m.w0.block,st m.w0.data,bo m.w1.on,ii m.w1.id,ii m.w1.block,st m.w1.data,ii m.count,ii m.cg]++(lL c d e l))]) (by first|(simp only[bW,z0,z1,z2,vq]<;>rfl)|(simp_all only[bW,vq]<;>rfl))
   ·rcases be (c.n1.ag==4) with z3|z3
    ·exact kS (eg (G.un)<|et<|cP<|eb z0<|eb z1<|cQ<|cP<|et<|cQ<|eb z2<|eb z3<|cP<|cQ<|ef<|e0) (rs:=[]) (cy:=[([sS m.n0.ay,sL m.n0.begun,sI m.n0.aB,sS m.n1.ay,sL m.n1.begun,sI m.n1.aB,sS m.n1.ay,sL m.n1.begun,sI m.n1.aB,sS m.n0.ay,sL m.n0.begun,sI m.n0.aB,bo m.h0,bo m.h1,bo m.d0,bo m.d1,bo m.w0.on,ii m.w0.id,ii m.w0.block,st m.w0.data,bo m.w1.on,ii m.w1.id,ii m.w1.block,st m.w1.data,ii m.count,ii m.cg]++(lL c d e l))]) (by first|(simp only[bW,z0,z1,z2,z3,vq]<;>rfl)|(simp_all only[bW,vq]<;>rfl))
    ·exact kS (eg (G.un)<|et<|cP<|eb z0<|eb z1<|cQ<|cP<|et<|cQ<|eb z2<|eb z3<|ef<|e0) (rs:=[]) (cy:=[([sS m.n0.ay,sL m.n0.begun,sI m.n0.aB,sS m.n1.ay,sL m.n1.begun,sI m.n1.aB,sS m.n1.ay,sL m.n1.begun,sI m.n1.aB,sS m.s1.ay,sL m.s1.begun,sI m.s1.aB,bo m.h0,bo m.h1,bo m.d0,bo m.d1,bo m.w0.on,ii m.w0.id,ii m.w0.block,st m.w0.data,bo m.w1.on,ii m.w1.id,ii m.w1.block,st m.w1.data,ii m.count,ii m.cg]++(lL c d e l))]) (by first|(simp only[bW,z0,z1,z2,z3,vq]<;>rfl)|(simp_all only[bW,vq]<;>rfl))
  ·rcases be (c.n1.ag==1) with z2|z2
   ·exact kS (eg (G.un)<|et<|cP<|eb z0<|eb z1<|et<|cQ<|ci z2<|cP<|cQ<|ef<|e0) (rs:=[]) (cy:=[([sS m.n0.ay,sL m.n0.begun,sI m.n0.aB,sS m.n1.ay,sL m.n1.begun,sI m.n1.aB,sS m.s0.ay,sL m.s0.begun,sI m.s0.aB,sS m.n0.ay,sL m.n0.begun,sI m.n0.aB,bo m.h0,bo m.h1,bo m.d0,bo m.d1,bo m.w0.on,ii m.w0.id,ii m.w0.block,st m.w0.data,bo m.w1.on,ii m.w1.id,ii m.w1.block,st m.w1.data,ii m.count,ii m.cg]++(lL c d e l))]) (by first|(simp only[bW,z0,z1,z2,vq]<;>rfl)|(simp_all only[bW,vq]<;>rfl))
   ·rcases be (c.n1.ag==4) with z3|z3
    ·exact kS (eg (G.un)<|et<|cP<|eb z0<|eb z1<|et<|cQ<|eb z2<|eb z3<|cP<|cQ<|ef<|e0) (rs:=[]) (cy:=[([sS m.n0.ay,sL m.n0.begun,sI m.n0.aB,sS m.n1.ay,sL m.n1.begun,sI m.n1.aB,sS m.s0.ay,sL m.s0.begun,sI m.s0.aB,sS m.n0.ay,sL m.n0.begun,sI m.n0.aB,bo m.h0,bo m.h1,bo m.d0,bo m.d1,bo m.w0.on,ii m.w0.id,ii m.w0.block,st m.w0.data,bo m.w1.on,ii m.w1.id,ii m.w1.block,st m.w1.data,ii m.count,ii m.cg]++(lL c d e l))]) (by first|(simp only[bW,z0,z1,z2,z3,vq]<;>rfl)|(simp_all only[bW,vq]<;>rfl))
    ·exact kS (eg (G.un)<|et<|cP<|eb z0<|eb z1<|et<|cQ<|eb z2<|eb z3<|ef<|e0) (rs:=[]) (cy:=[(m.cs++(lL c d e l))]) (by first|(simp only[bW,z0,z1,z2,z3,vq]<;>rfl)|(simp_all only[bW,vq]<;>rfl))
theorem aal(m:Mm)(c:Cl)(d:Cl)(e:bg)(l:List Ou)(hb:j3 m.n0 e.block=false)(k:Nat):EO (k+2) 46 [A.imp 0,A.c (ii 0)] [(Sp.mk m c d e l).cs]=some ([],[(Sp.mk m c d e l).cs]):=by
 exact kS (cP<|ec (wb m.n0 e.block k)<|en hb<|e0) (rs:=[]) (cy:=[(m.cs++(lL c d e l))]) rfl
theorem aam(m:Mm)(c:Cl)(d:Cl)(e:bg)(l:List Ou)(i:Nat)(y:List ByteArray)(hb:j3 m.n0 e.block=true)(hi:e.block=(↑i:Int))(h1:i<m.n0.ay.length)(h2:i<m.n0.begun.length)(h3:i<m.n0.aB.length)(b1:m.n0.ay.length<=1000000)(b2:m.n0.begun.length<=1000000)(b3:m.n0.aB.length<=1000000)(hy:m.n0.begun[i]?=some y)(b4:y.length<=1000000)(k:Nat):EO (k+2) 46 [A.imp 0,A.c (ii 0)] [(Sp.mk m c d e l).cs]=some ([],[(Sp.mk (({m with n0:=({Mm.n0 m with begun:=List.set m.n0.begun i (y++[e.data])}:Vl)}:Mm)) c d e l).cs]):=by
 exact kS (cP<|ec (wb m.n0 e.block k)<|en hb<|cP<|ep (j6 (f:=eS) (g:=fun(x:ByteArray)=>st x) (fun _=>rfl) m.n0.ay)<|ep (j7 (eS) (l:=m.n0.ay) (show(0:Nat)<m.n0.ay.length from by omega))<|ep (bz (eS) (l:=m.n0.ay) (n:=1073741824) (show m.n0.ay.length<=1073741824 from by omega))<|eg (G.uX (List.map (fun(x:ByteArray)=>V.c (st x)) m.n0.ay))<|ep (j6 (f:=eL) (g:=fun(x:List ByteArray)=>sS x) (fun _=>rfl) m.n0.begun)<|ep (j7 (eL) (l:=m.n0.begun) (show(0:Nat)<m.n0.begun.length from by omega))<|ep (bz (eL) (l:=m.n0.begun) (n:=1073741824) (show m.n0.begun.length<=1073741824 from by omega))<|eg (G.uX (List.map (fun(x:List ByteArray)=>V.c (sS x)) m.n0.begun))<|ep (j6 (f:=eI) (g:=fun(x:Int)=>ii x) (fun _=>rfl) m.n0.aB)<|ep (j7 (eI) (l:=m.n0.aB) (show(0:Nat)<m.n0.aB.length from by omega))<|ep (bz (eI) (l:=m.n0.aB) (n:=1073741824) (show m.n0.aB.length<=1073741824 from by omega))<|eg (G.uX (List.map (fun(x:Int)=>V.c (ii x)) m.n0.aB))<|ep hi<|ep (qB (eL) (l:=m.n0.begun) h2)<|eg (G.TH i)<|ep (P0 (fun(x:List ByteArray)=>V.c (sS x)) m.n0.begun (i) (y) hy)<|eg (G.Kt [V.c (sS y)])<|ec (Xv y b4 k)<|ep (dH (eS) (y) ([e.data]))<|ep (bz (eS) (l:=y++[e.data]) (n:=1073741824) (by simp only[vr];omega))<|ep (eN ((List.map eS y).length))<|eg (G.app (List.map eS (y++[e.data])))<|ep hi<|ep (qB (eL) (l:=m.n0.begun) h2)<|eg (G.TH i)<|ep (ua (fun(x:List ByteArray)=>V.c (sS x)) m.n0.begun (i) (V.c (sS (y++[e.data]))) h2)<|ep (pZ (fun(x:List ByteArray)=>V.c (sS x)) m.n0.begun (i) (y++[e.data]) h2)<|eg (G.Kt (List.map (fun(x:List ByteArray)=>V.c (sS x)) (List.set m.n0.begun i (y++[e.data]))))<|cP<|ep (gH (fun(x:ByteArray)=>st x) m.n0.ay (show List.length (List.map eS m.n0.ay)=m.n0.ay.length from by first|simp|(simp;omega)))<|ep (gH (fun(x:List ByteArray)=>sS x) (List.set m.n0.begun i (y++[e.data])) (show List.length (List.map eL m.n0.begun)=(List.set m.n0.begun i (y++[e.data])).length from by first|simp|(simp;omega)))<|ep (gH (fun(x:Int)=>ii x) m.n0.aB (show List.length (List.map eI m.n0.aB)=m.n0.aB.length from by first|simp|(simp;omega)))<|eg (G.Ie [List.map (fun(x:ByteArray)=>[st x]) m.n0.ay,List.map (fun(x:List ByteArray)=>[sS x]) (List.set m.n0.begun i (y++[e.data])),List.map (fun(x:Int)=>[ii x]) m.n0.aB])<|e0) (rs:=[]) (cy:=[([C.slice 1 (List.map (fun(x:ByteArray)=>[st x]) m.n0.ay),C.slice 1 (List.map (fun(x:List ByteArray)=>[sS x]) (List.set m.n0.begun i (y++[e.data]))),C.slice 1 (List.map (fun(x:Int)=>[ii x]) m.n0.aB),sS m.n1.ay,sL m.n1.begun,sI m.n1.aB,sS m.s0.ay,sL m.s0.begun,sI m.s0.aB,sS m.s1.ay,sL m.s1.begun,sI m.s1.aB,bo m.h0,bo m.h1,bo m.d0,bo m.d1,bo m.w0.on,ii m.w0.id,ii m.w0.block,st m.w0.data,bo m.w1.on,ii m.w1.id,ii m.w1.block,st m.w1.data,ii m.count,ii m.cg]++(lL c d e l))]) rfl
theorem aiy(m:Mm)(c:Cl)(d:Cl)(e:bg)(l:List Ou)(r:Rq)(hb:j3 m.n0 r.block=false)(k:Nat):EO (k+2) 47 [A.imp 0,A.c (ii 0),A.agg r.cs] [(Sp.mk m c d e l).cs]=some ([],[(Sp.mk m c d e l).cs]):=by
 exact kS (cP<|ec (wb m.n0 r.block k)<|en hb<|e0) (rs:=[]) (cy:=[(m.cs++(lL c d e l))]) rfl
theorem aiz(m:Mm)(c:Cl)(d:Cl)(e:bg)(l:List Ou)(r:Rq)(i:Nat)(hb:j3 m.n0 r.block=true)(hi:r.block=(↑i:Int))(h1:i<m.n0.ay.length)(h2:i<m.n0.begun.length)(h3:i<m.n0.aB.length)(b1:m.n0.ay.length<=1000000)(b2:m.n0.begun.length<=1000000)(b3:m.n0.aB.length<=1000000)(k:Nat):EO (k+2) 47 [A.imp 0,A.c (ii 0),A.agg r.cs] [(Sp.mk m c d e l).cs]=some ([],[(Sp.mk (({m with n0:=(Vl.mk (List.set m.n0.ay i r.data) (List.set m.n0.begun i []) (List.set m.n0.aB i m.count))}:Mm)) c d e l).cs]):=by
 exact kS (cP<|ec (wb m.n0 r.block k)<|en hb<|cP<|ep (j6 (f:=eS) (g:=fun(x:ByteArray)=>st x) (fun _=>rfl) m.n0.ay)<|ep (j7 (eS) (l:=m.n0.ay) (show(0:Nat)<m.n0.ay.length from by omega))<|ep (bz (eS) (l:=m.n0.ay) (n:=1073741824) (show m.n0.ay.length<=1073741824 from by omega))<|eg (G.uX (List.map (fun(x:ByteArray)=>V.c (st x)) m.n0.ay))<|ep (j6 (f:=eL) (g:=fun(x:List ByteArray)=>sS x) (fun _=>rfl) m.n0.begun)<|ep (j7 (eL) (l:=m.n0.begun) (show(0:Nat)<m.n0.begun.length from by omega))<|ep (bz (eL) (l:=m.n0.begun) (n:=1073741824) (show m.n0.begun.length<=1073741824 from by omega))<|eg (G.uX (List.map (fun(x:List ByteArray)=>V.c (sS x)) m.n0.begun))<|ep (j6 (f:=eI) (g:=fun(x:Int)=>ii x) (fun _=>rfl) m.n0.aB)<|ep (j7 (eI) (l:=m.n0.aB) (show(0:Nat)<m.n0.aB.length from by omega))<|ep (bz (eI) (l:=m.n0.aB) (n:=1073741824) (show m.n0.aB.length<=1073741824 from by omega))<|eg (G.uX (List.map (fun(x:Int)=>V.c (ii x)) m.n0.aB))<|ep hi<|ep (qB (eS) (l:=m.n0.ay) h1)<|eg (G.TH i)<|ep (ua (fun(x:ByteArray)=>V.c (st x)) m.n0.ay (i) (V.c (st r.data)) h1)<|ep (pZ (fun(x:ByteArray)=>V.c (st x)) m.n0.ay (i) r.data h1)<|eg (G.Kt (List.map (fun(x:ByteArray)=>V.c (st x)) (List.set m.n0.ay i r.data)))<|ep hi<|ep (qB (eL) (l:=m.n0.begun) h2)<|eg (G.TH i)<|ep (ua (fun(x:List ByteArray)=>V.c (sS x)) m.n0.begun (i) (V.c (C.slice 1 [])) h2)<|ep (pZ (fun(x:List ByteArray)=>V.c (sS x)) m.n0.begun (i) ([]) h2)<|eg (G.Kt (List.map (fun(x:List ByteArray)=>V.c (sS x)) (List.set m.n0.begun i [])))<|ep hi<|ep (qB (eI) (l:=m.n0.aB) h3)<|eg (G.TH i)<|ep (ua (fun(x:Int)=>V.c (ii x)) m.n0.aB (i) (V.c (ii m.count)) h3)<|ep (pZ (fun(x:Int)=>V.c (ii x)) m.n0.aB (i) m.count h3)<|eg (G.Kt (List.map (fun(x:Int)=>V.c (ii x)) (List.set m.n0.aB i m.count)))<|cP<|ep (gH (fun(x:ByteArray)=>st x) (List.set m.n0.ay i r.data) (show List.length (List.map eS m.n0.ay)=(List.set m.n0.ay i r.data).length from by first|simp|(simp;omega)))<|ep (gH (fun(x:List ByteArray)=>sS x) (List.set m.n0.begun i []) (show List.length (List.map eL m.n0.begun)=(List.set m.n0.begun i []).length from by first|simp|(simp;omega)))<|ep (gH (fun(x:Int)=>ii x) (List.set m.n0.aB i m.count) (show List.length (List.map eI m.n0.aB)=(List.set m.n0.aB i m.count).length from by first|simp|(simp;omega)))<|eg (G.Ie [List.map (fun(x:ByteArray)=>[st x]) (List.set m.n0.ay i r.data),List.map (fun(x:List ByteArray)=>[sS x]) (List.set m.n0.begun i []),List.map (fun(x:Int)=>[ii x]) (List.set m.n0.aB i m.count)])<|e0) (rs:=[]) (cy:=[([C.slice 1 (List.map (fun(x:ByteArray)=>[st x]) (List.set m.n0.ay i r.data)),C.slice 1 (List.map (fun(x:List ByteArray)=>[sS x]) (List.set m.n0.begun i [])),C.slice 1 (List.map (fun(x:Int)=>[ii x]) (List.set m.n0.aB i m.count)),sS m.n1.ay,sL m.n1.begun,sI m.n1.aB,sS m.s0.ay,sL m.s0.begun,sI m.s0.aB,sS m.s1.ay,sL m.s1.begun,sI m.s1.aB,bo m.h0,bo m.h1,bo m.d0,bo m.d1,bo m.w0.on,ii m.w0.id,ii m.w0.block,st m.w0.data,bo m.w1.on,ii m.w1.id,ii m.w1.block,st m.w1.data,ii m.count,ii m.cg]++(lL c d e l))]) rfl
theorem aan(m:Mm)(c:Cl)(d:Cl)(e:bg)(l:List Ou)(hb:j3 m.n1 e.block=false)(k:Nat):EO (k+2) 46 [A.imp 0,A.c (ii 1)] [(Sp.mk m c d e l).cs]=some ([],[(Sp.mk m c d e l).cs]):=by
 exact kS (cQ<|ec (wb m.n1 e.block k)<|en hb<|e0) (rs:=[]) (cy:=[(m.cs++(lL c d e l))]) rfl
theorem aao(m:Mm)(c:Cl)(d:Cl)(e:bg)(l:List Ou)(i:Nat)(y:List ByteArray)(hb:j3 m.n1 e.block=true)(hi:e.block=(↑i:Int))(h1:i<m.n1.ay.length)(h2:i<m.n1.begun.length)(h3:i<m.n1.aB.length)(b1:m.n1.ay.length<=1000000)(b2:m.n1.begun.length<=1000000)(b3:m.n1.aB.length<=1000000)(hy:m.n1.begun[i]?=some y)(b4:y.length<=1000000)(k:Nat):EO (k+2) 46 [A.imp 0,A.c (ii 1)] [(Sp.mk m c d e l).cs]=some ([],[(Sp.mk (({m with n1:=({Mm.n1 m with begun:=List.set m.n1.begun i (y++[e.data])}:Vl)}:Mm)) c d e l).cs]):=by
 exact kS (cQ<|ec (wb m.n1 e.block k)<|en hb<|cQ<|ep (j6 (f:=eS) (g:=fun(x:ByteArray)=>st x) (fun _=>rfl) m.n1.ay)<|ep (j7 (eS) (l:=m.n1.ay) (show(0:Nat)<m.n1.ay.length from by omega))<|ep (bz (eS) (l:=m.n1.ay) (n:=1073741824) (show m.n1.ay.length<=1073741824 from by omega))<|eg (G.uX (List.map (fun(x:ByteArray)=>V.c (st x)) m.n1.ay))<|ep (j6 (f:=eL) (g:=fun(x:List ByteArray)=>sS x) (fun _=>rfl) m.n1.begun)<|ep (j7 (eL) (l:=m.n1.begun) (show(0:Nat)<m.n1.begun.length from by omega))<|ep (bz (eL) (l:=m.n1.begun) (n:=1073741824) (show m.n1.begun.length<=1073741824 from by omega))<|eg (G.uX (List.map (fun(x:List ByteArray)=>V.c (sS x)) m.n1.begun))<|ep (j6 (f:=eI) (g:=fun(x:Int)=>ii x) (fun _=>rfl) m.n1.aB)<|ep (j7 (eI) (l:=m.n1.aB) (show(0:Nat)<m.n1.aB.length from by omega))<|ep (bz (eI) (l:=m.n1.aB) (n:=1073741824) (show m.n1.aB.length<=1073741824 from by omega))<|eg (G.uX (List.map (fun(x:Int)=>V.c (ii x)) m.n1.aB))<|ep hi<|ep (qB (eL) (l:=m.n1.begun) h2)<|eg (G.TH i)<|ep (P0 (fun(x:List ByteArray)=>V.c (sS x)) m.n1.begun (i) (y) hy)<|eg (G.Kt [V.c (sS y)])<|ec (Xv y b4 k)<|ep (dH (eS) (y) ([e.data]))<|ep (bz (eS) (l:=y++[e.data]) (n:=1073741824) (by simp only[vr];omega))<|ep (eN ((List.map eS y).length))<|eg (G.app (List.map eS (y++[e.data])))<|ep hi<|ep (qB (eL) (l:=m.n1.begun) h2)<|eg (G.TH i)<|ep (ua (fun(x:List ByteArray)=>V.c (sS x)) m.n1.begun (i) (V.c (sS (y++[e.data]))) h2)<|ep (pZ (fun(x:List ByteArray)=>V.c (sS x)) m.n1.begun (i) (y++[e.data]) h2)<|eg (G.Kt (List.map (fun(x:List ByteArray)=>V.c (sS x)) (List.set m.n1.begun i (y++[e.data]))))<|cQ<|ep (gH (fun(x:ByteArray)=>st x) m.n1.ay (show List.length (List.map eS m.n1.ay)=m.n1.ay.length from by first|simp|(simp;omega)))<|ep (gH (fun(x:List ByteArray)=>sS x) (List.set m.n1.begun i (y++[e.data])) (show List.length (List.map eL m.n1.begun)=(List.set m.n1.begun i (y++[e.data])).length from by first|simp|(simp;omega)))<|ep (gH (fun(x:Int)=>ii x) m.n1.aB (show List.length (List.map eI m.n1.aB)=m.n1.aB.length from by first|simp|(simp;omega)))<|eg (G.Ie [List.map (fun(x:ByteArray)=>[st x]) m.n1.ay,List.map (fun(x:List ByteArray)=>[sS x]) (List.set m.n1.begun i (y++[e.data])),List.map (fun(x:Int)=>[ii x]) m.n1.aB])<|e0) (rs:=[]) (cy:=[([sS m.n0.ay,sL m.n0.begun,sI m.n0.aB,C.slice 1 (List.map (fun(x:ByteArray)=>[st x]) m.n1.ay),C.slice 1 (List.map (fun(x:List ByteArray)=>[sS x]) (List.set m.n1.begun i (y++[e.data]))),C.slice 1 (List.map (fun(x:Int)=>[ii x]) m.n1.aB),sS m.s0.ay,sL m.s0.begun,sI m.s0.aB,sS m.s1.ay,sL m.s1.begun,sI m.s1.aB,bo m.h0,bo m.h1,bo m.d0,bo m.d1,bo m.w0.on,ii m.w0.id,ii m.w0.block,st m.w0.data,bo m.w1.on,ii m.w1.id,ii m.w1.block,st m.w1.data,ii m.count,ii m.cg]++(lL c d e l))]) rfl
theorem aiA(m:Mm)(c:Cl)(d:Cl)(e:bg)(l:List Ou)(r:Rq)(hb:j3 m.n1 r.block=false)(k:Nat):EO (k+2) 47 [A.imp 0,A.c (ii 1),A.agg r.cs] [(Sp.mk m c d e l).cs]=some ([],[(Sp.mk m c d e l).cs]):=by
 exact kS (cQ<|ec (wb m.n1 r.block k)<|en hb<|e0) (rs:=[]) (cy:=[(m.cs++(lL c d e l))]) rfl
theorem aiB(m:Mm)(c:Cl)(d:Cl)(e:bg)(l:List Ou)(r:Rq)(i:Nat)(hb:j3 m.n1 r.block=true)(hi:r.block=(↑i:Int))(h1:i<m.n1.ay.length)(h2:i<m.n1.begun.length)(h3:i<m.n1.aB.length)(b1:m.n1.ay.length<=1000000)(b2:m.n1.begun.length<=1000000)(b3:m.n1.aB.length<=1000000)(k:Nat):EO (k+2) 47 [A.imp 0,A.c (ii 1),A.agg r.cs] [(Sp.mk m c d e l).cs]=some ([],[(Sp.mk (({m with n1:=(Vl.mk (List.set m.n1.ay i r.data) (List.set m.n1.begun i []) (List.set m.n1.aB i m.count))}:Mm)) c d e l).cs]):=by
 exact kS (cQ<|ec (wb m.n1 r.block k)<|en hb<|cQ<|ep (j6 (f:=eS) (g:=fun(x:ByteArray)=>st x) (fun _=>rfl) m.n1.ay)<|ep (j7 (eS) (l:=m.n1.ay) (show(0:Nat)<m.n1.ay.length from by omega))<|ep (bz (eS) (l:=m.n1.ay) (n:=1073741824) (show m.n1.ay.length<=1073741824 from by omega))<|eg (G.uX (List.map (fun(x:ByteArray)=>V.c (st x)) m.n1.ay))<|ep (j6 (f:=eL) (g:=fun(x:List ByteArray)=>sS x) (fun _=>rfl) m.n1.begun)<|ep (j7 (eL) (l:=m.n1.begun) (show(0:Nat)<m.n1.begun.length from by omega))<|ep (bz (eL) (l:=m.n1.begun) (n:=1073741824) (show m.n1.begun.length<=1073741824 from by omega))<|eg (G.uX (List.map (fun(x:List ByteArray)=>V.c (sS x)) m.n1.begun))<|ep (j6 (f:=eI) (g:=fun(x:Int)=>ii x) (fun _=>rfl) m.n1.aB)<|ep (j7 (eI) (l:=m.n1.aB) (show(0:Nat)<m.n1.aB.length from by omega))<|ep (bz (eI) (l:=m.n1.aB) (n:=1073741824) (show m.n1.aB.length<=1073741824 from by omega))<|eg (G.uX (List.map (fun(x:Int)=>V.c (ii x)) m.n1.aB))<|ep hi<|ep (qB (eS) (l:=m.n1.ay) h1)<|eg (G.TH i)<|ep (ua (fun(x:ByteArray)=>V.c (st x)) m.n1.ay (i) (V.c (st r.data)) h1)<|ep (pZ (fun(x:ByteArray)=>V.c (st x)) m.n1.ay (i) r.data h1)<|eg (G.Kt (List.map (fun(x:ByteArray)=>V.c (st x)) (List.set m.n1.ay i r.data)))<|ep hi<|ep (qB (eL) (l:=m.n1.begun) h2)<|eg (G.TH i)<|ep (ua (fun(x:List ByteArray)=>V.c (sS x)) m.n1.begun (i) (V.c (C.slice 1 [])) h2)<|ep (pZ (fun(x:List ByteArray)=>V.c (sS x)) m.n1.begun (i) ([]) h2)<|eg (G.Kt (List.map (fun(x:List ByteArray)=>V.c (sS x)) (List.set m.n1.begun i [])))<|ep hi<|ep (qB (eI) (l:=m.n1.aB) h3)<|eg (G.TH i)<|ep (ua (fun(x:Int)=>V.c (ii x)) m.n1.aB (i) (V.c (ii m.count)) h3)<|ep (pZ (fun(x:Int)=>V.c (ii x)) m.n1.aB (i) m.count h3)<|eg (G.Kt (List.map (fun(x:Int)=>V.c (ii x)) (List.set m.n1.aB i m.count)))<|cQ<|ep (gH (fun(x:ByteArray)=>st x) (List.set m.n1.ay i r.data) (show List.length (List.map eS m.n1.ay)=(List.set m.n1.ay i r.data).length from by first|simp|(simp;omega)))<|ep (gH (fun(x:List ByteArray)=>sS x) (List.set m.n1.begun i []) (show List.length (List.map eL m.n1.begun)=(List.set m.n1.begun i []).length from by first|simp|(simp;omega)))<|ep (gH (fun(x:Int)=>ii x) (List.set m.n1.aB i m.count) (show List.length (List.map eI m.n1.aB)=(List.set m.n1.aB i m.count).length from by first|simp|(simp;omega)))<|eg (G.Ie [List.map (fun(x:ByteArray)=>[st x]) (List.set m.n1.ay i r.data),List.map (fun(x:List ByteArray)=>[sS x]) (List.set m.n1.begun i []),List.map (fun(x:Int)=>[ii x]) (List.set m.n1.aB i m.count)])<|e0) (rs:=[]) (cy:=[([sS m.n0.ay,sL m.n0.begun,sI m.n0.aB,C.slice 1 (List.map (fun(x:ByteArray)=>[st x]) (List.set m.n1.ay i r.data)),C.slice 1 (List.map (fun(x:List ByteArray)=>[sS x]) (List.set m.n1.begun i [])),C.slice 1 (List.map (fun(x:Int)=>[ii x]) (List.set m.n1.aB i m.count)),sS m.s0.ay,sL m.s0.begun,sI m.s0.aB,sS m.s1.ay,sL m.s1.begun,sI m.s1.aB,bo m.h0,bo m.h1,bo m.d0,bo m.d1,bo m.w0.on,ii m.w0.id,ii m.w0.block,st m.w0.data,bo m.w1.on,ii m.w1.id,ii m.w1.block,st m.w1.data,ii m.count,ii m.cg]++(lL c d e l))]) rfl
def pLa(v s:Vl)(i:Nat):Bool:=decide ((i:Int)<(s.aB.length:Int))&&decide (v.aB.getD i 0>s.aB.getD i 0)
theorem Ap(v s:Vl):(List.range v.aB.length).any (pLa v s)=lN v s:=by
 unfold lN
 rw[xy]
 simp only[List.any_eq_true,tC]
 constructor
 ·rintro⟨i,hi,hp⟩
  unfold pLa at hp
  rw[cY] at hp
  have h1:=jG hp.1
  have h2:i<s.aB.length:=by omega
  refine⟨(v.aB[i],s.aB[i]),?_,?_⟩
  ·rw[List.mem_iff_getElem?]
   exact⟨i,by rw[H4];exact⟨cm hi,cm h2⟩⟩
  ·have:=hp.2
   rw[eX,eX,cm hi,cm h2] at this
   exact this
 ·rintro⟨⟨a,b⟩,hm,hd⟩
  obtain⟨i,hi⟩:=List.mem_iff_getElem?.1 hm
  rw[H4] at hi
  obtain⟨h1,h2⟩:=hi
  have l1:=gJ h1
  have l2:=gJ h2
  refine⟨i,l1,?_⟩
  unfold pLa
  rw[cY]
  refine⟨cJ (by omega),?_⟩
  rw[eX,eX,h1,h2]
  exact hd
def J4(m:Mm)(c:Cl)(d:Cl)(e:bg)(l:List Ou)(c0:Int):St:=St.mk (T.k (K.v (V.fX 0 0))::tc (ii 0)::hs 12 (tc (sI m.n0.aB)::tc (ii (↑(m.n0.aB.length):Int))::tc (ii c0)::hs 31 [])) [(List.map V.c m.cs++(List.map V.c c.cs++(List.map V.c d.cs++(List.map V.c e.cs++[V.c (sO l)]))))] []
def C6(m:Mm)(c:Cl)(d:Cl)(e:bg)(l:List Ou)(i:Nat)(x:Int)(y:Int):St:=St.mk (T.k (K.v (V.fX 0 0))::tc (ii 0)::T.bf::T.bf::tc (bo true)::tc (ii (↑i:Int))::tc (ii x)::hs 7 [tc (sI m.n0.aB),tc (ii (↑(m.n0.aB.length):Int)),tc (ii (↑i:Int)),tc (bo (gL i m.n0.aB.length)),tc (ii (↑i:Int)),tc (C.fJ [ii x]),tc (ii x),tc (ii (↑i:Int)),T.k (K.v (V.fX 0 0)),tc (ii 0),T.k (K.v (V.fX 0 0)),T.k (K.v (V.fX 0 0)),T.k (K.v (V.fX 0 6)),T.k (K.v (V.fX 0 6)),T.k (K.v (V.fX 0 8)),tc (sI m.s0.aB),tc (ii (↑(m.s0.aB.length):Int)),tc (bo (gL i m.s0.aB.length)),tc (bo (gL i m.s0.aB.length)),tc (ii x),T.k (K.v (V.fX 0 0)),tc (ii 0),T.k (K.v (V.fX 0 0)),T.k (K.v (V.fX 0 0)),T.k (K.v (V.fX 0 6)),T.k (K.v (V.fX 0 6)),T.k (K.v (V.fX 0 8)),tc (sI m.s0.aB),tc (ii (↑i:Int)),tc (C.fJ [ii y]),tc (ii y),tc (bo (decide (x>y))),tc (bo (decide (x>y))),T.bf]) [(List.map V.c m.cs++(List.map V.c c.cs++(List.map V.c d.cs++(List.map V.c e.cs++[V.c (sO l)]))))] []
theorem aeo(m:Mm)(c:Cl)(d:Cl)(e:bg)(l:List Ou)(i:Nat)(x:Int)(y:Int)(hx:m.n0.aB[i]?=some x)(hy:m.s0.aB[i]?=some y)(k:Nat)(z0:(gL i m.n0.aB.length)=true)(z1:(gL i m.s0.aB.length)=true)(z2:(decide (x>y))=true):dq (EE (k+1)) (HH 48) NN (LB PP 48 2) (J4 m c d e l (↑i:Int)) (dJ.ret) (C6 m c d e l i x y):=
 ou (eb z0<|ep (rz i)<|ep (aT (f:=eI) hx)<|eg (G.fF i [ii x])<|cP<|ep (aG (eI) m.s0.aB)<|eg (G.len m.s0.aB.length)<|hO z1<|eb z1<|cP<|eo z1<|ep (rz i)<|ep (aT (f:=eI) hy)<|eg (G.fF i [ii y])<|dO z1<|eb z2<|e0)
theorem aep(m:Mm)(c:Cl)(d:Cl)(e:bg)(l:List Ou)(i:Nat)(x:Int)(y:Int)(hx:m.n0.aB[i]?=some x)(hy:m.s0.aB[i]?=some y)(k:Nat)(z0:(gL i m.n0.aB.length)=true)(z1:(gL i m.s0.aB.length)=true)(z2:(decide (x>y))=false):bQ (EE (k+1)) (HH 48) NN (LB PP 48 2) 1 0 (J4 m c d e l (↑i:Int)) (J4 m c d e l (wrap .i64 ((↑i:Int)+1))):=
 nx (eb z0<|ep (rz i)<|ep (aT (f:=eI) hx)<|eg (G.fF i [ii x])<|cP<|ep (aG (eI) m.s0.aB)<|eg (G.len m.s0.aB.length)<|hO z1<|eb z1<|cP<|eo z1<|ep (rz i)<|ep (aT (f:=eI) hy)<|eg (G.fF i [ii y])<|dO z1<|eb z2<|e0)
theorem aeq(m:Mm)(c:Cl)(d:Cl)(e:bg)(l:List Ou)(i:Nat)(x:Int)(hx:m.n0.aB[i]?=some x)(k:Nat)(z0:(gL i m.n0.aB.length)=true)(z1:(gL i m.s0.aB.length)=false):bQ (EE (k+1)) (HH 48) NN (LB PP 48 2) 1 0 (J4 m c d e l (↑i:Int)) (J4 m c d e l (wrap .i64 ((↑i:Int)+1))):=
 nx (eb z0<|ep (rz i)<|ep (aT (f:=eI) hx)<|eg (G.fF i [ii x])<|cP<|ep (aG (eI) m.s0.aB)<|eg (G.len m.s0.aB.length)<|hO z1<|hO z1<|ci z1<|ef<|e0)
def C7(m:Mm)(c:Cl)(d:Cl)(e:bg)(l:List Ou)(i:Nat):St:=St.mk (T.k (K.v (V.fX 0 0))::tc (ii 0)::hs 12 (tc (sI m.n0.aB)::tc (ii (↑(m.n0.aB.length):Int))::tc (ii (↑i:Int))::tc (bo (gL i m.n0.aB.length))::hs 30 [])) [(List.map V.c m.cs++(List.map V.c c.cs++(List.map V.c d.cs++(List.map V.c e.cs++[V.c (sO l)]))))] []
theorem aer(m:Mm)(c:Cl)(d:Cl)(e:bg)(l:List Ou)(i:Nat)(k:Nat)(z0:(gL i m.n0.aB.length)=false):dq (EE (k+1)) (HH 48) NN (LB PP 48 2) (J4 m c d e l (↑i:Int)) (dJ.exit 0) (C7 m c d e l i):=
 ou (eb z0<|e0)
theorem amn(m:Mm)(c:Cl)(d:Cl)(e:bg)(l:List Ou)(i:Nat)(x:Int)(y:Int)(hL:∀k,bT (EE (k+1)) (HH 48) NN (LB PP 48 2) (J4 m c d e l 0) dJ.ret (C6 m c d e l i x y))(k:Nat):EO (k+2) 48 [A.imp 0,A.c (ii 0)] [(Sp.mk m c d e l).cs]=some ([au.c (bo true)],[(Sp.mk m c d e l).cs]):=by
 exact kS (cP<|ep (aG (eI) m.n0.aB)<|eg (G.len m.n0.aB.length)<|eg (G.loop dJ.ret (C6 m c d e l i x y))<|ep (hL k)<|e0) (rs:=[au.c (bo true)]) (cy:=[(m.cs++(lL c d e l))]) rfl
theorem amo(m:Mm)(c:Cl)(d:Cl)(e:bg)(l:List Ou)(i:Nat)(hL:∀k,bT (EE (k+1)) (HH 48) NN (LB PP 48 2) (J4 m c d e l 0) (dJ.exit 0) (C7 m c d e l i))(k:Nat):EO (k+2) 48 [A.imp 0,A.c (ii 0)] [(Sp.mk m c d e l).cs]=some ([au.c (bo false)],[(Sp.mk m c d e l).cs]):=by
 exact kS (cP<|ep (aG (eI) m.n0.aB)<|eg (G.len m.n0.aB.length)<|eg (G.loop (dJ.exit 0) (C7 m c d e l i))<|ep (hL k)<|e0) (rs:=[au.c (bo false)]) (cy:=[(m.cs++(lL c d e l))]) rfl
theorem Xy(m:Mm)(c d:Cl)(e:bg)(l:List Ou)(hb:m.n0.aB.length<=1000000)(k:Nat):EO (k+2) 48 [.imp 0, .c (ii 0)] [Sp.cs ⟨m,c,d,e,l⟩]=some ([.c (bo (lN m.n0 m.s0))],[Sp.cs ⟨m,c,d,e,l⟩]):=by
 rw[<-Ap]
 have sJ:∀(j q:Nat),(List.range m.n0.aB.length)[j]?=some q->q=j/\j<m.n0.aB.length:=fun j q h=>oE h
 rcases pA (E:=fun k=>EE (k+1)) (H:=HH 48) (n:=NN) (b:=LB PP 48 2) (fun j=>J4 m c d e l (j:Nat)) (List.range m.n0.aB.length) (pLa m.n0 m.s0) (fun j q=>C6 m c d e l j (m.n0.aB.getD j 0) (m.s0.aB.getD j 0)) (C7 m c d e l m.n0.aB.length) (nv:=1) (nt:=0) (e:= .ret) (e':= .exit 0) (by kernel_rfl) (by kernel_rfl)
  (fun k j q hq hp=>by
    obtain⟨rfl,hj⟩:=sJ j q hq
    have hx:m.n0.aB[q]?=some (m.n0.aB.getD q 0):=by rw[eX,cm hj];rfl
    cases hd:decide ((q:Int)<(m.s0.aB.length:Int)) with
    |false=>
     have:=aeq m c d e l q _ hx k (sM hx) hd
     rwa[p6 hx (by omega)] at this
    |true=>
     have h2:q<m.s0.aB.length:=by have:=jG hd;omega
     have hy:m.s0.aB[q]?=some (m.s0.aB.getD q 0):=by rw[eX,cm h2];rfl
     unfold pLa at hp
     rw[hd,i6] at hp
     have:=aep m c d e l q _ _ hx hy k (sM hx) hd hp
     rwa[p6 hx (by omega)] at this)
  (fun k j q hq hp=>by
    obtain⟨rfl,hj⟩:=sJ j q hq
    have hx:m.n0.aB[q]?=some (m.n0.aB.getD q 0):=by rw[eX,cm hj];rfl
    unfold pLa at hp
    rw[cY] at hp
    have h2:q<m.s0.aB.length:=by have:=jG hp.1;omega
    have hy:m.s0.aB[q]?=some (m.s0.aB.getD q 0):=by rw[eX,cm h2];rfl
    exact aeo m c d e l q _ _ hx hy k (sM hx) hp.1 hp.2)
  (fun k=>by rw[iM];exact aer m c d e l _ k Gf) (by rw[iM];unfold NN;omega) with⟨h1,h2⟩|⟨h1,j,q,hy,hp,hf,_,h2⟩
 ·rw[h1];exact amo m c d e l _ h2 k
 ·rw[h1];exact amn m c d e l j _ _ h2 k
theorem Xz(m:Mm)(c:Cl)(d:Cl)(e:bg)(l:List Ou)(b:Su)(hb:m.n0.aB.length<=1000000)(k:Nat):EO (k+3) 22 [A.imp 0,A.c (ii 0),A.agg b.cs] [(Sp.mk m c d e l).cs]=some ([],[(Sp.mk (jU m b) c d e l).cs]):=by
 rcases be b.bp with z0|z0
 ·exact kS (eb z0<|cP<|cP<|e0) (rs:=[]) (cy:=[([sS m.n0.ay,sL m.n0.begun,sI m.n0.aB,sS m.n1.ay,sL m.n1.begun,sI m.n1.aB,sS m.s0.ay,sL m.s0.begun,sI m.s0.aB,sS m.s1.ay,sL m.s1.begun,sI m.s1.aB,bo true,bo m.h1,bo b.dg,bo m.d1,bo m.w0.on,ii m.w0.id,ii m.w0.block,st m.w0.data,bo m.w1.on,ii m.w1.id,ii m.w1.block,st m.w1.data,ii m.count,ii m.cg]++(lL c d e l))]) (by first|(simp only[jU,z0,vq]<;>rfl)|(simp_all only[jU,vq]<;>rfl))
 ·rcases be m.h0 with z1|z1
  ·rcases be m.d0 with z2|z2
   ·exact kS (eb z0<|cP<|eb z1<|cP<|eA z2<|ef<|cP<|cP<|cP<|cP<|e0) (rs:=[]) (cy:=[([sS m.s0.ay,sL m.s0.begun,sI m.s0.aB,sS m.n1.ay,sL m.n1.begun,sI m.n1.aB,sS m.s0.ay,sL m.s0.begun,sI m.s0.aB,sS m.s1.ay,sL m.s1.begun,sI m.s1.aB,bo false,bo m.h1,bo b.dg,bo m.d1,bo m.w0.on,ii m.w0.id,ii m.w0.block,st m.w0.data,bo m.w1.on,ii m.w1.id,ii m.w1.block,st m.w1.data,ii m.count,ii m.cg]++(lL c d e l))]) (by first|(simp only[jU,z0,z1,z2,vq]<;>rfl)|(simp_all only[jU,vq]<;>rfl))
   ·rcases be (lN m.n0 m.s0) with z3|z3
    ·exact kS (eb z0<|cP<|eb z1<|cP<|ez z2<|ec (Xy m c d e l hb k)<|en z2<|eb z3<|cP<|cP<|cP<|cP<|e0) (rs:=[]) (cy:=[([sS m.s0.ay,sL m.s0.begun,sI m.s0.aB,sS m.n1.ay,sL m.n1.begun,sI m.n1.aB,sS m.s0.ay,sL m.s0.begun,sI m.s0.aB,sS m.s1.ay,sL m.s1.begun,sI m.s1.aB,bo false,bo m.h1,bo b.dg,bo m.d1,bo m.w0.on,ii m.w0.id,ii m.w0.block,st m.w0.data,bo m.w1.on,ii m.w1.id,ii m.w1.block,st m.w1.data,ii m.count,ii (wrap .i64 (m.cg+1))]++(lL c d e l))]) (by first|(simp only[jU,z0,z1,z2,z3,vq]<;>rfl)|(simp_all only[jU,vq]<;>rfl))
    ·exact kS (eb z0<|cP<|eb z1<|cP<|ez z2<|ec (Xy m c d e l hb k)<|en z2<|eb z3<|cP<|cP<|cP<|cP<|e0) (rs:=[]) (cy:=[([sS m.s0.ay,sL m.s0.begun,sI m.s0.aB,sS m.n1.ay,sL m.n1.begun,sI m.n1.aB,sS m.s0.ay,sL m.s0.begun,sI m.s0.aB,sS m.s1.ay,sL m.s1.begun,sI m.s1.aB,bo false,bo m.h1,bo b.dg,bo m.d1,bo m.w0.on,ii m.w0.id,ii m.w0.block,st m.w0.data,bo m.w1.on,ii m.w1.id,ii m.w1.block,st m.w1.data,ii m.count,ii m.cg]++(lL c d e l))]) (by first|(simp only[jU,z0,z1,z2,z3,vq]<;>rfl)|(simp_all only[jU,vq]<;>rfl))
  ·exact kS (eb z0<|cP<|eb z1<|cP<|e0) (rs:=[]) (cy:=[([sS m.n0.ay,sL m.n0.begun,sI m.n0.aB,sS m.n1.ay,sL m.n1.begun,sI m.n1.aB,sS m.s0.ay,sL m.s0.begun,sI m.s0.aB,sS m.s1.ay,sL m.s1.begun,sI m.s1.aB,bo m.h0,bo m.h1,bo b.dg,bo m.d1,bo m.w0.on,ii m.w0.id,ii m.w0.block,st m.w0.data,bo m.w1.on,ii m.w1.id,ii m.w1.block,st m.w1.data,ii m.count,ii m.cg]++(lL c d e l))]) (by first|(simp only[jU,z0,z1,vq]<;>rfl)|(simp_all only[jU,vq]<;>rfl))
def J5(m:Mm)(c:Cl)(d:Cl)(e:bg)(l:List Ou)(c0:Int):St:=St.mk (T.k (K.v (V.fX 0 0))::tc (ii 1)::hs 12 (tc (sI m.n1.aB)::tc (ii (↑(m.n1.aB.length):Int))::tc (ii c0)::hs 31 [])) [(List.map V.c m.cs++(List.map V.c c.cs++(List.map V.c d.cs++(List.map V.c e.cs++[V.c (sO l)]))))] []
def C8(m:Mm)(c:Cl)(d:Cl)(e:bg)(l:List Ou)(i:Nat)(x:Int)(y:Int):St:=St.mk (T.k (K.v (V.fX 0 0))::tc (ii 1)::T.bf::T.bf::tc (bo true)::tc (ii (↑i:Int))::tc (ii x)::hs 7 [tc (sI m.n1.aB),tc (ii (↑(m.n1.aB.length):Int)),tc (ii (↑i:Int)),tc (bo (gL i m.n1.aB.length)),tc (ii (↑i:Int)),tc (C.fJ [ii x]),tc (ii x),tc (ii (↑i:Int)),T.k (K.v (V.fX 0 0)),tc (ii 1),T.k (K.v (V.fX 0 0)),T.k (K.v (V.fX 0 0)),T.k (K.v (V.fX 0 6)),T.k (K.v (V.fX 0 9)),T.k (K.v (V.fX 0 11)),tc (sI m.s1.aB),tc (ii (↑(m.s1.aB.length):Int)),tc (bo (gL i m.s1.aB.length)),tc (bo (gL i m.s1.aB.length)),tc (ii x),T.k (K.v (V.fX 0 0)),tc (ii 1),T.k (K.v (V.fX 0 0)),T.k (K.v (V.fX 0 0)),T.k (K.v (V.fX 0 6)),T.k (K.v (V.fX 0 9)),T.k (K.v (V.fX 0 11)),tc (sI m.s1.aB),tc (ii (↑i:Int)),tc (C.fJ [ii y]),tc (ii y),tc (bo (decide (x>y))),tc (bo (decide (x>y))),T.bf]) [(List.map V.c m.cs++(List.map V.c c.cs++(List.map V.c d.cs++(List.map V.c e.cs++[V.c (sO l)]))))] []
theorem aes(m:Mm)(c:Cl)(d:Cl)(e:bg)(l:List Ou)(i:Nat)(x:Int)(y:Int)(hx:m.n1.aB[i]?=some x)(hy:m.s1.aB[i]?=some y)(k:Nat)(z0:(gL i m.n1.aB.length)=true)(z1:(gL i m.s1.aB.length)=true)(z2:(decide (x>y))=true):dq (EE (k+1)) (HH 48) NN (LB PP 48 2) (J5 m c d e l (↑i:Int)) (dJ.ret) (C8 m c d e l i x y):=
 ou (eb z0<|ep (rz i)<|ep (aT (f:=eI) hx)<|eg (G.fF i [ii x])<|cQ<|ep (aG (eI) m.s1.aB)<|eg (G.len m.s1.aB.length)<|hO z1<|eb z1<|cQ<|eo z1<|ep (rz i)<|ep (aT (f:=eI) hy)<|eg (G.fF i [ii y])<|dO z1<|eb z2<|e0)
theorem aet(m:Mm)(c:Cl)(d:Cl)(e:bg)(l:List Ou)(i:Nat)(x:Int)(y:Int)(hx:m.n1.aB[i]?=some x)(hy:m.s1.aB[i]?=some y)(k:Nat)(z0:(gL i m.n1.aB.length)=true)(z1:(gL i m.s1.aB.length)=true)(z2:(decide (x>y))=false):bQ (EE (k+1)) (HH 48) NN (LB PP 48 2) 1 0 (J5 m c d e l (↑i:Int)) (J5 m c d e l (wrap .i64 ((↑i:Int)+1))):=
 nx (eb z0<|ep (rz i)<|ep (aT (f:=eI) hx)<|eg (G.fF i [ii x])<|cQ<|ep (aG (eI) m.s1.aB)<|eg (G.len m.s1.aB.length)<|hO z1<|eb z1<|cQ<|eo z1<|ep (rz i)<|ep (aT (f:=eI) hy)<|eg (G.fF i [ii y])<|dO z1<|eb z2<|e0)
theorem aeu(m:Mm)(c:Cl)(d:Cl)(e:bg)(l:List Ou)(i:Nat)(x:Int)(hx:m.n1.aB[i]?=some x)(k:Nat)(z0:(gL i m.n1.aB.length)=true)(z1:(gL i m.s1.aB.length)=false):bQ (EE (k+1)) (HH 48) NN (LB PP 48 2) 1 0 (J5 m c d e l (↑i:Int)) (J5 m c d e l (wrap .i64 ((↑i:Int)+1))):=
 nx (eb z0<|ep (rz i)<|ep (aT (f:=eI) hx)<|eg (G.fF i [ii x])<|cQ<|ep (aG (eI) m.s1.aB)<|eg (G.len m.s1.aB.length)<|hO z1<|hO z1<|ci z1<|ef<|e0)
def C9(m:Mm)(c:Cl)(d:Cl)(e:bg)(l:List Ou)(i:Nat):St:=St.mk (T.k (K.v (V.fX 0 0))::tc (ii 1)::hs 12 (tc (sI m.n1.aB)::tc (ii (↑(m.n1.aB.length):Int))::tc (ii (↑i:Int))::tc (bo (gL i m.n1.aB.length))::hs 30 [])) [(List.map V.c m.cs++(List.map V.c c.cs++(List.map V.c d.cs++(List.map V.c e.cs++[V.c (sO l)]))))] []
theorem aev(m:Mm)(c:Cl)(d:Cl)(e:bg)(l:List Ou)(i:Nat)(k:Nat)(z0:(gL i m.n1.aB.length)=false):dq (EE (k+1)) (HH 48) NN (LB PP 48 2) (J5 m c d e l (↑i:Int)) (dJ.exit 0) (C9 m c d e l i):=
 ou (eb z0<|e0)
theorem amp(m:Mm)(c:Cl)(d:Cl)(e:bg)(l:List Ou)(i:Nat)(x:Int)(y:Int)(hL:∀k,bT (EE (k+1)) (HH 48) NN (LB PP 48 2) (J5 m c d e l 0) dJ.ret (C8 m c d e l i x y))(k:Nat):EO (k+2) 48 [A.imp 0,A.c (ii 1)] [(Sp.mk m c d e l).cs]=some ([au.c (bo true)],[(Sp.mk m c d e l).cs]):=by
 exact kS (cQ<|ep (aG (eI) m.n1.aB)<|eg (G.len m.n1.aB.length)<|eg (G.loop dJ.ret (C8 m c d e l i x y))<|ep (hL k)<|e0) (rs:=[au.c (bo true)]) (cy:=[(m.cs++(lL c d e l))]) rfl
theorem amq(m:Mm)(c:Cl)(d:Cl)(e:bg)(l:List Ou)(i:Nat)(hL:∀k,bT (EE (k+1)) (HH 48) NN (LB PP 48 2) (J5 m c d e l 0) (dJ.exit 0) (C9 m c d e l i))(k:Nat):EO (k+2) 48 [A.imp 0,A.c (ii 1)] [(Sp.mk m c d e l).cs]=some ([au.c (bo false)],[(Sp.mk m c d e l).cs]):=by
 exact kS (cQ<|ep (aG (eI) m.n1.aB)<|eg (G.len m.n1.aB.length)<|eg (G.loop (dJ.exit 0) (C9 m c d e l i))<|ep (hL k)<|e0) (rs:=[au.c (bo false)]) (cy:=[(m.cs++(lL c d e l))]) rfl
theorem XA(m:Mm)(c d:Cl)(e:bg)(l:List Ou)(hb:m.n1.aB.length<=1000000)(k:Nat):EO (k+2) 48 [.imp 0, .c (ii 1)] [Sp.cs ⟨m,c,d,e,l⟩]=some ([.c (bo (lN m.n1 m.s1))],[Sp.cs ⟨m,c,d,e,l⟩]):=by
 rw[<-Ap]
 have sJ:∀(j q:Nat),(List.range m.n1.aB.length)[j]?=some q->q=j/\j<m.n1.aB.length:=fun j q h=>oE h
 rcases pA (E:=fun k=>EE (k+1)) (H:=HH 48) (n:=NN) (b:=LB PP 48 2) (fun j=>J5 m c d e l (j:Nat)) (List.range m.n1.aB.length) (pLa m.n1 m.s1) (fun j q=>C8 m c d e l j (m.n1.aB.getD j 0) (m.s1.aB.getD j 0)) (C9 m c d e l m.n1.aB.length) (nv:=1) (nt:=0) (e:= .ret) (e':= .exit 0) (by kernel_rfl) (by kernel_rfl)
  (fun k j q hq hp=>by
    obtain⟨rfl,hj⟩:=sJ j q hq
    have hx:m.n1.aB[q]?=some (m.n1.aB.getD q 0):=by rw[eX,cm hj];rfl
    cases hd:decide ((q:Int)<(m.s1.aB.length:Int)) with
    |false=>
     have:=aeu m c d e l q _ hx k (sM hx) hd
     rwa[p6 hx (by omega)] at this
    |true=>
     have h2:q<m.s1.aB.length:=by have:=jG hd;omega
     have hy:m.s1.aB[q]?=some (m.s1.aB.getD q 0):=by rw[eX,cm h2];rfl
     unfold pLa at hp
     rw[hd,i6] at hp
     have:=aet m c d e l q _ _ hx hy k (sM hx) hd hp
     rwa[p6 hx (by omega)] at this)
  (fun k j q hq hp=>by
    obtain⟨rfl,hj⟩:=sJ j q hq
    have hx:m.n1.aB[q]?=some (m.n1.aB.getD q 0):=by rw[eX,cm hj];rfl
    unfold pLa at hp
    rw[cY] at hp
    have h2:q<m.s1.aB.length:=by have:=jG hp.1;omega
    have hy:m.s1.aB[q]?=some (m.s1.aB.getD q 0):=by rw[eX,cm h2];rfl
    exact aes m c d e l q _ _ hx hy k (sM hx) hp.1 hp.2)
  (fun k=>by rw[iM];exact aev m c d e l _ k Gf) (by rw[iM];unfold NN;omega) with⟨h1,h2⟩|⟨h1,j,q,hy,hp,hf,_,h2⟩
 ·rw[h1];exact amq m c d e l _ h2 k
 ·rw[h1];exact amp m c d e l j _ _ h2 k
theorem XB(m:Mm)(c:Cl)(d:Cl)(e:bg)(l:List Ou)(b:Su)(hb:m.n1.aB.length<=1000000)(k:Nat):EO (k+3) 22 [A.imp 0,A.c (ii 1),A.agg b.cs] [(Sp.mk m c d e l).cs]=some ([],[(Sp.mk (kM m b) c d e l).cs]):=by
 rcases be b.bp with z0|z0
 ·exact kS (eb z0<|cQ<|cQ<|e0) (rs:=[]) (cy:=[([sS m.n0.ay,sL m.n0.begun,sI m.n0.aB,sS m.n1.ay,sL m.n1.begun,sI m.n1.aB,sS m.s0.ay,sL m.s0.begun,sI m.s0.aB,sS m.s1.ay,sL m.s1.begun,sI m.s1.aB,bo m.h0,bo true,bo m.d0,bo b.dg,bo m.w0.on,ii m.w0.id,ii m.w0.block,st m.w0.data,bo m.w1.on,ii m.w1.id,ii m.w1.block,st m.w1.data,ii m.count,ii m.cg]++(lL c d e l))]) (by first|(simp only[kM,z0,vq]<;>rfl)|(simp_all only[kM,vq]<;>rfl))
 ·rcases be m.h1 with z1|z1
  ·rcases be m.d1 with z2|z2
   ·exact kS (eb z0<|cQ<|eb z1<|cQ<|eA z2<|ef<|cQ<|cQ<|cQ<|cQ<|e0) (rs:=[]) (cy:=[([sS m.n0.ay,sL m.n0.begun,sI m.n0.aB,sS m.s1.ay,sL m.s1.begun,sI m.s1.aB,sS m.s0.ay,sL m.s0.begun,sI m.s0.aB,sS m.s1.ay,sL m.s1.begun,sI m.s1.aB,bo m.h0,bo false,bo m.d0,bo b.dg,bo m.w0.on,ii m.w0.id,ii m.w0.block,st m.w0.data,bo m.w1.on,ii m.w1.id,ii m.w1.block,st m.w1.data,ii m.count,ii m.cg]++(lL c d e l))]) (by first|(simp only[kM,z0,z1,z2,vq]<;>rfl)|(simp_all only[kM,vq]<;>rfl))
   ·rcases be (lN m.n1 m.s1) with z3|z3
    ·exact kS (eb z0<|cQ<|eb z1<|cQ<|ez z2<|ec (XA m c d e l hb k)<|en z2<|eb z3<|cQ<|cQ<|cQ<|cQ<|e0) (rs:=[]) (cy:=[([sS m.n0.ay,sL m.n0.begun,sI m.n0.aB,sS m.s1.ay,sL m.s1.begun,sI m.s1.aB,sS m.s0.ay,sL m.s0.begun,sI m.s0.aB,sS m.s1.ay,sL m.s1.begun,sI m.s1.aB,bo m.h0,bo false,bo m.d0,bo b.dg,bo m.w0.on,ii m.w0.id,ii m.w0.block,st m.w0.data,bo m.w1.on,ii m.w1.id,ii m.w1.block,st m.w1.data,ii m.count,ii (wrap .i64 (m.cg+1))]++(lL c d e l))]) (by first|(simp only[kM,z0,z1,z2,z3,vq]<;>rfl)|(simp_all only[kM,vq]<;>rfl))
    ·exact kS (eb z0<|cQ<|eb z1<|cQ<|ez z2<|ec (XA m c d e l hb k)<|en z2<|eb z3<|cQ<|cQ<|cQ<|cQ<|e0) (rs:=[]) (cy:=[([sS m.n0.ay,sL m.n0.begun,sI m.n0.aB,sS m.s1.ay,sL m.s1.begun,sI m.s1.aB,sS m.s0.ay,sL m.s0.begun,sI m.s0.aB,sS m.s1.ay,sL m.s1.begun,sI m.s1.aB,bo m.h0,bo false,bo m.d0,bo b.dg,bo m.w0.on,ii m.w0.id,ii m.w0.block,st m.w0.data,bo m.w1.on,ii m.w1.id,ii m.w1.block,st m.w1.data,ii m.count,ii m.cg]++(lL c d e l))]) (by first|(simp only[kM,z0,z1,z2,z3,vq]<;>rfl)|(simp_all only[kM,vq]<;>rfl))
  ·exact kS (eb z0<|cQ<|eb z1<|cQ<|e0) (rs:=[]) (cy:=[([sS m.n0.ay,sL m.n0.begun,sI m.n0.aB,sS m.n1.ay,sL m.n1.begun,sI m.n1.aB,sS m.s0.ay,sL m.s0.begun,sI m.s0.aB,sS m.s1.ay,sL m.s1.begun,sI m.s1.aB,bo m.h0,bo m.h1,bo m.d0,bo b.dg,bo m.w0.on,ii m.w0.id,ii m.w0.block,st m.w0.data,bo m.w1.on,ii m.w1.id,ii m.w1.block,st m.w1.data,ii m.count,ii m.cg]++(lL c d e l))]) (by first|(simp only[kM,z0,z1,vq]<;>rfl)|(simp_all only[kM,vq]<;>rfl))
theorem aew(m:Mm)(c:Cl)(d:Cl)(e:bg)(l:List Ou)(hk:(e.ae==5)=false)(k:Nat):EO (k+6) 20 [A.imp 0] [(Sp.mk m c d e l).cs]=some ([],[(Sp.mk m c d e l).cs]):=by
 exact kS (md hk<|k_<|e0) (rs:=[]) (cy:=[(m.cs++(lL c d e l))]) rfl
theorem aex(m:Mm)(c:Cl)(d:Cl)(e:bg)(l:List Ou)(q0:(e.node==0)=false)(q1:(e.node==1)=false)(k:Nat):EO (k+6) 20 [A.imp 0] [(Sp.mk m c d e l).cs]=some ([],[(Sp.mk m c d e l).cs]):=by
 rcases be (e.ae==5) with z0|z0
 ·exact kS (eA z0<|ez q0<|en z0<|en q0<|en z0<|CD q1<|et<|e0) (rs:=[]) (cy:=[(m.cs++(lL c d e l))]) (by first|(simp only[z0,vq]<;>rfl)|(simp_all only[vq]<;>rfl))
 ·exact kS (md z0<|k_<|e0) (rs:=[]) (cy:=[(m.cs++(lL c d e l))]) (by first|(simp only[z0,vq]<;>rfl)|(simp_all only[vq]<;>rfl))
theorem aaq(m:Mm)(c:Cl)(d:Cl)(l:List Ou)(id:Int)(bl:Int)(data:ByteArray)(nn:Int)(ks:List Bool)(hl:l.length<=1000000)(hr:dC l (0:Int)=true)(k:Nat):EO (k+6) 20 [A.imp 0] [(Sp.mk m c d ((bg.mk 5 0 id bl data nn ks)) l).cs]=some ([],[(Sp.mk m c d ((bg.mk 5 0 id bl data nn ks)) l).cs]):=by
 exact kS (fP<|fP<|mw<|ec (qk m c d ((bg.mk 5 0 id bl data nn ks)) l 0 hl k)<|ef<|eb hr<|e0) (rs:=[]) (cy:=[(m.cs++(c.cs++(d.cs++[ii 5,ii 0,ii id,ii bl,st data,u nn,sB ks,sO l])))]) rfl
theorem aar(m:Mm)(c:Cl)(d:Cl)(l:List Ou)(id:Int)(bl:Int)(data:ByteArray)(nn:Int)(ks:List Bool)(m1:Mm)(hl:l.length<=1000000)(hr:dC l (0:Int)=false)(hu:c.ai.up=false)(hB:∀k,EO (k+5) 46 [A.imp 0,A.c (ii 0)] [(Sp.mk m c d ((bg.mk 5 0 id bl data nn ks)) l).cs]=some ([],[(Sp.mk m1 c d ((bg.mk 5 0 id bl data nn ks)) l).cs]))(k:Nat):EO (k+6) 20 [A.imp 0] [(Sp.mk m c d ((bg.mk 5 0 id bl data nn ks)) l).cs]=some ([],[(Sp.mk (({m1 with w0:=(Rq.mk true id bl data)}:Mm)) c d ((bg.mk 5 0 id bl data nn ks)) l).cs]):=by
 exact kS (fP<|fP<|mw<|ec (qk m c d ((bg.mk 5 0 id bl data nn ks)) l 0 hl k)<|ef<|eb hr<|ec (hB k)<|eb hu<|cP<|e0) (rs:=[]) (cy:=[([sS m1.n0.ay,sL m1.n0.begun,sI m1.n0.aB,sS m1.n1.ay,sL m1.n1.begun,sI m1.n1.aB,sS m1.s0.ay,sL m1.s0.begun,sI m1.s0.aB,sS m1.s1.ay,sL m1.s1.begun,sI m1.s1.aB,bo m1.h0,bo m1.h1,bo m1.d0,bo m1.d1,bo true,ii id,ii bl,st data,bo m1.w1.on,ii m1.w1.id,ii m1.w1.block,st m1.w1.data,ii m1.count,ii m1.cg]++(c.cs++(d.cs++[ii 5,ii 0,ii id,ii bl,st data,u nn,sB ks,sO l])))]) rfl
theorem aas(m:Mm)(c:Cl)(d:Cl)(l:List Ou)(id:Int)(bl:Int)(data:ByteArray)(nn:Int)(ks:List Bool)(m1:Mm)(m2:Mm)(hl:l.length<=1000000)(hr:dC l (0:Int)=false)(hu:c.ai.up=true)(hB:∀k,EO (k+5) 46 [A.imp 0,A.c (ii 0)] [(Sp.mk m c d ((bg.mk 5 0 id bl data nn ks)) l).cs]=some ([],[(Sp.mk m1 c d ((bg.mk 5 0 id bl data nn ks)) l).cs]))(hC:∀k,EO (k+5) 46 [A.imp 0,A.c (ii 1)] [(Sp.mk m1 c d ((bg.mk 5 0 id bl data nn ks)) l).cs]=some ([],[(Sp.mk m2 c d ((bg.mk 5 0 id bl data nn ks)) l).cs]))(k:Nat):EO (k+6) 20 [A.imp 0] [(Sp.mk m c d ((bg.mk 5 0 id bl data nn ks)) l).cs]=some ([],[(Sp.mk (({m2 with w0:=(Rq.mk true id bl data)}:Mm)) c d ((bg.mk 5 0 id bl data nn ks)) l).cs]):=by
 exact kS (fP<|fP<|mw<|ec (qk m c d ((bg.mk 5 0 id bl data nn ks)) l 0 hl k)<|ef<|eb hr<|ec (hB k)<|eb hu<|ec (hC k)<|cP<|e0) (rs:=[]) (cy:=[([sS m2.n0.ay,sL m2.n0.begun,sI m2.n0.aB,sS m2.n1.ay,sL m2.n1.begun,sI m2.n1.aB,sS m2.s0.ay,sL m2.s0.begun,sI m2.s0.aB,sS m2.s1.ay,sL m2.s1.begun,sI m2.s1.aB,bo m2.h0,bo m2.h1,bo m2.d0,bo m2.d1,bo true,ii id,ii bl,st data,bo m2.w1.on,ii m2.w1.id,ii m2.w1.block,st m2.w1.data,ii m2.count,ii m2.cg]++(c.cs++(d.cs++[ii 5,ii 0,ii id,ii bl,st data,u nn,sB ks,sO l])))]) rfl
theorem Tl(m:Mm)(c:Cl)(d:Cl)(e:bg)(l:List Ou)(kd:Int)(id:Int)(er:Int)(data:ByteArray)(hn:(kd==2)=false)(k:Nat):EO (k+3) 21 [A.imp 0,A.agg [ii kd,ii 0,ii id,ii er,st data]] [(Sp.mk m c d e l).cs]=some ([],[(Sp.mk m c d e l).cs]):=by
 exact kS (cP<|eA hn<|k_<|k_<|k_<|e0) (rs:=[]) (cy:=[(m.cs++(lL c d e l))]) rfl
theorem Tm(m:Mm)(c:Cl)(d:Cl)(e:bg)(l:List Ou)(kd:Int)(id:Int)(er:Int)(data:ByteArray)(hn:(er==0)=false)(k:Nat):EO (k+3) 21 [A.imp 0,A.agg [ii kd,ii 0,ii id,ii er,st data]] [(Sp.mk m c d e l).cs]=some ([],[(Sp.mk m c d e l).cs]):=by
 rcases be (kd==2) with z0|z0
 ·exact kS (cP<|eA z0<|md hn<|en hn<|k_<|RD<|e0) (rs:=[]) (cy:=[(m.cs++(lL c d e l))]) (by first|(simp only[z0,vq]<;>rfl)|(simp_all only[vq]<;>rfl))
 ·exact kS (cP<|eA z0<|k_<|k_<|k_<|e0) (rs:=[]) (cy:=[(m.cs++(lL c d e l))]) (by first|(simp only[z0,vq]<;>rfl)|(simp_all only[vq]<;>rfl))
theorem Tn(m:Mm)(c:Cl)(d:Cl)(e:bg)(l:List Ou)(kd:Int)(id:Int)(er:Int)(data:ByteArray)(hn:(e.ae==4)=true)(k:Nat):EO (k+3) 21 [A.imp 0,A.agg [ii kd,ii 0,ii id,ii er,st data]] [(Sp.mk m c d e l).cs]=some ([],[(Sp.mk m c d e l).cs]):=by
 rcases be (kd==2) with z0|z0
 ·rcases be (er==0) with z1|z1
  ·exact kS (cP<|eA z0<|md z1<|en z1<|eo hn<|k_<|et<|e0) (rs:=[]) (cy:=[(m.cs++(lL c d e l))]) (by first|(simp only[z0,z1,vq]<;>rfl)|(simp_all only[vq]<;>rfl))
  ·exact kS (cP<|eA z0<|md z1<|en z1<|k_<|RD<|e0) (rs:=[]) (cy:=[(m.cs++(lL c d e l))]) (by first|(simp only[z0,z1,vq]<;>rfl)|(simp_all only[vq]<;>rfl))
 ·exact kS (cP<|eA z0<|k_<|k_<|k_<|e0) (rs:=[]) (cy:=[(m.cs++(lL c d e l))]) (by first|(simp only[z0,vq]<;>rfl)|(simp_all only[vq]<;>rfl))
theorem To(m:Mm)(c:Cl)(d:Cl)(e:bg)(l:List Ou)(kd:Int)(id:Int)(er:Int)(data:ByteArray)(hn:m.w0.on=false)(k:Nat):EO (k+3) 21 [A.imp 0,A.agg [ii kd,ii 0,ii id,ii er,st data]] [(Sp.mk m c d e l).cs]=some ([],[(Sp.mk m c d e l).cs]):=by
 rcases be (kd==2) with z0|z0
 ·rcases be (er==0) with z1|z1
  ·rcases be (e.ae==4) with z2|z2
   ·exact kS (cP<|eA z0<|md z1<|en z1<|eo z2<|k_<|et<|e0) (rs:=[]) (cy:=[(m.cs++(lL c d e l))]) (by first|(simp only[z0,z1,z2,vq]<;>rfl)|(simp_all only[vq]<;>rfl))
   ·exact kS (cP<|eA z0<|md z1<|en z1<|eo z2<|md hn<|et<|e0) (rs:=[]) (cy:=[(m.cs++(lL c d e l))]) (by first|(simp only[z0,z1,z2,vq]<;>rfl)|(simp_all only[vq]<;>rfl))
  ·exact kS (cP<|eA z0<|md z1<|en z1<|k_<|RD<|e0) (rs:=[]) (cy:=[(m.cs++(lL c d e l))]) (by first|(simp only[z0,z1,vq]<;>rfl)|(simp_all only[vq]<;>rfl))
 ·exact kS (cP<|eA z0<|k_<|k_<|k_<|e0) (rs:=[]) (cy:=[(m.cs++(lL c d e l))]) (by first|(simp only[z0,vq]<;>rfl)|(simp_all only[vq]<;>rfl))
theorem Tp(m:Mm)(c:Cl)(d:Cl)(e:bg)(l:List Ou)(kd:Int)(id:Int)(er:Int)(data:ByteArray)(hn:(m.w0.id==id)=false)(hw:m.w0.on=true)(k:Nat):EO (k+3) 21 [A.imp 0,A.agg [ii kd,ii 0,ii id,ii er,st data]] [(Sp.mk m c d e l).cs]=some ([],[(Sp.mk m c d e l).cs]):=by
 rcases be (kd==2) with z0|z0
 ·rcases be (er==0) with z1|z1
  ·rcases be (e.ae==4) with z2|z2
   ·exact kS (cP<|eA z0<|md z1<|en z1<|eo z2<|k_<|et<|e0) (rs:=[]) (cy:=[(m.cs++(lL c d e l))]) (by first|(simp only[z0,z1,z2,vq]<;>rfl)|(simp_all only[vq]<;>rfl))
   ·exact kS (cP<|eA z0<|md z1<|en z1<|eo z2<|md hw<|en hn<|e0) (rs:=[]) (cy:=[(m.cs++(lL c d e l))]) (by first|(simp only[z0,z1,z2,vq]<;>rfl)|(simp_all only[vq]<;>rfl))
  ·exact kS (cP<|eA z0<|md z1<|en z1<|k_<|RD<|e0) (rs:=[]) (cy:=[(m.cs++(lL c d e l))]) (by first|(simp only[z0,z1,vq]<;>rfl)|(simp_all only[vq]<;>rfl))
 ·exact kS (cP<|eA z0<|k_<|k_<|k_<|e0) (rs:=[]) (cy:=[(m.cs++(lL c d e l))]) (by first|(simp only[z0,vq]<;>rfl)|(simp_all only[vq]<;>rfl))
theorem Tq(m:Mm)(c:Cl)(d:Cl)(e:bg)(l:List Ou)(id:Int)(data:ByteArray)(m1:Mm)(h4:(e.ae==4)=false)(hw:m.w0.on=true)(gm:(m.w0.id==id)=true)(hA:∀k,EO (k+2) 47 [A.imp 0,A.c (ii 0),A.agg m.w0.cs] [(Sp.mk (({m with w0:=iE,count:=wrap .i64 (m.count+1)}:Mm)) c d e l).cs]=some ([],[(Sp.mk m1 c d e l).cs]))(h9:(e.ae==9)=false)(k:Nat):EO (k+3) 21 [A.imp 0,A.agg [ii 2,ii 0,ii id,ii 0,st data]] [(Sp.mk m c d e l).cs]=some ([],[(Sp.mk m1 c d e l).cs]):=by
 exact kS (cP<|fP<|Cg<|eo h4<|md hw<|en gm<|cP<|ec (hA k)<|hO h9<|dO h9<|ef<|e0) (rs:=[]) (cy:=[(m1.cs++(lL c d e l))]) rfl
theorem Tr(m:Mm)(c:Cl)(d:Cl)(e:bg)(l:List Ou)(id:Int)(data:ByteArray)(m1:Mm)(h4:(e.ae==4)=false)(hw:m.w0.on=true)(gm:(m.w0.id==id)=true)(hA:∀k,EO (k+2) 47 [A.imp 0,A.c (ii 0),A.agg m.w0.cs] [(Sp.mk (({m with w0:=iE,count:=wrap .i64 (m.count+1)}:Mm)) c d e l).cs]=some ([],[(Sp.mk m1 c d e l).cs]))(hn:(e.node==0)=false)(k:Nat):EO (k+3) 21 [A.imp 0,A.agg [ii 2,ii 0,ii id,ii 0,st data]] [(Sp.mk m c d e l).cs]=some ([],[(Sp.mk m1 c d e l).cs]):=by
 rcases be (e.ae==9) with z0|z0
 ·exact kS (cP<|fP<|Cg<|eo h4<|md hw<|en gm<|cP<|ec (hA k)<|hO z0<|dO z0<|eb hn<|e0) (rs:=[]) (cy:=[(m1.cs++(lL c d e l))]) (by first|(simp only[z0,vq]<;>rfl)|(simp_all only[vq]<;>rfl))
 ·exact kS (cP<|fP<|Cg<|eo h4<|md hw<|en gm<|cP<|ec (hA k)<|hO z0<|dO z0<|ef<|e0) (rs:=[]) (cy:=[(m1.cs++(lL c d e l))]) (by first|(simp only[z0,vq]<;>rfl)|(simp_all only[vq]<;>rfl))
theorem Ts(m:Mm)(c:Cl)(d:Cl)(e:bg)(l:List Ou)(id:Int)(data:ByteArray)(m1:Mm)(h4:(e.ae==4)=false)(hw:m.w0.on=true)(gm:(m.w0.id==id)=true)(hA:∀k,EO (k+2) 47 [A.imp 0,A.c (ii 0),A.agg m.w0.cs] [(Sp.mk (({m with w0:=iE,count:=wrap .i64 (m.count+1)}:Mm)) c d e l).cs]=some ([],[(Sp.mk m1 c d e l).cs]))(m2:Mm)(h9:(e.ae==9)=true)(hn:(e.node==0)=true)(hB:∀k,EO (k+2) 47 [A.imp 0,A.c (ii 1),A.agg m.w0.cs] [(Sp.mk m1 c d e l).cs]=some ([],[(Sp.mk m2 c d e l).cs]))(k:Nat):EO (k+3) 21 [A.imp 0,A.agg [ii 2,ii 0,ii id,ii 0,st data]] [(Sp.mk m c d e l).cs]=some ([],[(Sp.mk m2 c d e l).cs]):=by
 exact kS (cP<|fP<|Cg<|eo h4<|md hw<|en gm<|cP<|ec (hA k)<|hO h9<|dO h9<|eb hn<|ec (hB k)<|e0) (rs:=[]) (cy:=[(m2.cs++(lL c d e l))]) rfl
theorem aat(m:Mm)(c:Cl)(d:Cl)(l:List Ou)(id:Int)(bl:Int)(data:ByteArray)(nn:Int)(ks:List Bool)(hl:l.length<=1000000)(hr:dC l (1:Int)=true)(k:Nat):EO (k+6) 20 [A.imp 0] [(Sp.mk m c d ((bg.mk 5 1 id bl data nn ks)) l).cs]=some ([],[(Sp.mk m c d ((bg.mk 5 1 id bl data nn ks)) l).cs]):=by
 exact kS (kT<|mc<|ef<|et<|Cg<|ec (qk m c d ((bg.mk 5 1 id bl data nn ks)) l 1 hl k)<|ef<|eb hr<|e0) (rs:=[]) (cy:=[(m.cs++(c.cs++(d.cs++[ii 5,ii 1,ii id,ii bl,st data,u nn,sB ks,sO l])))]) rfl
theorem aau(m:Mm)(c:Cl)(d:Cl)(l:List Ou)(id:Int)(bl:Int)(data:ByteArray)(nn:Int)(ks:List Bool)(m1:Mm)(hl:l.length<=1000000)(hr:dC l (1:Int)=false)(hu:c.ai.up=false)(hB:∀k,EO (k+5) 46 [A.imp 0,A.c (ii 1)] [(Sp.mk m c d ((bg.mk 5 1 id bl data nn ks)) l).cs]=some ([],[(Sp.mk m1 c d ((bg.mk 5 1 id bl data nn ks)) l).cs]))(k:Nat):EO (k+6) 20 [A.imp 0] [(Sp.mk m c d ((bg.mk 5 1 id bl data nn ks)) l).cs]=some ([],[(Sp.mk (({m1 with w1:=(Rq.mk true id bl data)}:Mm)) c d ((bg.mk 5 1 id bl data nn ks)) l).cs]):=by
 exact kS (kT<|mc<|ef<|et<|Cg<|ec (qk m c d ((bg.mk 5 1 id bl data nn ks)) l 1 hl k)<|ef<|eb hr<|ec (hB k)<|eb hu<|cQ<|e0) (rs:=[]) (cy:=[([sS m1.n0.ay,sL m1.n0.begun,sI m1.n0.aB,sS m1.n1.ay,sL m1.n1.begun,sI m1.n1.aB,sS m1.s0.ay,sL m1.s0.begun,sI m1.s0.aB,sS m1.s1.ay,sL m1.s1.begun,sI m1.s1.aB,bo m1.h0,bo m1.h1,bo m1.d0,bo m1.d1,bo m1.w0.on,ii m1.w0.id,ii m1.w0.block,st m1.w0.data,bo true,ii id,ii bl,st data,ii m1.count,ii m1.cg]++(c.cs++(d.cs++[ii 5,ii 1,ii id,ii bl,st data,u nn,sB ks,sO l])))]) rfl
theorem aav(m:Mm)(c:Cl)(d:Cl)(l:List Ou)(id:Int)(bl:Int)(data:ByteArray)(nn:Int)(ks:List Bool)(m1:Mm)(m2:Mm)(hl:l.length<=1000000)(hr:dC l (1:Int)=false)(hu:c.ai.up=true)(hB:∀k,EO (k+5) 46 [A.imp 0,A.c (ii 1)] [(Sp.mk m c d ((bg.mk 5 1 id bl data nn ks)) l).cs]=some ([],[(Sp.mk m1 c d ((bg.mk 5 1 id bl data nn ks)) l).cs]))(hC:∀k,EO (k+5) 46 [A.imp 0,A.c (ii 0)] [(Sp.mk m1 c d ((bg.mk 5 1 id bl data nn ks)) l).cs]=some ([],[(Sp.mk m2 c d ((bg.mk 5 1 id bl data nn ks)) l).cs]))(k:Nat):EO (k+6) 20 [A.imp 0] [(Sp.mk m c d ((bg.mk 5 1 id bl data nn ks)) l).cs]=some ([],[(Sp.mk (({m2 with w1:=(Rq.mk true id bl data)}:Mm)) c d ((bg.mk 5 1 id bl data nn ks)) l).cs]):=by
 exact kS (kT<|mc<|ef<|et<|Cg<|ec (qk m c d ((bg.mk 5 1 id bl data nn ks)) l 1 hl k)<|ef<|eb hr<|ec (hB k)<|eb hu<|ec (hC k)<|cQ<|e0) (rs:=[]) (cy:=[([sS m2.n0.ay,sL m2.n0.begun,sI m2.n0.aB,sS m2.n1.ay,sL m2.n1.begun,sI m2.n1.aB,sS m2.s0.ay,sL m2.s0.begun,sI m2.s0.aB,sS m2.s1.ay,sL m2.s1.begun,sI m2.s1.aB,bo m2.h0,bo m2.h1,bo m2.d0,bo m2.d1,bo m2.w0.on,ii m2.w0.id,ii m2.w0.block,st m2.w0.data,bo true,ii id,ii bl,st data,ii m2.count,ii m2.cg]++(c.cs++(d.cs++[ii 5,ii 1,ii id,ii bl,st data,u nn,sB ks,sO l])))]) rfl
theorem Tt(m:Mm)(c:Cl)(d:Cl)(e:bg)(l:List Ou)(kd:Int)(id:Int)(er:Int)(data:ByteArray)(hn:(kd==2)=false)(k:Nat):EO (k+3) 21 [A.imp 0,A.agg [ii kd,ii 1,ii id,ii er,st data]] [(Sp.mk m c d e l).cs]=some ([],[(Sp.mk m c d e l).cs]):=by
 exact kS (cQ<|eA hn<|k_<|k_<|k_<|e0) (rs:=[]) (cy:=[(m.cs++(lL c d e l))]) rfl
theorem Tu(m:Mm)(c:Cl)(d:Cl)(e:bg)(l:List Ou)(kd:Int)(id:Int)(er:Int)(data:ByteArray)(hn:(er==0)=false)(k:Nat):EO (k+3) 21 [A.imp 0,A.agg [ii kd,ii 1,ii id,ii er,st data]] [(Sp.mk m c d e l).cs]=some ([],[(Sp.mk m c d e l).cs]):=by
 rcases be (kd==2) with z0|z0
 ·exact kS (cQ<|eA z0<|md hn<|en hn<|k_<|RD<|e0) (rs:=[]) (cy:=[(m.cs++(lL c d e l))]) (by first|(simp only[z0,vq]<;>rfl)|(simp_all only[vq]<;>rfl))
 ·exact kS (cQ<|eA z0<|k_<|k_<|k_<|e0) (rs:=[]) (cy:=[(m.cs++(lL c d e l))]) (by first|(simp only[z0,vq]<;>rfl)|(simp_all only[vq]<;>rfl))
theorem Tv(m:Mm)(c:Cl)(d:Cl)(e:bg)(l:List Ou)(kd:Int)(id:Int)(er:Int)(data:ByteArray)(hn:(e.ae==4)=true)(k:Nat):EO (k+3) 21 [A.imp 0,A.agg [ii kd,ii 1,ii id,ii er,st data]] [(Sp.mk m c d e l).cs]=some ([],[(Sp.mk m c d e l).cs]):=by
 rcases be (kd==2) with z0|z0
 ·rcases be (er==0) with z1|z1
  ·exact kS (cQ<|eA z0<|md z1<|en z1<|eo hn<|k_<|et<|e0) (rs:=[]) (cy:=[(m.cs++(lL c d e l))]) (by first|(simp only[z0,z1,vq]<;>rfl)|(simp_all only[vq]<;>rfl))
  ·exact kS (cQ<|eA z0<|md z1<|en z1<|k_<|RD<|e0) (rs:=[]) (cy:=[(m.cs++(lL c d e l))]) (by first|(simp only[z0,z1,vq]<;>rfl)|(simp_all only[vq]<;>rfl))
 ·exact kS (cQ<|eA z0<|k_<|k_<|k_<|e0) (rs:=[]) (cy:=[(m.cs++(lL c d e l))]) (by first|(simp only[z0,vq]<;>rfl)|(simp_all only[vq]<;>rfl))
theorem Tw(m:Mm)(c:Cl)(d:Cl)(e:bg)(l:List Ou)(kd:Int)(id:Int)(er:Int)(data:ByteArray)(hn:m.w1.on=false)(k:Nat):EO (k+3) 21 [A.imp 0,A.agg [ii kd,ii 1,ii id,ii er,st data]] [(Sp.mk m c d e l).cs]=some ([],[(Sp.mk m c d e l).cs]):=by
 rcases be (kd==2) with z0|z0
 ·rcases be (er==0) with z1|z1
  ·rcases be (e.ae==4) with z2|z2
   ·exact kS (cQ<|eA z0<|md z1<|en z1<|eo z2<|k_<|et<|e0) (rs:=[]) (cy:=[(m.cs++(lL c d e l))]) (by first|(simp only[z0,z1,z2,vq]<;>rfl)|(simp_all only[vq]<;>rfl))
   ·exact kS (cQ<|eA z0<|md z1<|en z1<|eo z2<|md hn<|et<|e0) (rs:=[]) (cy:=[(m.cs++(lL c d e l))]) (by first|(simp only[z0,z1,z2,vq]<;>rfl)|(simp_all only[vq]<;>rfl))
  ·exact kS (cQ<|eA z0<|md z1<|en z1<|k_<|RD<|e0) (rs:=[]) (cy:=[(m.cs++(lL c d e l))]) (by first|(simp only[z0,z1,vq]<;>rfl)|(simp_all only[vq]<;>rfl))
 ·exact kS (cQ<|eA z0<|k_<|k_<|k_<|e0) (rs:=[]) (cy:=[(m.cs++(lL c d e l))]) (by first|(simp only[z0,vq]<;>rfl)|(simp_all only[vq]<;>rfl))
theorem Tx(m:Mm)(c:Cl)(d:Cl)(e:bg)(l:List Ou)(kd:Int)(id:Int)(er:Int)(data:ByteArray)(hn:(m.w1.id==id)=false)(hw:m.w1.on=true)(k:Nat):EO (k+3) 21 [A.imp 0,A.agg [ii kd,ii 1,ii id,ii er,st data]] [(Sp.mk m c d e l).cs]=some ([],[(Sp.mk m c d e l).cs]):=by
 rcases be (kd==2) with z0|z0
 ·rcases be (er==0) with z1|z1
  ·rcases be (e.ae==4) with z2|z2
   ·exact kS (cQ<|eA z0<|md z1<|en z1<|eo z2<|k_<|et<|e0) (rs:=[]) (cy:=[(m.cs++(lL c d e l))]) (by first|(simp only[z0,z1,z2,vq]<;>rfl)|(simp_all only[vq]<;>rfl))
   ·exact kS (cQ<|eA z0<|md z1<|en z1<|eo z2<|md hw<|en hn<|e0) (rs:=[]) (cy:=[(m.cs++(lL c d e l))]) (by first|(simp only[z0,z1,z2,vq]<;>rfl)|(simp_all only[vq]<;>rfl))
  ·exact kS (cQ<|eA z0<|md z1<|en z1<|k_<|RD<|e0) (rs:=[]) (cy:=[(m.cs++(lL c d e l))]) (by first|(simp only[z0,z1,vq]<;>rfl)|(simp_all only[vq]<;>rfl))
 ·exact kS (cQ<|eA z0<|k_<|k_<|k_<|e0) (rs:=[]) (cy:=[(m.cs++(lL c d e l))]) (by first|(simp only[z0,vq]<;>rfl)|(simp_all only[vq]<;>rfl))
theorem Ty(m:Mm)(c:Cl)(d:Cl)(e:bg)(l:List Ou)(id:Int)(data:ByteArray)(m1:Mm)(h4:(e.ae==4)=false)(hw:m.w1.on=true)(gm:(m.w1.id==id)=true)(hA:∀k,EO (k+2) 47 [A.imp 0,A.c (ii 1),A.agg m.w1.cs] [(Sp.mk (({m with w1:=iE,count:=wrap .i64 (m.count+1)}:Mm)) c d e l).cs]=some ([],[(Sp.mk m1 c d e l).cs]))(h9:(e.ae==9)=false)(k:Nat):EO (k+3) 21 [A.imp 0,A.agg [ii 2,ii 1,ii id,ii 0,st data]] [(Sp.mk m c d e l).cs]=some ([],[(Sp.mk m1 c d e l).cs]):=by
 exact kS (cQ<|fP<|Cg<|eo h4<|md hw<|en gm<|cQ<|ec (hA k)<|hO h9<|dO h9<|ef<|e0) (rs:=[]) (cy:=[(m1.cs++(lL c d e l))]) rfl
theorem Tz(m:Mm)(c:Cl)(d:Cl)(e:bg)(l:List Ou)(id:Int)(data:ByteArray)(m1:Mm)(h4:(e.ae==4)=false)(hw:m.w1.on=true)(gm:(m.w1.id==id)=true)(hA:∀k,EO (k+2) 47 [A.imp 0,A.c (ii 1),A.agg m.w1.cs] [(Sp.mk (({m with w1:=iE,count:=wrap .i64 (m.count+1)}:Mm)) c d e l).cs]=some ([],[(Sp.mk m1 c d e l).cs]))(hn:(e.node==1)=false)(k:Nat):EO (k+3) 21 [A.imp 0,A.agg [ii 2,ii 1,ii id,ii 0,st data]] [(Sp.mk m c d e l).cs]=some ([],[(Sp.mk m1 c d e l).cs]):=by
 rcases be (e.ae==9) with z0|z0
 ·exact kS (cQ<|fP<|Cg<|eo h4<|md hw<|en gm<|cQ<|ec (hA k)<|hO z0<|dO z0<|eb hn<|e0) (rs:=[]) (cy:=[(m1.cs++(lL c d e l))]) (by first|(simp only[z0,vq]<;>rfl)|(simp_all only[vq]<;>rfl))
 ·exact kS (cQ<|fP<|Cg<|eo h4<|md hw<|en gm<|cQ<|ec (hA k)<|hO z0<|dO z0<|ef<|e0) (rs:=[]) (cy:=[(m1.cs++(lL c d e l))]) (by first|(simp only[z0,vq]<;>rfl)|(simp_all only[vq]<;>rfl))
theorem TA(m:Mm)(c:Cl)(d:Cl)(e:bg)(l:List Ou)(id:Int)(data:ByteArray)(m1:Mm)(h4:(e.ae==4)=false)(hw:m.w1.on=true)(gm:(m.w1.id==id)=true)(hA:∀k,EO (k+2) 47 [A.imp 0,A.c (ii 1),A.agg m.w1.cs] [(Sp.mk (({m with w1:=iE,count:=wrap .i64 (m.count+1)}:Mm)) c d e l).cs]=some ([],[(Sp.mk m1 c d e l).cs]))(m2:Mm)(h9:(e.ae==9)=true)(hn:(e.node==1)=true)(hB:∀k,EO (k+2) 47 [A.imp 0,A.c (ii 0),A.agg m.w1.cs] [(Sp.mk m1 c d e l).cs]=some ([],[(Sp.mk m2 c d e l).cs]))(k:Nat):EO (k+3) 21 [A.imp 0,A.agg [ii 2,ii 1,ii id,ii 0,st data]] [(Sp.mk m c d e l).cs]=some ([],[(Sp.mk m2 c d e l).cs]):=by
 exact kS (cQ<|fP<|Cg<|eo h4<|md hw<|en gm<|cQ<|ec (hA k)<|hO h9<|dO h9<|eb hn<|ec (hB k)<|e0) (rs:=[]) (cy:=[(m2.cs++(lL c d e l))]) rfl
theorem C_{v:Vl}{b:Int}(h:j3 v b=true):∃i:Nat,b=(i:Int)/\i<v.ay.length:=by
 unfold j3 at h
 rw[cY] at h
 have h1:=jG h.1
 have h2:=jG h.2
 exact⟨b.toNat,by omega,by omega⟩
theorem aiC{N M:Nat}{m:Mm}(h:Mg N M m)(hN:N<=100000)(hM:M<=100000)(c d:Cl)(e:bg)(l:List Ou)(k:Nat):EO (k+2) 46 [.imp 0, .c (ii 0)] [Sp.cs ⟨m,c,d,e,l⟩]=some ([],[Sp.cs ⟨gg m 0 e,c,d,e,l⟩]):=by
 have hv:=h.v0
 have hw:=h.w0
 cases hb:j3 m.n0 e.block with
 |false=>
  have:gg m 0 e=m:=by show({m with n0:=gC m.n0 e.block e.data}:Mm)=m;rw[Ha hb]
  rw[this];exact aal m c d e l hb k
 |true=>
  obtain⟨i,hi,fO⟩:=C_ hb
  have h2:i<m.n0.begun.length:=by rw[hv.b,<-hv.a];exact fO
  have hy:m.n0.begun[i]?=some m.n0.begun[i]:=cm h2
  have hB:=hw.b _ (Dn h2)
  have:=aam m c d e l i _ hb hi fO h2 (by rw[hv.l,<-hv.a];exact fO) (by rw[hv.a];omega) (by rw[hv.b];omega) (by rw[hv.l];omega) hy (by omega) k
  rw[this]
  have e1:gg m 0 e=⟨⟨m.n0.ay,m.n0.begun.set i (m.n0.begun[i]++[e.data]),m.n0.aB⟩,m.n1,m.s0,m.s1,m.h0,m.h1,m.d0,m.d1,m.w0,m.w1,m.count,m.cg⟩:=by
   show({m with n0:=gC m.n0 e.block e.data}:Mm)=_
   rw[yj hb hi hy]
  rw[e1]
theorem aiD{N M:Nat}{m:Mm}(h:Mg N M m)(hN:N<=100000)(hM:M<=100000)(c d:Cl)(e:bg)(l:List Ou)(k:Nat):EO (k+2) 46 [.imp 0, .c (ii 1)] [Sp.cs ⟨m,c,d,e,l⟩]=some ([],[Sp.cs ⟨gg m 1 e,c,d,e,l⟩]):=by
 have hv:=h.v1
 have hw:=h.w1
 cases hb:j3 m.n1 e.block with
 |false=>
  have:gg m 1 e=m:=by show({m with n1:=gC m.n1 e.block e.data}:Mm)=m;rw[Ha hb]
  rw[this];exact aan m c d e l hb k
 |true=>
  obtain⟨i,hi,fO⟩:=C_ hb
  have h2:i<m.n1.begun.length:=by rw[hv.b,<-hv.a];exact fO
  have hy:m.n1.begun[i]?=some m.n1.begun[i]:=cm h2
  have hB:=hw.b _ (Dn h2)
  have:=aao m c d e l i _ hb hi fO h2 (by rw[hv.l,<-hv.a];exact fO) (by rw[hv.a];omega) (by rw[hv.b];omega) (by rw[hv.l];omega) hy (by omega) k
  rw[this]
  have e1:gg m 1 e=⟨m.n0,⟨m.n1.ay,m.n1.begun.set i (m.n1.begun[i]++[e.data]),m.n1.aB⟩,m.s0,m.s1,m.h0,m.h1,m.d0,m.d1,m.w0,m.w1,m.count,m.cg⟩:=by
   show({m with n1:=gC m.n1 e.block e.data}:Mm)=_
   rw[yj hb hi hy]
  rw[e1]
theorem aiE{N M:Nat}{m:Mm}(h:Mg N M m)(hN:N<=100000)(c d:Cl)(e:bg)(l:List Ou)(r:Rq)(k:Nat):EO (k+2) 47 [.imp 0, .c (ii 0), .agg r.cs] [Sp.cs ⟨m,c,d,e,l⟩]=some ([],[Sp.cs ⟨mG m 0 r,c,d,e,l⟩]):=by
 have hv:=h.v0
 cases hb:j3 m.n0 r.block with
 |false=>
  have:mG m 0 r=m:=by show({m with n0:=pD m.n0 r m.count}:Mm)=m;rw[Qc hb]
  rw[this];exact aiy m c d e l r hb k
 |true=>
  obtain⟨i,hi,fO⟩:=C_ hb
  have:=aiz m c d e l r i hb hi fO (by rw[hv.b,<-hv.a];exact fO) (by rw[hv.l,<-hv.a];exact fO) (by rw[hv.a];omega) (by rw[hv.b];omega) (by rw[hv.l];omega) k
  rw[this]
  have e1:mG m 0 r=⟨⟨m.n0.ay.set i r.data,m.n0.begun.set i [],m.n0.aB.set i m.count⟩,m.n1,m.s0,m.s1,m.h0,m.h1,m.d0,m.d1,m.w0,m.w1,m.count,m.cg⟩:=by
   show({m with n0:=pD m.n0 r m.count}:Mm)=_
   rw[zF hb hi]
  rw[e1]
theorem aiF{N M:Nat}{m:Mm}(h:Mg N M m)(hN:N<=100000)(c d:Cl)(e:bg)(l:List Ou)(r:Rq)(k:Nat):EO (k+2) 47 [.imp 0, .c (ii 1), .agg r.cs] [Sp.cs ⟨m,c,d,e,l⟩]=some ([],[Sp.cs ⟨mG m 1 r,c,d,e,l⟩]):=by
 have hv:=h.v1
 cases hb:j3 m.n1 r.block with
 |false=>
  have:mG m 1 r=m:=by show({m with n1:=pD m.n1 r m.count}:Mm)=m;rw[Qc hb]
  rw[this];exact aiA m c d e l r hb k
 |true=>
  obtain⟨i,hi,fO⟩:=C_ hb
  have:=aiB m c d e l r i hb hi fO (by rw[hv.b,<-hv.a];exact fO) (by rw[hv.l,<-hv.a];exact fO) (by rw[hv.a];omega) (by rw[hv.b];omega) (by rw[hv.l];omega) k
  rw[this]
  have e1:mG m 1 r=⟨m.n0,⟨m.n1.ay.set i r.data,m.n1.begun.set i [],m.n1.aB.set i m.count⟩,m.s0,m.s1,m.h0,m.h1,m.d0,m.d1,m.w0,m.w1,m.count,m.cg⟩:=by
   show({m with n1:=pD m.n1 r m.count}:Mm)=_
   rw[zF hb hi]
  rw[e1]
theorem aaw{N M:Nat}{m:Mm}(h:Mg N M m)(hN:N<=100000)(hM:M+1<=100000)(c d:Cl)(e:bg)(l:List Ou)(hl:l.length<=1000000)(k:Nat):EO (k+6) 20 [.imp 0] [Sp.cs ⟨m,c,d,e,l⟩]=some ([],[Sp.cs ⟨bU m c e l,c,d,e,l⟩]):=by
 cases hk:e.ae==5 with
 |false=>
  have:bU m c e l=m:=by unfold bU;rw[hk];rfl
  rw[this];exact aew m c d e l hk k
 |true=>
  cases q0:e.node==0 with
  |true=>
   obtain⟨kd,nd,id,bl,data,nn,ks⟩:=e
   obtain rfl:kd=5:=eq_of_beq hk
   obtain rfl:nd=0:=eq_of_beq q0
   cases hr:dC l 0 with
   |true=>
    have:bU m c ⟨5,0,id,bl,data,nn,ks⟩ l=m:=by unfold bU;rw[hr];rfl
    rw[this];exact aaq m c d l id bl data nn ks hl hr k
   |false=>
    have hb:=fun k=>aiC h hN (by omega) c d ⟨5,0,id,bl,data,nn,ks⟩ l (k+3)
    have h1:=sX h 0 ⟨5,0,id,bl,data,nn,ks⟩
    cases hu:c.ai.up with
    |false=>
     have:bU m c ⟨5,0,id,bl,data,nn,ks⟩ l=p8 (gg m 0 ⟨5,0,id,bl,data,nn,ks⟩) 0 ⟨true,id,bl,data⟩:=by unfold bU kL;rw[hr,hu];rfl
     rw[this];exact aar m c d l id bl data nn ks _ hl hr hu hb k
    |true=>
     have hc:=fun k=>aiD h1 hN hM c d ⟨5,0,id,bl,data,nn,ks⟩ l (k+3)
     have:bU m c ⟨5,0,id,bl,data,nn,ks⟩ l=p8 (gg (gg m 0 ⟨5,0,id,bl,data,nn,ks⟩) 1 ⟨5,0,id,bl,data,nn,ks⟩) 0 ⟨true,id,bl,data⟩:=by unfold bU kL;rw[hr,hu];rfl
     rw[this];exact aas m c d l id bl data nn ks _ _ hl hr hu hb hc k
  |false=>
   cases q1:e.node==1 with
   |false=>
    have:bU m c e l=m:=by unfold bU;rw[q0,q1];simp
    rw[this];exact aex m c d e l q0 q1 k
   |true=>
    obtain⟨kd,nd,id,bl,data,nn,ks⟩:=e
    obtain rfl:kd=5:=eq_of_beq hk
    obtain rfl:nd=1:=eq_of_beq q1
    cases hr:dC l 1 with
    |true=>
     have:bU m c ⟨5,1,id,bl,data,nn,ks⟩ l=m:=by unfold bU;rw[hr];rfl
     rw[this];exact aat m c d l id bl data nn ks hl hr k
    |false=>
     have hb:=fun k=>aiD h hN (by omega) c d ⟨5,1,id,bl,data,nn,ks⟩ l (k+3)
     have h1:=sX h 1 ⟨5,1,id,bl,data,nn,ks⟩
     cases hu:c.ai.up with
     |false=>
      have:bU m c ⟨5,1,id,bl,data,nn,ks⟩ l=p8 (gg m 1 ⟨5,1,id,bl,data,nn,ks⟩) 1 ⟨true,id,bl,data⟩:=by unfold bU kL;rw[hr,hu];rfl
      rw[this];exact aau m c d l id bl data nn ks _ hl hr hu hb k
     |true=>
      have hc:=fun k=>aiC h1 hN hM c d ⟨5,1,id,bl,data,nn,ks⟩ l (k+3)
      have:bU m c ⟨5,1,id,bl,data,nn,ks⟩ l=p8 (gg (gg m 1 ⟨5,1,id,bl,data,nn,ks⟩) 0 ⟨5,1,id,bl,data,nn,ks⟩) 1 ⟨true,id,bl,data⟩:=by unfold bU kL;rw[hr,hu];rfl
      rw[this];exact aav m c d l id bl data nn ks _ _ hl hr hu hb hc k
theorem XC{N M:Nat}{m:Mm}(h:Mg N M m)(hN:N<=100000)(hc:m.count<1000000)(c d:Cl)(e:bg)(l:List Ou)(o:Ou)(ho:o.node=0\/o.node=1)(k:Nat):EO (k+3) 21 [.imp 0, .agg o.cs] [Sp.cs ⟨m,c,d,e,l⟩]=some ([],[Sp.cs ⟨bG e m o,c,d,e,l⟩]):=by
 obtain⟨kd,nd,id,er,data⟩:=o
 have no:mH m e ⟨kd,nd,id,er,data⟩=false->bG e m ⟨kd,nd,id,er,data⟩=m:=fun hi=>by unfold bG;rw[hi];rfl
 cases k1:kd==2 with
 |false=>
  rw[no (by unfold mH;rw[k1];rfl)]
  rcases ho with rfl|rfl
  ·exact Tl m c d e l kd id er data k1 k
  ·exact Tt m c d e l kd id er data k1 k
 |true=>
  cases k2:er==0 with
  |false=>
   rw[no (by unfold mH;rw[k1,k2];rfl)]
   rcases ho with rfl|rfl
   ·exact Tm m c d e l kd id er data k2 k
   ·exact Tu m c d e l kd id er data k2 k
  |true=>
   cases k3:e.ae==4 with
   |true=>
    rw[no (by unfold mH;rw[k1,k2,k3];rfl)]
    rcases ho with rfl|rfl
    ·exact Tn m c d e l kd id er data k3 k
    ·exact Tv m c d e l kd id er data k3 k
   |false=>
    obtain rfl:kd=2:=eq_of_beq k1
    obtain rfl:er=0:=eq_of_beq k2
    rcases ho with rfl|rfl
    ·cases k4:m.w0.on with
     |false=>
      rw[no (by show(true&&true&&!(e.ae==4)&&m.w0.on&&_)=false;rw[k4];simp)]
      exact To m c d e l 2 id 0 data k4 k
     |true=>
      cases k5:m.w0.id==id with
      |false=>
       rw[no (by show(true&&true&&!(e.ae==4)&&m.w0.on&&(m.w0.id==id))=false;rw[k5];simp)]
       exact Tp m c d e l 2 id 0 data k5 k4 k
      |true=>
       have hi:mH m e ⟨2,0,id,0,data⟩=true:=by show(true&&true&&!(e.ae==4)&&m.w0.on&&(m.w0.id==id))=true;rw[k3,k4,k5];rfl
       obtain⟨g1,e1⟩:=A6 h hc 0
       have hA:=fun k=>aiE g1 hN c d e l m.w0 k
       have g2:=CJ g1 0 m.w0
       have hB:=fun k=>aiF g2 hN c d e l m.w0 k
       cases k9:e.ae==9 with
       |false=>
        have:bG e m ⟨2,0,id,0,data⟩=mG (jb m 0) 0 m.w0:=by unfold bG;rw[hi,k9];rfl
        rw[this];exact Tq m c d e l id data _ k3 k4 k5 hA k9 k
       |true=>
        cases kn:e.node==0 with
        |false=>
         have:bG e m ⟨2,0,id,0,data⟩=mG (jb m 0) 0 m.w0:=by unfold bG;rw[hi,k9,kn];rfl
         rw[this];exact Tr m c d e l id data _ k3 k4 k5 hA kn k
        |true=>
         have:bG e m ⟨2,0,id,0,data⟩=mG (mG (jb m 0) 0 m.w0) 1 m.w0:=by unfold bG;rw[hi,k9,kn];rfl
         rw[this];exact Ts m c d e l id data _ k3 k4 k5 hA _ k9 kn hB k
    ·cases k4:m.w1.on with
     |false=>
      rw[no (by show(true&&true&&!(e.ae==4)&&m.w1.on&&_)=false;rw[k4];simp)]
      exact Tw m c d e l 2 id 0 data k4 k
     |true=>
      cases k5:m.w1.id==id with
      |false=>
       rw[no (by show(true&&true&&!(e.ae==4)&&m.w1.on&&(m.w1.id==id))=false;rw[k5];simp)]
       exact Tx m c d e l 2 id 0 data k5 k4 k
      |true=>
       have hi:mH m e ⟨2,1,id,0,data⟩=true:=by show(true&&true&&!(e.ae==4)&&m.w1.on&&(m.w1.id==id))=true;rw[k3,k4,k5];rfl
       obtain⟨g1,e1⟩:=A6 h hc 1
       have hA:=fun k=>aiF g1 hN c d e l m.w1 k
       have g2:=CJ g1 1 m.w1
       have hB:=fun k=>aiE g2 hN c d e l m.w1 k
       cases k9:e.ae==9 with
       |false=>
        have:bG e m ⟨2,1,id,0,data⟩=mG (jb m 1) 1 m.w1:=by unfold bG;rw[hi,k9];rfl
        rw[this];exact Ty m c d e l id data _ k3 k4 k5 hA k9 k
       |true=>
        cases kn:e.node==1 with
        |false=>
         have:bG e m ⟨2,1,id,0,data⟩=mG (jb m 1) 1 m.w1:=by unfold bG;rw[hi,k9,kn];rfl
         rw[this];exact Tz m c d e l id data _ k3 k4 k5 hA kn k
        |true=>
         have:bG e m ⟨2,1,id,0,data⟩=mG (mG (jb m 1) 1 m.w1) 0 m.w1:=by unfold bG;rw[hi,k9,kn];rfl
         rw[this];exact TA m c d e l id data _ k3 k4 k5 hA _ k9 kn hB k
def Sst(m:Mm)(c:Cl)(d:Cl)(e:bg)(l:List Ou)(c0:Int)(c1:Sp):St:=St.mk (hs 8 (T.k (K.v (V.fX 3 0))::T.bf::T.k (K.v (V.fX 4 0))::T.k (K.v (V.fX 5 0))::hs 15 (tc (sO l)::tc (ii (↑(l.length):Int))::tc (ii c0)::hs 37 []))) [(List.map V.c m.cs),List.map V.c c.cs,[V.c (ii e.ae),V.c (ii e.node),V.c (ii e.id),V.c (ii e.block),V.c (st e.data),V.c (u e.n),V.c (sB e.aU)],List.map V.c d.cs,[vE,vE,vE,vE,vE,vE,vE,vE,vE,vE,vE,vE,vF,vF,vF,vF,vF,V.c (ii 0),V.c (ii 0),V.c (st ⟨#[]⟩),vF,V.c (ii 0),V.c (ii 0),V.c (st ⟨#[]⟩),V.c (ii 0),V.c (ii 0)],List.map V.c c1.cs] []
theorem aiG(m:Mm)(c:Cl)(d:Cl)(e:bg)(l:List Ou)(i:Nat)(x:Ou)(hx:l[i]?=some x)(s:Sp)(s':Sp)(hA:∀k,EO (k+7) 21 [A.imp 0,A.agg x.cs] [s.cs]=some ([],[s'.cs]))(k:Nat)(z0:(gL i l.length)=true):bQ (EE (k+7)) (HH 11) NN (LB PP 11 5) 6 0 (Sst m c d e l (↑i:Int) s) (Sst m c d e l (wrap .i64 ((↑i:Int)+1)) s'):=
 nx (eb z0<|ep (rz i)<|ep (aT (f:=Ou.cs) hx)<|eg (G.fF i [ii x.ae,ii x.node,ii x.id,ii x.j2,st x.data])<|ec (hA k)<|e0)
def FQ(m:Mm)(c:Cl)(d:Cl)(e:bg)(l:List Ou)(i:Nat)(s:Sp):St:=St.mk (hs 8 (T.k (K.v (V.fX 3 0))::T.bf::T.k (K.v (V.fX 4 0))::T.k (K.v (V.fX 5 0))::hs 15 (tc (sO l)::tc (ii (↑(l.length):Int))::tc (ii (↑i:Int))::tc (bo (gL i l.length))::hs 36 []))) [(List.map V.c m.cs),List.map V.c c.cs,[V.c (ii e.ae),V.c (ii e.node),V.c (ii e.id),V.c (ii e.block),V.c (st e.data),V.c (u e.n),V.c (sB e.aU)],List.map V.c d.cs,[vE,vE,vE,vE,vE,vE,vE,vE,vE,vE,vE,vE,vF,vF,vF,vF,vF,V.c (ii 0),V.c (ii 0),V.c (st ⟨#[]⟩),vF,V.c (ii 0),V.c (ii 0),V.c (st ⟨#[]⟩),V.c (ii 0),V.c (ii 0)],(List.map V.c s.cs)] []
theorem aiH(m:Mm)(c:Cl)(d:Cl)(e:bg)(l:List Ou)(i:Nat)(s:Sp)(k:Nat)(z0:(gL i l.length)=false):dq (EE (k+7)) (HH 11) NN (LB PP 11 5) (Sst m c d e l (↑i:Int) s) (dJ.exit 0) (FQ m c d e l i s):=
 ou (eb z0<|e0)
def Cm(m:Mm)(c:Cl)(d:Cl)(e:bg)(c0:Int)(c1:Sp):St:=St.mk (hs 10 (T.k (K.v (V.fX 4 0))::T.k (K.v (V.fX 5 0))::hs 26 (T.k (K.agg (List.map V.c d.n0.cs++List.map V.c d.n1.cs))::tc (ii c0)::hs 27 []))) [(List.map V.c m.cs),List.map V.c c.cs,[V.c (ii e.ae),V.c (ii e.node),V.c (ii e.id),V.c (ii e.block),V.c (st e.data),V.c (u e.n),V.c (sB e.aU)],List.map V.c d.cs,[vE,vE,vE,vE,vE,vE,vE,vE,vE,vE,vE,vE,vF,vF,vF,vF,vF,V.c (ii 0),V.c (ii 0),V.c (st ⟨#[]⟩),vF,V.c (ii 0),V.c (ii 0),V.c (st ⟨#[]⟩),V.c (ii 0),V.c (ii 0)],List.map V.c c1.cs] []
theorem aax(m:Mm)(c:Cl)(d:Cl)(e:bg)(l:List Ou)(ms:Mm)(m2:Mm)(hr:d.n0.bL.on=true)(hu:d.n0.up=true)(hN:∀k,EO (k+7) 22 [A.imp 0,A.c (ii 0),A.agg d.n0.store.aj.cs] [(Sp.mk ms c d e l).cs]=some ([],[(Sp.mk m2 c d e l).cs]))(k:Nat):bQ (EE (k+7)) (HH 11) NN (LB PP 11 10) 6 0 (Cm m c d e 0 (Sp.mk ms c d e l)) (Cm m c d e 1 (Sp.mk m2 c d e l)):=
 nx (et<|cP<|en hr<|eb hu<|ec (hN k)<|e0)
theorem aay(m:Mm)(c:Cl)(d:Cl)(e:bg)(l:List Ou)(ms:Mm)(hr:d.n0.bL.on=true)(hu:d.n0.up=false)(k:Nat):bQ (EE (k+7)) (HH 11) NN (LB PP 11 10) 6 0 (Cm m c d e 0 (Sp.mk ms c d e l)) (Cm m c d e 1 (Sp.mk ms c d e l)):=
 nx (et<|cP<|en hr<|eb hu<|e0)
theorem aaz(m:Mm)(c:Cl)(d:Cl)(e:bg)(l:List Ou)(ms:Mm)(m2:Mm)(hr:d.n0.bL.on=false)(hu:d.n0.up=true)(hN:∀k,EO (k+7) 22 [A.imp 0,A.c (ii 0),A.agg d.n0.store.aj.cs] [(Sp.mk (({ms with w0:=iE}:Mm)) c d e l).cs]=some ([],[(Sp.mk m2 c d e l).cs]))(k:Nat):bQ (EE (k+7)) (HH 11) NN (LB PP 11 10) 6 0 (Cm m c d e 0 (Sp.mk ms c d e l)) (Cm m c d e 1 (Sp.mk m2 c d e l)):=
 nx (et<|cP<|en hr<|cP<|eb hu<|ec (hN k)<|e0)
theorem aaA(m:Mm)(c:Cl)(d:Cl)(e:bg)(l:List Ou)(ms:Mm)(hr:d.n0.bL.on=false)(hu:d.n0.up=false)(k:Nat):bQ (EE (k+7)) (HH 11) NN (LB PP 11 10) 6 0 (Cm m c d e 0 (Sp.mk ms c d e l)) (Cm m c d e 1 (Sp.mk (({ms with w0:=zw}:Mm)) c d e l)):=
 nx (et<|cP<|en hr<|cP<|eb hu<|e0)
theorem aaB(m:Mm)(c:Cl)(d:Cl)(e:bg)(l:List Ou)(ms:Mm)(m2:Mm)(hr:d.n1.bL.on=true)(hu:d.n1.up=true)(hN:∀k,EO (k+7) 22 [A.imp 0,A.c (ii 1),A.agg d.n1.store.aj.cs] [(Sp.mk ms c d e l).cs]=some ([],[(Sp.mk m2 c d e l).cs]))(k:Nat):bQ (EE (k+7)) (HH 11) NN (LB PP 11 10) 6 0 (Cm m c d e 1 (Sp.mk ms c d e l)) (Cm m c d e 2 (Sp.mk m2 c d e l)):=
 nx (et<|cQ<|en hr<|eb hu<|ec (hN k)<|e0)
theorem aaC(m:Mm)(c:Cl)(d:Cl)(e:bg)(l:List Ou)(ms:Mm)(hr:d.n1.bL.on=true)(hu:d.n1.up=false)(k:Nat):bQ (EE (k+7)) (HH 11) NN (LB PP 11 10) 6 0 (Cm m c d e 1 (Sp.mk ms c d e l)) (Cm m c d e 2 (Sp.mk ms c d e l)):=
 nx (et<|cQ<|en hr<|eb hu<|e0)
theorem aaD(m:Mm)(c:Cl)(d:Cl)(e:bg)(l:List Ou)(ms:Mm)(m2:Mm)(hr:d.n1.bL.on=false)(hu:d.n1.up=true)(hN:∀k,EO (k+7) 22 [A.imp 0,A.c (ii 1),A.agg d.n1.store.aj.cs] [(Sp.mk (({ms with w1:=iE}:Mm)) c d e l).cs]=some ([],[(Sp.mk m2 c d e l).cs]))(k:Nat):bQ (EE (k+7)) (HH 11) NN (LB PP 11 10) 6 0 (Cm m c d e 1 (Sp.mk ms c d e l)) (Cm m c d e 2 (Sp.mk m2 c d e l)):=
 nx (et<|cQ<|en hr<|cQ<|eb hu<|ec (hN k)<|e0)
theorem aaE(m:Mm)(c:Cl)(d:Cl)(e:bg)(l:List Ou)(ms:Mm)(hr:d.n1.bL.on=false)(hu:d.n1.up=false)(k:Nat):bQ (EE (k+7)) (HH 11) NN (LB PP 11 10) 6 0 (Cm m c d e 1 (Sp.mk ms c d e l)) (Cm m c d e 2 (Sp.mk (({ms with w1:=zw}:Mm)) c d e l)):=
 nx (et<|cQ<|en hr<|cQ<|eb hu<|e0)
def FR(m:Mm)(c:Cl)(d:Cl)(e:bg)(s:Sp):St:=St.mk (hs 10 (T.k (K.v (V.fX 4 0))::T.k (K.v (V.fX 5 0))::hs 26 (T.k (K.agg (List.map V.c d.n0.cs++List.map V.c d.n1.cs))::tc (ii 2)::tc (bo false)::hs 26 []))) [(List.map V.c m.cs),List.map V.c c.cs,[V.c (ii e.ae),V.c (ii e.node),V.c (ii e.id),V.c (ii e.block),V.c (st e.data),V.c (u e.n),V.c (sB e.aU)],List.map V.c d.cs,[vE,vE,vE,vE,vE,vE,vE,vE,vE,vE,vE,vE,vF,vF,vF,vF,vF,V.c (ii 0),V.c (ii 0),V.c (st ⟨#[]⟩),vF,V.c (ii 0),V.c (ii 0),V.c (st ⟨#[]⟩),V.c (ii 0),V.c (ii 0)],(List.map V.c s.cs)] []
theorem aiI(m:Mm)(c:Cl)(d:Cl)(e:bg)(s:Sp)(k:Nat):dq (EE (k+7)) (HH 11) NN (LB PP 11 10) (Cm m c d e 2 s) (dJ.exit 2) (FR m c d e s):=
 ou (ef<|e0)
theorem aiJ(m:Mm)(c:Cl)(d:Cl)(e:bg)(l:List Ou)(s1:Sp)(s2:Sp)(s3:Sp)(s4:Sp)(hS:∀k,EO (k+7) 19 [A.imp 0] [(Sp.mk m c d e l).cs]=some ([],[s1.cs]))(hW:∀k,EO (k+7) 20 [A.imp 0] [s1.cs]=some ([],[s2.cs]))(hL:∀k,bT (EE (k+7)) (HH 11) NN (LB PP 11 5) (Sst m c d e l 0 s2) (dJ.exit 0) (FQ m c d e l l.length s3))(hM:∀k,bT (EE (k+7)) (HH 11) NN (LB PP 11 10) (Cm m c d e 0 s3) (dJ.exit 2) (FR m c d e s4))(k:Nat):EO (k+8) 11 [A.agg m.cs,A.agg c.cs,A.agg e.cs,A.agg d.cs,A.c (sO l)] []=some ([au.agg s4.m.cs],[]):=by
 exact rt (ec (hS k)<|ec (hW k)<|ep (aG (Ou.cs) (l))<|eg (G.len l.length)<|eg (G.loop (dJ.exit 0) (FQ m c d e l l.length s3))<|ep (hL k)<|eg (G.loop (dJ.exit 2) (FR m c d e s4))<|ep (hM k)<|e0) (rs:=[au.agg s4.m.cs]) rfl
theorem ML(m:Mm)(n:Nd):(e_ m n).n0=m.n0/\(e_ m n).n1=m.n1:=by unfold e_;cases n.bL.on<;>exact⟨rfl,rfl⟩
theorem TB(m:Mm)(b:Su):(jU m b).n1=m.n1:=by unfold jU;cases b.bp<;>cases m.h0<;>rfl
theorem aaF(m:Mm)(n:Nd):(oA m n).n1=m.n1:=by
 unfold oA
 exact az (p:=fun(x:Mm)=>x.n1=m.n1) ((TB _ _).trans (ML m n).2) (ML m n).2
theorem aiK{N M:Nat}(m:Mm)(c d:Cl)(e:bg)(l:List Ou)(m0:Mm)(h:Mg N M m0)(hN:N<=100000)(hc:m0.count+l.length<1000000)(hn:∀o∈l,o.node=0\/o.node=1)(k:Nat):
 bT (EE (k+7)) (HH 11) NN (LB PP 11 5) (Sst m c d e l 0 ⟨m0,c,d,e,l⟩) (.exit 0) (FQ m c d e l l.length ⟨l.foldl (bG e) m0,c,d,e,l⟩):=by
 have dK:l.length<=1000000:=by have:=h.c;omega
 refine ke (E:=EE (k+7)) (H:=HH 11) (n:=NN) (b:=LB PP 11 5) (s0:=Sst m c d e l 0 ⟨m0,c,d,e,l⟩) (fun(s:Mm) (i:Nat)=>Sst m c d e l (i:Nat) ⟨s,c,d,e,l⟩) (fun i s=>Mg N M s/\s.count<=m0.count+i) l (bG e) m0 (nv:=6) (nt:=0) (e:= .exit 0) (t:=fun s=>FQ m c d e l l.length ⟨s,c,d,e,l⟩) rfl (by kernel_rfl) (by kernel_rfl) ⟨h,by simp⟩ (fun s i x hx hp=> ?_) (fun _=>aiH m c d e l _ _ k Gf) (by unfold NN;omega)
 obtain⟨hg,mv⟩:=hp
 have fO:=gJ hx
 have ho:=hn x (jD hx)
 have hw:=p6 hx (by omega)
 have hm:=E3 hg (by omega) e x
 refine⟨?_,hm.g,by have:=hm.c2;omega⟩
 have:=aiG m c d e l i x hx ⟨s,c,d,e,l⟩ ⟨bG e s x,c,d,e,l⟩ (fun k=>XC hg hN (by omega) c d e l x ho (k+4)) k (sM hx)
 rwa[hw] at this
def upG(d:Cl)(s:Mm)(i:Nat):Mm:=if i=0 then oA s d.n0 else qU s d.n1
theorem aiL(m:Mm)(c d:Cl)(e:bg)(l:List Ou)(m0:Mm)(h0:m0.n0.aB.length<=1000000)(h1:m0.n1.aB.length<=1000000)(k:Nat):
 bT (EE (k+7)) (HH 11) NN (LB PP 11 10) (Cm m c d e 0 ⟨m0,c,d,e,l⟩) (.exit 2) (FR m c d e ⟨qU (oA m0 d.n0) d.n1,c,d,e,l⟩):=by
 refine ke (E:=EE (k+7)) (H:=HH 11) (n:=NN) (b:=LB PP 11 10) (s0:=Cm m c d e 0 ⟨m0,c,d,e,l⟩) (fun(s:Mm) (i:Nat)=>Cm m c d e (i:Nat) ⟨s,c,d,e,l⟩) (fun i s=>(i=0->s.n0.aB.length<=1000000)/\(i<=1->s.n1.aB.length<=1000000)) [0,1] (upG d) m0 (nv:=6) (nt:=0) (e:= .exit 2) (t:=fun s=>FR m c d e ⟨s,c,d,e,l⟩) rfl (by kernel_rfl) (by kernel_rfl) ⟨fun _=>h0,fun _=>h1⟩ (fun s i x hx hp=> ?_) (fun _=>aiI m c d e _ k) (by unfold NN;decide)
 match i,hx with
 |0,hx=>
  obtain rfl:x=0:=by simpa using hx.symm
  have hl:=hp.1 rfl
  have hb:=hp.2 (by omega)
  refine⟨?_,fun h=>absurd h (by simp),fun _=>by show(oA s d.n0).n1.aB.length<=_;rw[aaF];exact hb⟩
  show bQ _ _ _ _ _ _ (Cm m c d e 0 ⟨s,c,d,e,l⟩) (Cm m c d e 1 ⟨oA s d.n0,c,d,e,l⟩)
  cases hr:d.n0.bL.on with
  |true=>
   have e1:e_ s d.n0=s:=by unfold e_;rw[hr];rfl
   cases hu:d.n0.up with
   |true=>
    have:oA s d.n0=jU s d.n0.store.aj:=by unfold oA;rw[hu,e1];rfl
    rw[this]
    exact aax m c d e l s _ hr hu (fun k=>Xz s c d e l d.n0.store.aj hl (k+4)) k
   |false=>
    have:oA s d.n0=s:=by unfold oA;rw[hu,e1];rfl
    rw[this]
    exact aay m c d e l s hr hu k
  |false=>
   have e1:e_ s d.n0={s with w0:=iE}:=by unfold e_;rw[hr];rfl
   cases hu:d.n0.up with
   |true=>
    have:oA s d.n0=jU {s with w0:=iE} d.n0.store.aj:=by unfold oA;rw[hu,e1];rfl
    rw[this]
    exact aaz m c d e l s _ hr hu (fun k=>Xz {s with w0:=iE} c d e l d.n0.store.aj hl (k+4)) k
   |false=>
    have:oA s d.n0={s with w0:=iE}:=by unfold oA;rw[hu,e1];rfl
    rw[this]
    exact aaA m c d e l s hr hu k
 |1,hx=>
  obtain rfl:x=1:=by simpa using hx.symm
  have hl:=hp.2 (by omega)
  refine⟨?_,fun h=>absurd h (by simp),fun h=>absurd h (by omega)⟩
  show bQ _ _ _ _ _ _ (Cm m c d e 1 ⟨s,c,d,e,l⟩) (Cm m c d e 2 ⟨qU s d.n1,c,d,e,l⟩)
  cases hr:d.n1.bL.on with
  |true=>
   have e1:fV s d.n1=s:=by unfold fV;rw[hr];rfl
   cases hu:d.n1.up with
   |true=>
    have:qU s d.n1=kM s d.n1.store.aj:=by unfold qU;rw[hu,e1];rfl
    rw[this]
    exact aaB m c d e l s _ hr hu (fun k=>XB s c d e l d.n1.store.aj hl (k+4)) k
   |false=>
    have:qU s d.n1=s:=by unfold qU;rw[hu,e1];rfl
    rw[this]
    exact aaC m c d e l s hr hu k
  |false=>
   have e1:fV s d.n1={s with w1:=iE}:=by unfold fV;rw[hr];rfl
   cases hu:d.n1.up with
   |true=>
    have:qU s d.n1=kM {s with w1:=iE} d.n1.store.aj:=by unfold qU;rw[hu,e1];rfl
    rw[this]
    exact aaD m c d e l s _ hr hu (fun k=>XB {s with w1:=iE} c d e l d.n1.store.aj hl (k+4)) k
   |false=>
    have:qU s d.n1={s with w1:=iE}:=by unfold qU;rw[hu,e1];rfl
    rw[this]
    exact aaE m c d e l s hr hu k
 |i+2,hx=>exact absurd hx (by simp)
theorem XD{N M:Nat}{m:Mm}(h:Mg N M m)(hN:N<=100000)(hM:M+2<=100000)(c d:Cl)(e:bg)(l:List Ou)(hc:m.count+l.length<1000000)(hn:∀o∈l,o.node=0\/o.node=1)(k:Nat):
 EO (k+8) 11 [.agg m.cs, .agg c.cs, .agg e.cs, .agg d.cs, .c (.slice 5 (l.map Ou.cs))] []=some ([.agg (kh m c e d l).cs],[]):=by
 have dK:l.length<=1000000:=by have:=h.c;omega
 obtain⟨g1,_⟩:=yo h c
 have g2:=Ho g1 c e l
 obtain⟨n1,_⟩:=LT (bW m c) c e l
 have Kf:(bU (bW m c) c e l).count+l.length<1000000:=by rw[n1];exact hc
 have g3:=yl e l g2 Kf
 exact aiJ m c d e l ⟨bW m c,c,d,e,l⟩ ⟨bU (bW m c) c e l,c,d,e,l⟩ ⟨l.foldl (bG e) (bU (bW m c) c e l),c,d,e,l⟩ ⟨kh m c e d l,c,d,e,l⟩
  (fun k=>Xx m c d e l (k+6)) (fun k=>aaw g1 hN (by omega) c d e l dK (k+1)) (fun k=>aiK m c d e l _ g2 hN Kf hn k) (fun k=>aiL m c d e l _ (by rw[g3.g.v0.l];omega) (by rw[g3.g.v1.l];omega) k) k
abbrev XE(l:List ByteArray):List C:=[.slice 1 (l.map eS), .slice 1 (List.replicate l.length [.slice 1 []]), .slice 1 (List.replicate l.length [ii 0])]
theorem MM(l:List ByteArray):XE l=(uJ l).cs:=by
 have e1:(List.replicate l.length ([]:List ByteArray)).map eL=List.replicate l.length [.slice 1 []]:=by rw[List.map_replicate];rfl
 have e2:(List.replicate l.length (0:Int)).map eI=List.replicate l.length [ii 0]:=by rw[List.map_replicate]
 show _=[C.slice 1 (l.map eS), .slice 1 ((List.replicate l.length ([]:List ByteArray)).map eL), .slice 1 ((List.replicate l.length (0:Int)).map eI)]
 rw[e1,e2]
theorem aiM(c:Cl)(l0:List ByteArray)(l1:List ByteArray)(er0:Int)(er1:Int)(hA:∀k,EO (k+6) 17 [A.agg c.n0.store.ao.cs] []=some ([au.top 1 (List.map eS l0),au.c (ii er0)],[]))(hB:∀k,EO (k+6) 17 [A.agg c.n1.store.ao.cs] []=some ([au.top 1 (List.map eS l1),au.c (ii er1)],[]))(b0:l0.length<=1000000)(b1:l1.length<=1000000)(k:Nat):EO (k+7) 9 [A.agg c.cs] []=some ([au.agg (XE l0++(XE l1++(N8.cs++(N8.cs++([bo false,bo false,bo false,bo false]++(iE.cs++(iE.cs++[ii 0,ii 0])))))))],[]):=by
 exact rt (eg (G.un)<|et<|cP<|ec (hA k)<|ep (aG (eS) (l0))<|eg (G.len l0.length)<|ep (rfl:(↑(l0.length):Int)=(↑(l0.length):Int))<|ep (rfl:(↑(l0.length):Int)=(↑(l0.length):Int))<|ep (show l0.length<=1073741824 from by omega)<|eg (G.at l0.length)<|ep (aG (eS) (l0))<|eg (G.len l0.length)<|ep (rfl:(↑(l0.length):Int)=(↑(l0.length):Int))<|ep (rfl:(↑(l0.length):Int)=(↑(l0.length):Int))<|ep (show l0.length<=1073741824 from by omega)<|eg (G.at l0.length)<|cP<|et<|cQ<|ec (hB k)<|ep (aG (eS) (l1))<|eg (G.len l1.length)<|ep (rfl:(↑(l1.length):Int)=(↑(l1.length):Int))<|ep (rfl:(↑(l1.length):Int)=(↑(l1.length):Int))<|ep (show l1.length<=1073741824 from by omega)<|eg (G.at l1.length)<|ep (aG (eS) (l1))<|eg (G.len l1.length)<|ep (rfl:(↑(l1.length):Int)=(↑(l1.length):Int))<|ep (rfl:(↑(l1.length):Int)=(↑(l1.length):Int))<|ep (show l1.length<=1073741824 from by omega)<|eg (G.at l1.length)<|cQ<|ef<|e0) (rs:=[au.agg [sS l0,C.slice 1 (List.replicate l0.length (List.reverse [C.slice (Program.cellsOf (lW.P (tZ PP (EO (k+6)) GL HH NN 6)) 9) []])),C.slice 1 (List.replicate l0.length (List.reverse [ii 0])),sS l1,C.slice 1 (List.replicate l1.length (List.reverse [C.slice (Program.cellsOf (lW.P (tZ PP (EO (k+6)) GL HH NN 6)) 9) []])),C.slice 1 (List.replicate l1.length (List.reverse [ii 0])),C.slice 1 [],C.slice 1 [],C.slice 1 [],C.slice 1 [],C.slice 1 [],C.slice 1 [],bo false,bo false,bo false,bo false,bo false,ii 0,ii 0,st ⟨#[]⟩,bo false,ii 0,ii 0,st ⟨#[]⟩,ii 0,ii 0]]) rfl
theorem XF(c:Cl)(s0:c.n0.store.ao.ax.length<=100000)(s1:c.n1.store.ao.ax.length<=100000)(c0:c.n0.store.ao.ar.length<=1000000)(c1:c.n1.store.ao.ar.length<=1000000)(k:Nat):EO (k+7) 9 [.agg c.cs] []=some ([.agg (wX c).cs],[]):=by
 have dK:∀d:Dk,(ld d).1.length<=d.ax.length:=fun d=>by
  unfold ld
  split
  ·exact dh _
  ·simp
 have:=aiM c (ld c.n0.store.ao).1 (ld c.n1.store.ao).1 _ _ (fun k=>abA c.n0.store.ao (by omega) c0 (k+1)) (fun k=>abA c.n1.store.ao (by omega) c1 (k+1)) (by have:=dK c.n0.store.ao;omega) (by have:=dK c.n1.store.ao;omega) k
 rw[this,MM,MM]
 rfl
theorem aez(a:Mm)(b:Mm)(s0:Bool)(s1:Bool)(hA:∀k,EO (k+7) 24 [A.c (C.slice 3 [a.n0.cs,a.n1.cs]),A.c (C.slice 3 [b.n0.cs,b.n1.cs]),A.c (C.fn 25 [])] []=some ([au.c (bo s0)],[]))(q:s0=false)(k:Nat):EO (k+8) 13 [A.agg a.cs,A.agg b.cs] []=some ([au.c (bo false)],[]):=by
 exact rt (ec (hA k)<|hO q<|fP<|fP<|fP<|fP<|fP<|e0) (rs:=[au.c (bo false)]) rfl
theorem aeA(a:Mm)(b:Mm)(s0:Bool)(s1:Bool)(hA:∀k,EO (k+7) 24 [A.c (C.slice 3 [a.n0.cs,a.n1.cs]),A.c (C.slice 3 [b.n0.cs,b.n1.cs]),A.c (C.fn 25 [])] []=some ([au.c (bo s0)],[]))(hB:∀k,EO (k+7) 24 [A.c (C.slice 3 [a.s0.cs,a.s1.cs]),A.c (C.slice 3 [b.s0.cs,b.s1.cs]),A.c (C.fn 25 [])] []=some ([au.c (bo s1)],[]))(q:s0=true)(q1:s1=true)(e0':(a.h0==b.h0)=true)(e1':(a.h1==b.h1)=true)(e2':(a.d0==b.d0)=true)(e3':(a.d1==b.d1)=true)(f0:(a.w0.on==b.w0.on)=true)(f1:(a.w0.id==b.w0.id)=true)(f2:(a.w0.block==b.w0.block)=true)(f3:(a.w0.data==b.w0.data)=true)(g0:(a.w1.on==b.w1.on)=true)(g1:(a.w1.id==b.w1.id)=true)(g2:(a.w1.block==b.w1.block)=true)(g3:(a.w1.data==b.w1.data)=true)(u0:(a.count==b.count)=true)(u1:(a.cg==b.cg)=true)(k:Nat):EO (k+8) 13 [A.agg a.cs,A.agg b.cs] []=some ([au.c (bo true)],[]):=by
 rcases be (a.h0==b.h0&&(a.h1==b.h1&&true)) with z0|z0
 ·rcases be (a.d0==b.d0&&(a.d1==b.d1&&true)) with z1|z1
  ·rcases be (a.w0.on==b.w0.on&&(a.w0.id==b.w0.id&&(a.w0.block==b.w0.block&&(a.w0.data==b.w0.data&&true)))&&(a.w1.on==b.w1.on&&(a.w1.id==b.w1.id&&(a.w1.block==b.w1.block&&(a.w1.data==b.w1.data&&true)))&&true)) with z2|z2
   ·exact rt (ec (hA k)<|sy q<|ec (hB k)<|eb q<|hO q1<|hO z0<|hO z1<|hO z2<|hO u0<|e0) (rs:=[au.c (bo (a.cg==b.cg))]) (by first|(simp only[z0,z1,z2,vq]<;>rfl)|(simp_all only[vq]<;>rfl))
   ·exact rt (ec (hA k)<|sy q<|ec (hB k)<|eb q<|hO q1<|hO z0<|hO z1<|hO z2<|fP<|e0) (rs:=[au.c (bo false)]) (by first|(simp only[z0,z1,z2,vq]<;>rfl)|(simp_all only[vq]<;>rfl))
  ·exact rt (ec (hA k)<|sy q<|ec (hB k)<|eb q<|hO q1<|hO z0<|hO z1<|fP<|fP<|e0) (rs:=[au.c (bo false)]) (by first|(simp only[z0,z1,vq]<;>rfl)|(simp_all only[vq]<;>rfl))
 ·exact rt (ec (hA k)<|sy q<|ec (hB k)<|eb q<|hO q1<|hO z0<|fP<|fP<|fP<|e0) (rs:=[au.c (bo false)]) (by first|(simp only[z0,vq]<;>rfl)|(simp_all only[vq]<;>rfl))
def XG(v:Vl)(n:Nd)(c0:Int):St:=St.mk (T.bf::T.bf::T.k (K.v (V.fX 0 0))::T.k (K.v (V.fX 1 0))::hs 7 (tc (ii n.store.aj.an)::tc (ii c0)::hs 37 [])) [[V.c (sS v.ay),V.c (sL v.begun),V.c (sI v.aB)],(List.map V.c n.cs)] []
theorem aiN(v:Vl)(n:Nd)(i:Nat)(x:ByteArray)(hx:v.ay[i]?=some x)(hc:n.store.ao.ar.length<=1000000)(k:Nat)(z0:(decide ((↑i:Int)<n.store.aj.an))=true)(z1:((aK n.store.ao (↑i:Int)).2==0)=true)(z2:(j3 v (↑i:Int))=true)(z3:((aK n.store.ao (↑i:Int)).1==x)=true):bQ (EE (k+6)) (HH 23) NN (LB PP 23 2) 2 0 (XG v n (↑i:Int)) (XG v n (wrap .i64 ((↑i:Int)+1))):=
 nx (eb z0<|ec (JX n.store ((↑i:Int)) hc (k+1))<|ez z1<|ec (wb v ((↑i:Int)) (k+5))<|iA z1<|CD z2<|ep (rz i)<|ep (aT (f:=eS) hx)<|eg (G.fF i [st x])<|ez z2<|md z3<|iA z3<|en z2<|en z3<|en z2<|ef<|e0)
theorem aiO(v:Vl)(n:Nd)(i:Nat)(x:ByteArray)(y:List ByteArray)(hx:v.ay[i]?=some x)(hy:v.begun[i]?=some y)(hyl:y.length<=1000000)(hc:n.store.ao.ar.length<=1000000)(k:Nat)(z0:(decide ((↑i:Int)<n.store.aj.an))=true)(z1:((aK n.store.ao (↑i:Int)).2==0)=true)(z2:(j3 v (↑i:Int))=true)(z3:((aK n.store.ao (↑i:Int)).1==x)=false)(z4:(List.contains y (aK n.store.ao (↑i:Int)).1)=true):bQ (EE (k+6)) (HH 23) NN (LB PP 23 2) 2 0 (XG v n (↑i:Int)) (XG v n (wrap .i64 ((↑i:Int)+1))):=
 nx (eb z0<|ec (JX n.store ((↑i:Int)) hc (k+1))<|ez z1<|ec (wb v ((↑i:Int)) (k+5))<|iA z1<|CD z2<|ep (rz i)<|ep (aT (f:=eS) hx)<|eg (G.fF i [st x])<|ez z2<|eA z3<|ep (rz i)<|ep (aT (f:=eL) hy)<|eg (G.fF i [sS y])<|ez z3<|ec (FO y (aK n.store.ao (↑i:Int)).1 hyl (k+3))<|en z3<|en z2<|en z3<|en z2<|en z4<|e0)
def J6(v:Vl)(n:Nd)(i:Nat)(x:ByteArray)(y:List ByteArray):St:=St.mk [T.bf,T.bf,T.k (K.v (V.fX 0 0)),T.k (K.v (V.fX 1 0)),tc (bo false),tc (ii (↑i:Int)),tc (st (aK n.store.ao (↑i:Int)).1),tc (ii (aK n.store.ao (↑i:Int)).2),T.bf,T.bf,T.bf,tc (ii n.store.aj.an),tc (ii (↑i:Int)),tc (bo (decide ((↑i:Int)<n.store.aj.an))),tc (ii (↑i:Int)),T.Kk [K.v (V.c (st (aK n.store.ao (↑i:Int)).1)),K.v (V.c (ii (aK n.store.ao (↑i:Int)).2))],T.k (K.v (V.fX 1 2)),T.k (K.agg [V.c (sS n.store.ao.ax),V.c (sW n.store.ao.ar),V.c (ii n.store.ao.kU),V.c (bo n.store.ao.gN),V.c (ii n.store.aj.an),V.c (u n.store.aj.v.bH),V.c (u n.store.aj.v.i4),V.c (u n.store.aj.v.o0),V.c (u n.store.aj.v.o1),V.c (bo n.store.aj.bp),V.c (bo n.store.aj.cH),V.c (bo n.store.aj.dg),V.c (w4 (mi n.store.cr))]),tc (ii (↑i:Int)),T.Kk [K.v (V.c (st (aK n.store.ao (↑i:Int)).1)),K.v (V.c (ii (aK n.store.ao (↑i:Int)).2))],tc (st (aK n.store.ao (↑i:Int)).1),tc (ii (aK n.store.ao (↑i:Int)).2),tc (ii (aK n.store.ao (↑i:Int)).2),tc (bo ((aK n.store.ao (↑i:Int)).2 !=0)),tc (bo ((aK n.store.ao (↑i:Int)).2 !=0)),T.k (K.agg [V.c (sS v.ay),V.c (sL v.begun),V.c (sI v.aB)]),tc (ii (↑i:Int)),tc (bo (j3 v (↑i:Int))),tc (bo !j3 v (↑i:Int)),tc (bo !j3 v (↑i:Int)),tc (bo !j3 v (↑i:Int)),tc (st (aK n.store.ao (↑i:Int)).1),T.k (K.v (V.fX 0 0)),tc (sS v.ay),tc (ii (↑i:Int)),tc (C.fJ [st x]),tc (st x),tc (bo !(aK n.store.ao (↑i:Int)).1==x),tc (bo !(aK n.store.ao (↑i:Int)).1==x),T.k (K.v (V.fX 0 1)),tc (sL v.begun),tc (ii (↑i:Int)),tc (C.fJ [sS y]),tc (sS y),tc (st (aK n.store.ao (↑i:Int)).1),tc (bo (List.contains y (aK n.store.ao (↑i:Int)).1)),tc (bo !List.contains y (aK n.store.ao (↑i:Int)).1),tc (bo !List.contains y (aK n.store.ao (↑i:Int)).1),tc (bo !List.contains y (aK n.store.ao (↑i:Int)).1),T.bf] [[V.c (sS v.ay),V.c (sL v.begun),V.c (sI v.aB)],(List.map V.c n.cs)] []
theorem aiP(v:Vl)(n:Nd)(i:Nat)(x:ByteArray)(y:List ByteArray)(hx:v.ay[i]?=some x)(hy:v.begun[i]?=some y)(hyl:y.length<=1000000)(hc:n.store.ao.ar.length<=1000000)(k:Nat)(z0:(decide ((↑i:Int)<n.store.aj.an))=true)(z1:((aK n.store.ao (↑i:Int)).2==0)=true)(z2:(j3 v (↑i:Int))=true)(z3:((aK n.store.ao (↑i:Int)).1==x)=false)(z4:(List.contains y (aK n.store.ao (↑i:Int)).1)=false):dq (EE (k+6)) (HH 23) NN (LB PP 23 2) (XG v n (↑i:Int)) (dJ.ret) (J6 v n i x y):=
 ou (eb z0<|ec (JX n.store ((↑i:Int)) hc (k+1))<|ez z1<|ec (wb v ((↑i:Int)) (k+5))<|iA z1<|CD z2<|ep (rz i)<|ep (aT (f:=eS) hx)<|eg (G.fF i [st x])<|ez z2<|eA z3<|ep (rz i)<|ep (aT (f:=eL) hy)<|eg (G.fF i [sS y])<|ez z3<|ec (FO y (aK n.store.ao (↑i:Int)).1 hyl (k+3))<|en z3<|en z2<|en z3<|en z2<|en z4<|e0)
def J7(v:Vl)(n:Nd)(i:Nat):St:=St.mk (T.bf::T.bf::T.k (K.v (V.fX 0 0))::T.k (K.v (V.fX 1 0))::tc (bo false)::tc (ii (↑i:Int))::tc (st (aK n.store.ao (↑i:Int)).1)::tc (ii (aK n.store.ao (↑i:Int)).2)::T.bf::T.bf::T.bf::tc (ii n.store.aj.an)::tc (ii (↑i:Int))::tc (bo (decide ((↑i:Int)<n.store.aj.an)))::tc (ii (↑i:Int))::T.Kk [K.v (V.c (st (aK n.store.ao (↑i:Int)).1)),K.v (V.c (ii (aK n.store.ao (↑i:Int)).2))]::T.k (K.v (V.fX 1 2))::T.k (K.agg [V.c (sS n.store.ao.ax),V.c (sW n.store.ao.ar),V.c (ii n.store.ao.kU),V.c (bo n.store.ao.gN),V.c (ii n.store.aj.an),V.c (u n.store.aj.v.bH),V.c (u n.store.aj.v.i4),V.c (u n.store.aj.v.o0),V.c (u n.store.aj.v.o1),V.c (bo n.store.aj.bp),V.c (bo n.store.aj.cH),V.c (bo n.store.aj.dg),V.c (w4 (mi n.store.cr))])::tc (ii (↑i:Int))::T.Kk [K.v (V.c (st (aK n.store.ao (↑i:Int)).1)),K.v (V.c (ii (aK n.store.ao (↑i:Int)).2))]::tc (st (aK n.store.ao (↑i:Int)).1)::tc (ii (aK n.store.ao (↑i:Int)).2)::tc (ii (aK n.store.ao (↑i:Int)).2)::tc (bo ((aK n.store.ao (↑i:Int)).2 !=0))::tc (bo ((aK n.store.ao (↑i:Int)).2 !=0))::ks 4 (tc (bo true)::tc (bo true)::ks 17 [tc (bo true),T.bf])) [[V.c (sS v.ay),V.c (sL v.begun),V.c (sI v.aB)],(List.map V.c n.cs)] []
theorem aiQ(v:Vl)(n:Nd)(i:Nat)(hc:n.store.ao.ar.length<=1000000)(k:Nat)(z0:(decide ((↑i:Int)<n.store.aj.an))=true)(z1:((aK n.store.ao (↑i:Int)).2==0)=false):dq (EE (k+6)) (HH 23) NN (LB PP 23 2) (XG v n (↑i:Int)) (dJ.ret) (J7 v n i):=
 ou (eb z0<|ec (JX n.store ((↑i:Int)) hc (k+1))<|CD z1<|k_<|RD<|e0)
def J8(v:Vl)(n:Nd)(i:Nat):St:=St.mk (T.bf::T.bf::T.k (K.v (V.fX 0 0))::T.k (K.v (V.fX 1 0))::hs 7 (tc (ii n.store.aj.an)::tc (ii (↑i:Int))::tc (bo (decide ((↑i:Int)<n.store.aj.an)))::hs 36 [])) [[V.c (sS v.ay),V.c (sL v.begun),V.c (sI v.aB)],(List.map V.c n.cs)] []
theorem aiR(v:Vl)(n:Nd)(i:Nat)(k:Nat)(z0:(decide ((↑i:Int)<n.store.aj.an))=false):dq (EE (k+6)) (HH 23) NN (LB PP 23 2) (XG v n (↑i:Int)) (dJ.exit 0) (J8 v n i):=
 ou (eb z0<|e0)
theorem amr(v:Vl)(n:Nd)(i:Nat)(x:ByteArray)(y:List ByteArray)(hL:∀k,bT (EE (k+6)) (HH 23) NN (LB PP 23 2) (XG v n 0) dJ.ret (J6 v n i x y))(k:Nat):EO (k+7) 23 [A.agg v.cs,A.agg n.cs] []=some ([au.c (bo false)],[]):=by
 exact rt (eg (G.loop dJ.ret (J6 v n i x y))<|ep (hL k)<|e0) (rs:=[au.c (bo false)]) rfl
theorem ams(v:Vl)(n:Nd)(i:Nat)(hL:∀k,bT (EE (k+6)) (HH 23) NN (LB PP 23 2) (XG v n 0) dJ.ret (J7 v n i))(k:Nat):EO (k+7) 23 [A.agg v.cs,A.agg n.cs] []=some ([au.c (bo false)],[]):=by
 exact rt (eg (G.loop dJ.ret (J7 v n i))<|ep (hL k)<|e0) (rs:=[au.c (bo false)]) rfl
theorem amt(v:Vl)(n:Nd)(i:Nat)(hL:∀k,bT (EE (k+6)) (HH 23) NN (LB PP 23 2) (XG v n 0) (dJ.exit 0) (J8 v n i))(k:Nat):EO (k+7) 23 [A.agg v.cs,A.agg n.cs] []=some ([au.c (bo true)],[]):=by
 exact rt (eg (G.loop (dJ.exit 0) (J8 v n i))<|ep (hL k)<|e0) (rs:=[au.c (bo true)]) rfl
def aaG(v:Vl)(n:Nd)(b:Nat):Bool:=!((aK n.store.ao (b:Int)).2==0&&IV v b (aK n.store.ao (b:Int)).1)
theorem J9{N:Nat}{v:Vl}(hv:VL N v)(hN:N<=100000)(hw:∀x∈v.begun,x.length<=1000000)(n:Nd)(B:Nat)(hb:n.store.aj.an=(B:Int))(hB:B<=N)(hc:n.store.ao.ar.length<=1000000)(k:Nat):EO (k+7) 23 [.agg v.cs, .agg n.cs] []=some ([.c (bo (xu v n))],[]):=by
 have hf:xu v n=!((List.range B).any (aaG v n)):=by
  unfold xu
  rw[hb,At,List.all_eq_not_any_not]
  rfl
 rw[hf]
 have hx:∀q:Nat,q<B->v.ay[q]?=some (v.ay.getD q ⟨#[]⟩):=fun q hq=>by
  have:q<v.ay.length:=by rw[hv.a];omega
  rw[eX,cm this];rfl
 have hy:∀q:Nat,q<B->v.begun[q]?=some (v.begun.getD q []):=fun q hq=>by
  have:q<v.begun.length:=by rw[hv.b];omega
  rw[eX,cm this];rfl
 have hyl:∀q:Nat,q<B->(v.begun.getD q []).length<=1000000:=fun q hq=>hw _ (jD (hy q hq))
 have fO:∀q:Nat,q<B->decide ((q:Int)<n.store.aj.an)=true:=fun q hq=>cJ (by rw[hb];omega)
 have hvh:∀q:Nat,q<B->j3 v (q:Int)=true:=fun q hq=>by
  unfold j3
  rw[cY]
  exact⟨cJ (by omega),cJ (by rw[hv.a];omega)⟩
 have hbc:∀q:Nat,q<B->aaG v n q=!((aK n.store.ao (q:Int)).2==0&&((aK n.store.ao (q:Int)).1==v.ay.getD q ⟨#[]⟩||(v.begun.getD q []).contains (aK n.store.ao (q:Int)).1)):=fun q hq=>by
  unfold aaG IV
  have:decide (q<v.ay.length)=true:=cJ (by rw[hv.a];omega)
  rw[this,i6]
 rcases pA (E:=fun k=>EE (k+6)) (H:=HH 23) (n:=NN) (b:=LB PP 23 2) (fun j=>XG v n (j:Nat)) (List.range B) (aaG v n) (fun j q=>if((aK n.store.ao (q:Int)).2==0)=true then J6 v n q (v.ay.getD q ⟨#[]⟩) (v.begun.getD q []) else J7 v n q) (J8 v n B) (nv:=2) (nt:=0) (e:= .ret) (e':= .exit 0) (by kernel_rfl) (by kernel_rfl)
  (fun k j q hq hp=>by
    obtain⟨rfl,hj⟩:=oE hq
    rw[hbc q hj] at hp
    simp only[ni,cY] at hp
    obtain⟨p1,p2⟩:=hp
    have e64:=RA hj (show B<9223372036854775808 by omega)
    cases h3:(aK n.store.ao (q:Int)).1==v.ay.getD q ⟨#[]⟩ with
    |true=>
     have:=aiN v n q _ (hx q hj) hc k (fO q hj) p1 (hvh q hj) h3
     rwa[e64] at this
    |false=>
     rw[h3,rM] at p2
     have:=aiO v n q _ _ (hx q hj) (hy q hj) (hyl q hj) hc k (fO q hj) p1 (hvh q hj) h3 p2
     rwa[e64] at this)
  (fun k j q hq hp=>by
    obtain⟨rfl,hj⟩:=oE hq
    rw[hbc q hj] at hp
    cases h1:(aK n.store.ao (q:Int)).2==0 with
    |false=>
     rw[aR (by simp)]
     exact aiQ v n q hc k (fO q hj) h1
    |true=>
     rw[aP rfl]
     rw[h1,i6] at hp
     simp only[xz,eh] at hp
     exact aiP v n q _ _ (hx q hj) (hy q hj) (hyl q hj) hc k (fO q hj) h1 (hvh q hj) hp.1 hp.2)
  (fun k=>by rw[iM];exact aiR v n B k (fN (by rw[hb];omega))) (by rw[iM];unfold NN;omega) with⟨h1,h2⟩|⟨h1,j,q,hq,hp,hf,_,h2⟩
 ·rw[h1];exact amt v n _ h2 k
 ·rw[h1]
  by_cases h3:((aK n.store.ao (q:Int)).2==0)=true
  ·rw[aP h3] at h2
   exact amr v n q _ _ h2 k
  ·rw[aR h3] at h2
   exact ams v n q h2 k
theorem abC(m:Mm)(c:Cl)(f0:Bool)(f1:Bool)(hA:∀k,EO (k+7) 23 [A.agg m.n0.cs,A.agg c.n0.cs] []=some ([au.c (bo f0)],[]))(hB:∀k,EO (k+7) 23 [A.agg m.n1.cs,A.agg c.n1.cs] []=some ([au.c (bo f1)],[]))(k:Nat):EO (k+8) 12 [A.agg m.cs,A.agg c.cs] []=some ([au.c (bo ((!c.n0.up||c.n0.store.aj.bp||f0)&&(!c.n1.up||c.n1.store.aj.bp||f1)))],[]):=by
 rcases be c.n0.up with z0|z0
 ·rcases be c.n0.store.aj.bp with z1|z1
  ·rcases be c.n1.up with z2|z2
   ·rcases be c.n1.store.aj.bp with z3|z3
    ·exact rt (eg (G.un)<|et<|cP<|hO z0<|md z1<|iA z1<|ef<|et<|cQ<|hO z2<|md z3<|iA z3<|mw<|e0) (rs:=[au.c (bo true)]) (by first|(simp only[z0,z1,z2,z3,vq]<;>rfl)|(simp_all only[vq]<;>rfl))
    ·rcases be (f1) with z4|z4
     ·exact rt (eg (G.un)<|et<|cP<|hO z0<|md z1<|iA z1<|ef<|et<|cQ<|hO z2<|ez z3<|cQ<|ez z3<|ec (hB k)<|iA z3<|en z4<|ef<|e0) (rs:=[au.c (bo true)]) (by first|(simp only[z0,z1,z2,z3,z4,vq]<;>rfl)|(simp_all only[vq]<;>rfl))
     ·exact rt (eg (G.un)<|et<|cP<|hO z0<|md z1<|iA z1<|ef<|et<|cQ<|hO z2<|ez z3<|cQ<|ez z3<|ec (hB k)<|iA z3<|en z4<|e0) (rs:=[au.c (bo false)]) (by first|(simp only[z0,z1,z2,z3,z4,vq]<;>rfl)|(simp_all only[vq]<;>rfl))
   ·exact rt (eg (G.un)<|et<|cP<|hO z0<|md z1<|iA z1<|ef<|et<|cQ<|hO z2<|fP<|kT<|e0) (rs:=[au.c (bo true)]) (by first|(simp only[z0,z1,z2,vq]<;>rfl)|(simp_all only[vq]<;>rfl))
  ·rcases be (f0) with z2|z2
   ·rcases be c.n1.up with z3|z3
    ·rcases be c.n1.store.aj.bp with z4|z4
     ·exact rt (eg (G.un)<|et<|cP<|hO z0<|ez z1<|cP<|ez z1<|ec (hA k)<|iA z1<|en z2<|et<|cQ<|hO z3<|md z4<|iA z4<|mw<|e0) (rs:=[au.c (bo true)]) (by first|(simp only[z0,z1,z2,z3,z4,vq]<;>rfl)|(simp_all only[vq]<;>rfl))
     ·rcases be (f1) with z5|z5
      ·exact rt (eg (G.un)<|et<|cP<|hO z0<|ez z1<|cP<|ez z1<|ec (hA k)<|iA z1<|en z2<|et<|cQ<|hO z3<|ez z4<|cQ<|ez z4<|ec (hB k)<|iA z4<|en z5<|ef<|e0) (rs:=[au.c (bo true)]) (by first|(simp only[z0,z1,z2,z3,z4,z5,vq]<;>rfl)|(simp_all only[vq]<;>rfl))
      ·exact rt (eg (G.un)<|et<|cP<|hO z0<|ez z1<|cP<|ez z1<|ec (hA k)<|iA z1<|en z2<|et<|cQ<|hO z3<|ez z4<|cQ<|ez z4<|ec (hB k)<|iA z4<|en z5<|e0) (rs:=[au.c (bo false)]) (by first|(simp only[z0,z1,z2,z3,z4,z5,vq]<;>rfl)|(simp_all only[vq]<;>rfl))
    ·exact rt (eg (G.un)<|et<|cP<|hO z0<|ez z1<|cP<|ez z1<|ec (hA k)<|iA z1<|en z2<|et<|cQ<|hO z3<|fP<|kT<|e0) (rs:=[au.c (bo true)]) (by first|(simp only[z0,z1,z2,z3,vq]<;>rfl)|(simp_all only[vq]<;>rfl))
   ·exact rt (eg (G.un)<|et<|cP<|hO z0<|ez z1<|cP<|ez z1<|ec (hA k)<|iA z1<|en z2<|e0) (rs:=[au.c (bo false)]) (by first|(simp only[z0,z1,z2,vq]<;>rfl)|(simp_all only[vq]<;>rfl))
 ·rcases be c.n1.up with z1|z1
  ·rcases be c.n1.store.aj.bp with z2|z2
   ·exact rt (eg (G.un)<|et<|cP<|hO z0<|fP<|lE<|et<|cQ<|hO z1<|md z2<|iA z2<|mw<|e0) (rs:=[au.c (bo true)]) (by first|(simp only[z0,z1,z2,vq]<;>rfl)|(simp_all only[vq]<;>rfl))
   ·rcases be (f1) with z3|z3
    ·exact rt (eg (G.un)<|et<|cP<|hO z0<|fP<|lE<|et<|cQ<|hO z1<|ez z2<|cQ<|ez z2<|ec (hB k)<|iA z2<|en z3<|ef<|e0) (rs:=[au.c (bo true)]) (by first|(simp only[z0,z1,z2,z3,vq]<;>rfl)|(simp_all only[vq]<;>rfl))
    ·exact rt (eg (G.un)<|et<|cP<|hO z0<|fP<|lE<|et<|cQ<|hO z1<|ez z2<|cQ<|ez z2<|ec (hB k)<|iA z2<|en z3<|e0) (rs:=[au.c (bo false)]) (by first|(simp only[z0,z1,z2,z3,vq]<;>rfl)|(simp_all only[vq]<;>rfl))
  ·exact rt (eg (G.un)<|et<|cP<|hO z0<|fP<|lE<|et<|cQ<|hO z1<|fP<|kT<|e0) (rs:=[au.c (bo true)]) (by first|(simp only[z0,z1,vq]<;>rfl)|(simp_all only[vq]<;>rfl))
theorem XH(l:List bg)(m:Int)(hm:m<=1000000)(k:Nat):EO (k+2) 14 [.c (.slice 7 (l.map bg.cs)), .c (ii m)] []=some ([.c (bo (nQ l m))],[]):=by
 cases he:decide ((l.length:Int)>m) with
 |true=>
  unfold nQ
  rw[he]
  exact WY l m he k
 |false=>
  simp at he
  exact ZV l m (by omega) k
theorem Pn(l:List bg)(m:Int)(hm:m<=1000000)(k:Nat):EO (k+3) 6 [A.c (sE l),A.c (ii m)] []=some ([au.c (bo (nQ l m))],[]):=by
 exact rt (ec (XH l m hm k)<|e0) (rs:=[au.c (bo (nQ l m))]) rfl
theorem aaH(b:Int)(es:List (List C))(c:Cl)(hR:∀k,EO (k+17) 16 [A.c (CC b),A.c (C.slice 7 es)] []=some ([au.agg c.cs],[]))(k:Nat):EO (k+18) 8 [A.c (CC b),A.c (C.slice 7 es)] []=some ([au.agg c.cs],[]):=by
 exact rt (ec (hR k)<|e0) (rs:=[au.agg c.cs]) rfl
theorem aaI(b:Int)(c:Cl)(hR:∀k,EO (k+17) 16 [A.c (CC b),A.nil] []=some ([au.agg c.cs],[]))(k:Nat):EO (k+18) 8 [A.c (CC b),A.nil] []=some ([au.agg c.cs],[]):=by
 exact rt (ec (hR k)<|e0) (rs:=[au.agg c.cs]) rfl
theorem abD(c:Cl)(d:Cl)(e:bg)(o:List Ou)(hR:∀k,EO (k+14) 18 [A.agg c.cs,A.agg e.cs] []=some ([au.agg d.cs,rO o],[]))(k:Nat):EO (k+15) 10 [A.agg c.cs,A.agg e.cs] []=some ([au.agg d.cs,rO o],[]):=by
 exact rt (ec (hR k)<|jg ((List.map Ou.cs o).length)<|e0) (rs:=[au.agg d.cs,rO o]) rfl
theorem TC{l:List bg}{m:Int}(h:nQ l m=false):(l.length:Int)<=m:=by
 unfold nQ at h
 cases hq:decide ((l.length:Int)>m) with
 |true=>rw[hq] at h;cases h
 |false=>simp at hq;exact hq
theorem Pp{l:List bg}{m:Int}(h:nQ l m=false):∀e∈l,e.data.size<=300:=fun e he=>by
 unfold nQ at h
 cases hq:decide ((l.length:Int)>m) with
 |true=>rw[hq] at h;cases h
 |false=>
  rw[hq,aJ] at h
  have:=pf.1 h e he
  unfold zB at this
  simp at this
  omega
def XI:List bg:=[⟨1,0,0,0,⟨#[]⟩,0,[]⟩,⟨13,0,0,0,⟨#[]⟩,9,[]⟩]
def wrE:bg:=⟨5,0,4,1,⟨#[97,98,99,100,101,102,103,104]⟩,0,[]⟩
theorem aeC(c:Cl)(d:Cl)(m:Mm)(x:Mm)(o:List Ou)(xa:ByteArray)(ya:ByteArray)(xl:Int)(hR:∀k,EO (k+18) 8 [A.c (CC 1),A.c (C.slice 7 [[ii 1,ii 0,ii 0,ii 0,st ⟨#[]⟩,u 0,C.slice 1 []],[ii 13,ii 0,ii 0,ii 0,st ⟨#[]⟩,u 9,C.slice 1 []]])] []=some ([au.agg c.cs],[]))(hN:∀k,EO (k+18) 9 [A.agg c.cs] []=some ([au.agg m.cs],[]))(hD:∀k,EO (k+18) 10 [A.agg c.cs,A.agg [ii 5,ii 0,ii 4,ii 1,st (ByteArray.mk #[(97:UInt8),(98:UInt8),(99:UInt8),(100:UInt8),(101:UInt8),(102:UInt8),(103:UInt8),(104:UInt8)]),u 0,C.slice 1 []]] []=some ([au.agg d.cs,rO o],[]))(hS:∀k,EO (k+18) 11 [A.agg m.cs,A.agg c.cs,A.agg [ii 5,ii 0,ii 4,ii 1,st (ByteArray.mk #[(97:UInt8),(98:UInt8),(99:UInt8),(100:UInt8),(101:UInt8),(102:UInt8),(103:UInt8),(104:UInt8)]),u 0,C.slice 1 []],A.agg d.cs,A.c (sO o)] []=some ([au.agg x.cs],[]))(l0:((↑(m.n0.ay.length):Int)==2)=true)(l1:((↑(x.n0.ay.length):Int)==2)=true)(l2:((↑(x.n1.ay.length):Int)==2)=true)(l3:((↑(x.n0.aB.length):Int)==2)=true)(a0:x.n0.ay[1]?=some xa)(a1:x.n0.aB[1]?=some xl)(a2:x.n1.ay[1]?=some ya)(b0:(xa==ByteArray.mk #[(97:UInt8),(98:UInt8),(99:UInt8),(100:UInt8),(101:UInt8),(102:UInt8),(103:UInt8),(104:UInt8)])=true)(b1:(xl==1)=true)(b2:(ya==ByteArray.mk #[(97:UInt8),(98:UInt8),(99:UInt8),(100:UInt8),(101:UInt8),(102:UInt8),(103:UInt8),(104:UInt8)])=false)(b3:(x.count==1)=true)(b4:(x.cg==0)=true)(f1:∀k,EO (k+18) 12 [A.agg m.cs,A.agg c.cs] []=some ([au.c (bo true)],[]))(f2:∀k,EO (k+18) 12 [A.agg x.cs,A.agg d.cs] []=some ([au.c (bo true)],[]))(f3:∀k,EO (k+18) 12 [A.agg m.cs,A.agg d.cs] []=some ([au.c (bo false)],[]))(g1:∀k,EO (k+18) 13 [A.agg m.cs,A.agg m.cs] []=some ([au.c (bo true)],[]))(g2:∀k,EO (k+18) 13 [A.agg m.cs,A.agg x.cs] []=some ([au.c (bo false)],[]))(k:Nat):EO (k+19) 5 [] []=some ([au.c (bo true)],[]):=by
 exact rt (ec (hR k)<|ec (hN k)<|ec (hD k)<|ec (hS k)<|ep (aG (eS) m.n0.ay)<|eg (G.len m.n0.ay.length)<|CD l0<|ep (aG (eS) x.n0.ay)<|eg (G.len x.n0.ay.length)<|iA l0<|CD l1<|ep (aG (eS) x.n1.ay)<|eg (G.len x.n1.ay.length)<|iA l1<|CD l2<|ep (aG (eI) x.n0.aB)<|eg (G.len x.n0.aB.length)<|iA l2<|en l3<|ep (rfl:(1:Int)=(1:Int))<|ep (aT (f:=eS) a0)<|eg (G.fF 1 [st xa])<|sy b0<|ep (rfl:(1:Int)=(1:Int))<|ep (aT (f:=eI) a1)<|eg (G.fF 1 [ii xl])<|dO b0<|sy b1<|ep (rfl:(1:Int)=(1:Int))<|ep (aT (f:=eS) a2)<|eg (G.fF 1 [st ya])<|dO b1<|eA b2<|eo b3<|dO b4<|ec (f1 k)<|eb b4<|mc<|ec (f2 k)<|et4<|ec (f3 k)<|RD<|ec (g1 k)<|et4<|ec (g2 k)<|K'<|e0) (rs:=[au.c (bo true)]) rfl
theorem XJ{N:Nat}(c:Cl)(h0:(ld c.n0.store.ao).1.length=N)(h1:(ld c.n1.store.ao).1.length=N):Mg N 0 (wX c):=by
 have v:∀l:List ByteArray,l.length=N->VL N (uJ l):=fun l h=>⟨h,by simp[uJ,h],by simp[uJ,h]⟩
 have w:∀l:List ByteArray,VW 0 0 (uJ l):=fun l=>⟨fun x hx=>by have:=HW hx;omega,fun x hx=>by have:=HW hx;subst this;exact aL _⟩
 have z:VW 0 0 N8:=⟨fun x hx=>absurd hx (by simp[N8]),fun x hx=>absurd hx (by simp[N8])⟩
 exact⟨v _ h0,v _ h1,fun h=>absurd h (by simp[wX]),fun h=>absurd h (by simp[wX]),w _,w _,z,z,nj _,nj _⟩
def aC:Cl:=Bh 1 XI
def aD:Cl:=(iI aC wrE).1
def aO:List Ou:=(iI aC wrE).2
def aM:Mm:=wX aC
def aX:Mm:=kh aM aC wrE aD aO
theorem amv:∀e∈XI,e.data.size<=300:=by decide
theorem MN:m5 4 8 2 12 aC:=aab 1 (by decide) XI
theorem aaJ:m5 4 12 3 18 aD:=(G' MN wrE).1
theorem XK:Mg 2 0 aM:=XJ aC (by kernel_rfl) (by kernel_rfl)
theorem XL{B:Nat}{m:Mm}(v0:VL B m.n0)(v1:VL B m.n1)(hB:B<=100000)(s0:(m.n0.begun.all fun x=>decide (x.length<=1000000))=true)(s1:(m.n1.begun.all fun x=>decide (x.length<=1000000))=true)(c:Cl)(b0:c.n0.store.aj.an=(B:Int))(b1:c.n1.store.aj.an=(B:Int))(c0:c.n0.store.ao.ar.length<=1000000)(c1:c.n1.store.ao.ar.length<=1000000)(q:Bool)(hq:IW m c=q)(k:Nat):EO (k+8) 12 [.agg m.cs, .agg c.cs] []=some ([.c (bo q)],[]):=by
 have t0:∀x∈m.n0.begun,x.length<=1000000:=fun x hx=>jG (lG.1 s0 x hx)
 have t1:∀x∈m.n1.begun,x.length<=1000000:=fun x hx=>jG (lG.1 s1 x hx)
 rw[<-hq]
 exact abC m c _ _ (fun k=>J9 v0 hB t0 c.n0 B b0 (aL _) c0 k) (fun k=>J9 v1 hB t1 c.n1 B b1 (aL _) c1 k) k
theorem HP(a b:Vl)(h:VB a)(q:Bool)(hq:m8 a b=q)(k:Nat):EO (k+5) 25 [.agg a.cs, .agg b.cs] []=some ([.c (bo q)],[]):=by
 rw[<-hq];exact aem a b h.h1 h.h2 h.h3 h.h4 k
theorem Q_{a:Vl}(h1:decide (a.ay.length<=1000000)=true)(h2:decide (a.aB.length<=1000000)=true)(h3:decide (a.begun.length<=1000000)=true)(h4:(a.begun.all fun x=>decide (x.length<=1000000))=true):VB a:=
 ⟨jG h1,jG h2,jG h3,fun x hx=>jG (lG.1 h4 x hx)⟩
theorem vb0:VB aM.n0:=Q_ (by kernel_rfl) (by kernel_rfl) (by kernel_rfl) (by kernel_rfl)
theorem vb1:VB aM.n1:=Q_ (by kernel_rfl) (by kernel_rfl) (by kernel_rfl) (by kernel_rfl)
theorem vb2:VB aM.s0:=Q_ (by kernel_rfl) (by kernel_rfl) (by kernel_rfl) (by kernel_rfl)
theorem vb3:VB aM.s1:=Q_ (by kernel_rfl) (by kernel_rfl) (by kernel_rfl) (by kernel_rfl)
theorem aS1(k:Nat):EO (k+8) 13 [.agg aM.cs, .agg aM.cs] []=some ([.c (bo true)],[]):=
 aeA aM aM true true (fun k=>Pm aM.n0 aM.n1 aM.n0 aM.n1 (fun k=>HP _ _ vb0 _ rfl k) (fun k=>HP _ _ vb1 _ rfl k) (k+1) |>.trans (by rw[show m8 aM.n0 aM.n0=true by kernel_rfl,show m8 aM.n1 aM.n1=true by kernel_rfl];rfl))
  (fun k=>Pm aM.s0 aM.s1 aM.s0 aM.s1 (fun k=>HP _ _ vb2 _ rfl k) (fun k=>HP _ _ vb3 _ rfl k) (k+1) |>.trans (by rw[show m8 aM.s0 aM.s0=true by kernel_rfl,show m8 aM.s1 aM.s1=true by kernel_rfl];rfl))
  rfl rfl (by kernel_rfl) (by kernel_rfl) (by kernel_rfl) (by kernel_rfl) (by kernel_rfl) (by kernel_rfl) (by kernel_rfl) (by kernel_rfl) (by kernel_rfl) (by kernel_rfl) (by kernel_rfl) (by kernel_rfl) (by kernel_rfl) (by kernel_rfl) k
theorem aS2(k:Nat):EO (k+8) 13 [.agg aM.cs, .agg aX.cs] []=some ([.c (bo false)],[]):=
 aez aM aX false true (fun k=>Pm aM.n0 aM.n1 aX.n0 aX.n1 (fun k=>HP _ _ vb0 _ rfl k) (fun k=>HP _ _ vb1 _ rfl k) (k+1) |>.trans (by rw[show(m8 aM.n0 aX.n0&&m8 aM.n1 aX.n1)=false by kernel_rfl])) rfl k
theorem amw:VL 2 aX.n0:=⟨by kernel_rfl,by kernel_rfl,by kernel_rfl⟩
theorem amy:VL 2 aX.n1:=⟨by kernel_rfl,by kernel_rfl,by kernel_rfl⟩
theorem amz:∀o∈aO,o.node=0\/o.node=1:=fun o ho=>by
 have h:(aO.all fun o=>o.node==0||o.node==1)=true:=by kernel_rfl
 have:=lG.1 h o ho
 simpa using this
theorem amA:aM.count+aO.length<1000000:=by
 have h:decide (aM.count+aO.length<1000000)=true:=by kernel_rfl
 exact jG h
theorem J_(k:Nat):EO (k+19) 5 [] []=some ([.c (bo true)],[]):=
 aeC aC aD aM aX aO (aX.n0.ay.getD 1 ⟨#[]⟩) (aX.n1.ay.getD 1 ⟨#[]⟩) (aX.n0.aB.getD 1 0)
  (fun k=>aaH 1 (XI.map bg.cs) aC (fun k=>aaa 1 (by decide) XI (by decide) amv k) k)
  (fun k=>XF aC (aZ (qZ MN.n0.1.1) (by decide)) (aZ (qZ MN.n1.1.1) (by decide)) (aZ MN.n0.2.1 (by decide)) (aZ MN.n1.2.1 (by decide)) (k+11))
  (fun k=>abD aC aD wrE aO (fun k=>ad4 aC wrE MN (by decide) (by decide) (by decide) (by decide) (by decide) (by decide) k) (k+3))
  (fun k=>XD XK (by decide) (by decide) aC aD wrE aO amA amz (k+10))
  (by kernel_rfl) (by kernel_rfl) (by kernel_rfl) (by kernel_rfl) (by kernel_rfl) (by kernel_rfl) (by kernel_rfl) (by kernel_rfl) (by kernel_rfl) (by kernel_rfl) (by kernel_rfl) (by kernel_rfl)
  (fun k=>XL XK.v0 XK.v1 (by decide) (by kernel_rfl) (by kernel_rfl) aC (by kernel_rfl) (by kernel_rfl) (aZ MN.n0.2.1 (by decide)) (aZ MN.n1.2.1 (by decide)) true (by kernel_rfl) (k+10))
  (fun k=>XL amw amy (by decide) (by kernel_rfl) (by kernel_rfl) aD (by kernel_rfl) (by kernel_rfl) (aZ aaJ.n0.2.1 (by decide)) (aZ aaJ.n1.2.1 (by decide)) true (by kernel_rfl) (k+10))
  (fun k=>XL XK.v0 XK.v1 (by decide) (by kernel_rfl) (by kernel_rfl) aD (by kernel_rfl) (by kernel_rfl) (aZ aaJ.n0.2.1 (by decide)) (aZ aaJ.n1.2.1 (by decide)) false (by kernel_rfl) (k+10))
  (fun k=>aS1 (k+10)) (fun k=>aS2 (k+10)) k
theorem MO{Q:Prop}(i:Int)(n:Nat):IP Q (kr i (dR n 7)):=by
 refine⟨⟨?_,fun w hw=>by cases hw⟩,fun h=>absurd h (by simp[kr])⟩
 show Gj (IQ Q) (bV (b_ n 7)).1
 exact Qg (fun h=>absurd h (by simp[b_]))
theorem Ra(i:Int)(d:Dk):qV (kr i d):=⟨fun h=>absurd h (by simp[kr,iE]),fun h=>absurd h (by simp[kr])⟩
theorem aeD{N:Nat}(n:Nat)(h0:(ld (kw n).n0.store.ao).1.length=N)(h1:(ld (kw n).n1.store.ao).1.length=N):Iw N 0 (kw n) (wX (kw n)):=by
 obtain⟨a1,a2,a3⟩:=vO (Ra 0 (dR n 7)) []
 obtain⟨b1,b2,b3⟩:=vO (Ra 1 (dR n 7)) []
 have r0:(kw n).n0.bL.on=false:=by
  cases hr:(kw n).n0.bL.on with
  |false=>rfl
  |true=>exact absurd (a3 hr).1 (by simp[kr,iE])
 have r1:(kw n).n1.bL.on=false:=by
  cases hr:(kw n).n1.bL.on with
  |false=>rfl
  |true=>exact absurd (b3 hr).1 (by simp[kr,iE])
 exact⟨⟨a2,b2,a1,b1⟩,XJ _ h0 h1,⟨vK (MO 0 n) _,vK (MO 1 n) _⟩,by rw[r0];rfl,by rw[r1];rfl⟩
def Ki(l:List bg)(c0:Int):St:=St.mk (tc (sE l)::T.bf::T.bf::tc (ii c0)::hs 52 []) [] []
def XM(l:List bg)(i j:Int):St:=St.mk (tc (C.slice 7 (l.map bg.cs))::T.bf::T.bf::tc (ii i)::tc (ii j)::hs (51:Nat) []) [] []
def FS(l:List bg)(i:Nat)(x:bg)(j:Nat)(y:bg):St:=St.mk (tc (sE l)::T.bf::tc (bo false)::tc (ii (↑i:Int))::tc (ii (↑j:Int))::hs 27 [tc (ii (↑j:Int)),tc (ii (↑i:Int)),tc (bo (decide ((↑j:Int)<(↑i:Int)))),T.bf,T.bf,tc (sE l),tc (ii (↑j:Int)),tc (C.fJ [ii y.ae,ii y.node,ii y.id,ii y.block,st y.data,u y.n,sB y.aU]),tc (C.fJ [ii y.ae,ii y.node,ii y.id,ii y.block,st y.data,u y.n,sB y.aU]),tc (ii y.ae),tc (bo (y.ae==13)),tc (bo (y.ae==13)),tc (sE l),tc (ii (↑j:Int)),tc (C.fJ [ii y.ae,ii y.node,ii y.id,ii y.block,st y.data,u y.n,sB y.aU]),tc (C.fJ [u y.n,sB y.aU]),tc (u y.n),tc (sE l),tc (ii (↑i:Int)),tc (C.fJ [ii x.ae,ii x.node,ii x.id,ii x.block,st x.data,u x.n,sB x.aU]),tc (C.fJ [u x.n,sB x.aU]),tc (u x.n),tc (bo (y.n==x.n)),tc (bo (y.n==x.n))]) [] []
theorem aiS(l:List bg)(i:Nat)(x:bg)(hx:l[i]?=some x)(j:Nat)(y:bg)(hy:l[j]?=some y)(k:Nat)(z0:(decide ((↑j:Int)<(↑i:Int)))=true)(z1:(y.ae==13)=true)(z2:(y.n==x.n)=true):dq (EE (k+2)) (HH 15) NN (LB PP 15 8) (XM l (↑i:Int) (↑j:Int)) (dJ.ret) (FS l i x j y):=
 ou (eb z0<|ep (rfl:(↑j:Int)=(↑j:Int))<|ep (aT (f:=bg.cs) hy)<|eg (G.fF j [ii y.ae,ii y.node,ii y.id,ii y.block,st y.data,u y.n,sB y.aU])<|dO z1<|ep (rfl:(↑j:Int)=(↑j:Int))<|ep (aT (f:=bg.cs) hy)<|eg (G.fF j [ii y.ae,ii y.node,ii y.id,ii y.block,st y.data,u y.n,sB y.aU])<|sy z1<|ep (rz i)<|ep (aT (f:=bg.cs) hx)<|eg (G.fF i [ii x.ae,ii x.node,ii x.id,ii x.block,st x.data,u x.n,sB x.aU])<|eo z1<|eb z2<|e0)
theorem aiT(l:List bg)(i:Nat)(x:bg)(hx:l[i]?=some x)(j:Nat)(y:bg)(hy:l[j]?=some y)(k:Nat)(z0:(decide ((↑j:Int)<(↑i:Int)))=true)(z1:(y.ae==13)=true)(z2:(y.n==x.n)=false):bQ (EE (k+2)) (HH 15) NN (LB PP 15 8) 0 0 (XM l (↑i:Int) (↑j:Int)) (XM l (↑i:Int) (wrap .i64 ((↑j:Int)+1))):=
 nx (eb z0<|ep (rfl:(↑j:Int)=(↑j:Int))<|ep (aT (f:=bg.cs) hy)<|eg (G.fF j [ii y.ae,ii y.node,ii y.id,ii y.block,st y.data,u y.n,sB y.aU])<|dO z1<|ep (rfl:(↑j:Int)=(↑j:Int))<|ep (aT (f:=bg.cs) hy)<|eg (G.fF j [ii y.ae,ii y.node,ii y.id,ii y.block,st y.data,u y.n,sB y.aU])<|sy z1<|ep (rz i)<|ep (aT (f:=bg.cs) hx)<|eg (G.fF i [ii x.ae,ii x.node,ii x.id,ii x.block,st x.data,u x.n,sB x.aU])<|eo z1<|eb z2<|e0)
theorem aiU(l:List bg)(i:Nat)(j:Nat)(y:bg)(hy:l[j]?=some y)(k:Nat)(z0:(decide ((↑j:Int)<(↑i:Int)))=true)(z1:(y.ae==13)=false):bQ (EE (k+2)) (HH 15) NN (LB PP 15 8) 0 0 (XM l (↑i:Int) (↑j:Int)) (XM l (↑i:Int) (wrap .i64 ((↑j:Int)+1))):=
 nx (eb z0<|ep (rfl:(↑j:Int)=(↑j:Int))<|ep (aT (f:=bg.cs) hy)<|eg (G.fF j [ii y.ae,ii y.node,ii y.id,ii y.block,st y.data,u y.n,sB y.aU])<|hO z1<|hO z1<|ef<|e0)
def FT(l:List bg)(i:Nat)(j:Nat):St:=St.mk (tc (sE l)::T.bf::T.bf::tc (ii (↑i:Int))::tc (ii (↑j:Int))::hs 27 (tc (ii (↑j:Int))::tc (ii (↑i:Int))::tc (bo (decide ((↑j:Int)<(↑i:Int))))::hs 21 [])) [] []
theorem aiV(l:List bg)(i:Nat)(j:Nat)(k:Nat)(z0:(decide ((↑j:Int)<(↑i:Int)))=false):dq (EE (k+2)) (HH 15) NN (LB PP 15 8) (XM l (↑i:Int) (↑j:Int)) (dJ.exit 2) (FT l i j):=
 ou (eb z0<|e0)
def Pr(l:List bg)(i:Nat)(x:bg):St:=St.mk (tc (sE l)::T.bf::tc (bo false)::tc (ii (↑i:Int))::T.bf::tc (ii (↑i:Int))::tc (sE l)::tc (ii (↑(l.length):Int))::tc (bo (gL i l.length))::T.bf::T.bf::tc (sE l)::tc (ii (↑i:Int))::tc (C.fJ [ii x.ae,ii x.node,ii x.id,ii x.block,st x.data,u x.n,sB x.aU])::tc (C.fJ [ii x.ae,ii x.node,ii x.id,ii x.block,st x.data,u x.n,sB x.aU])::tc (ii x.ae)::tc (bo (x.ae !=13))::tc (sE l)::tc (ii (↑i:Int))::tc (C.fJ [ii x.ae,ii x.node,ii x.id,ii x.block,st x.data,u x.n,sB x.aU])::tc (C.fJ [u x.n,sB x.aU])::tc (u x.n)::tc (bo (x.n==0))::tc (bo (x.n==0))::ks 7 (tc (bo true)::hs 24 [])) [] []
theorem aiW(l:List bg)(i:Nat)(x:bg)(hx:l[i]?=some x)(k:Nat)(z0:(gL i l.length)=true)(z1:(x.ae==13)=true)(z2:(x.n==0)=true):dq (EE (k+2)) (HH 15) NN (LB PP 15 2) (Ki l (↑i:Int)) (dJ.ret) (Pr l i x):=
 ou (ep (aG (bg.cs) (l))<|eg (G.len l.length)<|eb z0<|ep (rz i)<|ep (aT (f:=bg.cs) hx)<|eg (G.fF i [ii x.ae,ii x.node,ii x.id,ii x.block,st x.data,u x.n,sB x.aU])<|en z1<|ep (rz i)<|ep (aT (f:=bg.cs) hx)<|eg (G.fF i [ii x.ae,ii x.node,ii x.id,ii x.block,st x.data,u x.n,sB x.aU])<|hO z2<|ci z2<|et<|e0)
def Ps(l:List bg)(i:Nat)(x:bg):St:=St.mk (tc (sE l)::T.bf::tc (bo false)::tc (ii (↑i:Int))::T.bf::tc (ii (↑i:Int))::tc (sE l)::tc (ii (↑(l.length):Int))::tc (bo (gL i l.length))::T.bf::T.bf::tc (sE l)::tc (ii (↑i:Int))::tc (C.fJ [ii x.ae,ii x.node,ii x.id,ii x.block,st x.data,u x.n,sB x.aU])::tc (C.fJ [ii x.ae,ii x.node,ii x.id,ii x.block,st x.data,u x.n,sB x.aU])::tc (ii x.ae)::tc (bo (x.ae !=13))::tc (sE l)::tc (ii (↑i:Int))::tc (C.fJ [ii x.ae,ii x.node,ii x.id,ii x.block,st x.data,u x.n,sB x.aU])::tc (C.fJ [u x.n,sB x.aU])::tc (u x.n)::tc (bo (x.n==0))::tc (bo (x.n==0))::tc (sE l)::tc (ii (↑i:Int))::tc (C.fJ [ii x.ae,ii x.node,ii x.id,ii x.block,st x.data,u x.n,sB x.aU])::tc (C.fJ [u x.n,sB x.aU])::tc (u x.n)::tc (u 7)::tc (bo (x.n==7))::tc (bo (x.n==7))::hs 24 []) [] []
theorem aiX(l:List bg)(i:Nat)(x:bg)(hx:l[i]?=some x)(k:Nat)(z0:(gL i l.length)=true)(z1:(x.ae==13)=true)(z2:(x.n==0)=false)(z3:(x.n==7)=true):dq (EE (k+2)) (HH 15) NN (LB PP 15 2) (Ki l (↑i:Int)) (dJ.ret) (Ps l i x):=
 ou (ep (aG (bg.cs) (l))<|eg (G.len l.length)<|eb z0<|ep (rz i)<|ep (aT (f:=bg.cs) hx)<|eg (G.fF i [ii x.ae,ii x.node,ii x.id,ii x.block,st x.data,u x.n,sB x.aU])<|en z1<|ep (rz i)<|ep (aT (f:=bg.cs) hx)<|eg (G.fF i [ii x.ae,ii x.node,ii x.id,ii x.block,st x.data,u x.n,sB x.aU])<|dO z2<|ep (rz i)<|ep (aT (f:=bg.cs) hx)<|eg (G.fF i [ii x.ae,ii x.node,ii x.id,ii x.block,st x.data,u x.n,sB x.aU])<|dO z2<|ec (Ak (k+1))<|ci z2<|eb z3<|e0)
theorem aiY(l:List bg)(i:Nat)(x:bg)(hx:l[i]?=some x)(j:Nat)(hL:∀k,bT (EE (k+2)) (HH 15) NN (LB PP 15 8) (XM l (↑i:Int) 0) (dJ.exit 2) (FT l i j))(k:Nat)(z0:(gL i l.length)=true)(z1:(x.ae==13)=true)(z2:(x.n==0)=false)(z3:(x.n==7)=false):bQ (EE (k+2)) (HH 15) NN (LB PP 15 2) 0 0 (Ki l (↑i:Int)) (Ki l (wrap .i64 ((↑i:Int)+1))):=
 nx (ep (aG (bg.cs) (l))<|eg (G.len l.length)<|eb z0<|ep (rz i)<|ep (aT (f:=bg.cs) hx)<|eg (G.fF i [ii x.ae,ii x.node,ii x.id,ii x.block,st x.data,u x.n,sB x.aU])<|en z1<|ep (rz i)<|ep (aT (f:=bg.cs) hx)<|eg (G.fF i [ii x.ae,ii x.node,ii x.id,ii x.block,st x.data,u x.n,sB x.aU])<|dO z2<|ep (rz i)<|ep (aT (f:=bg.cs) hx)<|eg (G.fF i [ii x.ae,ii x.node,ii x.id,ii x.block,st x.data,u x.n,sB x.aU])<|dO z2<|ec (Ak (k+1))<|ci z2<|eb z3<|eg (G.loop (dJ.exit 2) (FT l i j))<|ep (hL k)<|e0)
theorem aiZ(l:List bg)(i:Nat)(x:bg)(hx:l[i]?=some x)(k:Nat)(z0:(gL i l.length)=true)(z1:(x.ae==13)=false):bQ (EE (k+2)) (HH 15) NN (LB PP 15 2) 0 0 (Ki l (↑i:Int)) (Ki l (wrap .i64 ((↑i:Int)+1))):=
 nx (ep (aG (bg.cs) (l))<|eg (G.len l.length)<|eb z0<|ep (rz i)<|ep (aT (f:=bg.cs) hx)<|eg (G.fF i [ii x.ae,ii x.node,ii x.id,ii x.block,st x.data,u x.n,sB x.aU])<|en z1<|e0)
def Pt(l:List bg)(i:Nat):St:=St.mk (tc (sE l)::T.bf::T.bf::tc (ii (↑i:Int))::T.bf::tc (ii (↑i:Int))::tc (sE l)::tc (ii (↑(l.length):Int))::tc (bo (gL i l.length))::hs 47 []) [] []
theorem ai0(l:List bg)(i:Nat)(k:Nat)(z0:(gL i l.length)=false):dq (EE (k+2)) (HH 15) NN (LB PP 15 2) (Ki l (↑i:Int)) (dJ.exit 0) (Pt l i):=
 ou (ep (aG (bg.cs) (l))<|eg (G.len l.length)<|eb z0<|e0)
def Pu(l:List bg)(i:Nat)(x:bg)(j:Nat)(y:bg):St:=St.mk (tc (sE l)::T.bf::tc (bo false)::tc (ii (↑i:Int))::tc (ii (↑j:Int))::hs 27 [tc (ii (↑j:Int)),tc (ii (↑i:Int)),tc (bo (decide ((↑j:Int)<(↑i:Int)))),T.bf,T.bf,tc (sE l),tc (ii (↑j:Int)),tc (C.fJ [ii y.ae,ii y.node,ii y.id,ii y.block,st y.data,u y.n,sB y.aU]),tc (C.fJ [ii y.ae,ii y.node,ii y.id,ii y.block,st y.data,u y.n,sB y.aU]),tc (ii y.ae),tc (bo (y.ae==13)),tc (bo (y.ae==13)),tc (sE l),tc (ii (↑j:Int)),tc (C.fJ [ii y.ae,ii y.node,ii y.id,ii y.block,st y.data,u y.n,sB y.aU]),tc (C.fJ [u y.n,sB y.aU]),tc (u y.n),tc (sE l),tc (ii (↑i:Int)),tc (C.fJ [ii x.ae,ii x.node,ii x.id,ii x.block,st x.data,u x.n,sB x.aU]),tc (C.fJ [u x.n,sB x.aU]),tc (u x.n),tc (bo (y.n==x.n)),tc (bo (y.n==x.n))]) [] []
theorem ai1(l:List bg)(i:Nat)(x:bg)(hx:l[i]?=some x)(j:Nat)(y:bg)(hL:∀k,bT (EE (k+2)) (HH 15) NN (LB PP 15 8) (XM l (↑i:Int) 0) dJ.ret (FS l i x j y))(k:Nat)(z0:(gL i l.length)=true)(z1:(x.ae==13)=true)(z2:(x.n==0)=false)(z3:(x.n==7)=false):dq (EE (k+2)) (HH 15) NN (LB PP 15 2) (Ki l (↑i:Int)) (dJ.ret) (Pu l i x j y):=
 ou (ep (aG (bg.cs) (l))<|eg (G.len l.length)<|eb z0<|ep (rz i)<|ep (aT (f:=bg.cs) hx)<|eg (G.fF i [ii x.ae,ii x.node,ii x.id,ii x.block,st x.data,u x.n,sB x.aU])<|en z1<|ep (rz i)<|ep (aT (f:=bg.cs) hx)<|eg (G.fF i [ii x.ae,ii x.node,ii x.id,ii x.block,st x.data,u x.n,sB x.aU])<|dO z2<|ep (rz i)<|ep (aT (f:=bg.cs) hx)<|eg (G.fF i [ii x.ae,ii x.node,ii x.id,ii x.block,st x.data,u x.n,sB x.aU])<|dO z2<|ec (Ak (k+1))<|ci z2<|eb z3<|eg (G.loop dJ.ret (FS l i x j y))<|ep (hL k)<|e0)
theorem HQ{α:Type}{l:List α}{i j:Nat}{y:α}(h:(l.take i)[j]?=some y):l[j]?=some y/\j<i:=by
 rw[rQ] at h
 split at h
 ·exact⟨h,by assumption⟩
 ·cases h
theorem XN(l:List bg)(i:Nat)(x:bg)(hx:l[i]?=some x)(hl:l.length<=1000000):((l.take i).any (qH x)=false/\∀k,bT (EE (k+2)) (HH 15) NN (LB PP 15 8) (XM l i 0) (.exit 2) (FT l i i))\/((l.take i).any (qH x)=true/\∃j y,∀k,bT (EE (k+2)) (HH 15) NN (LB PP 15 8) (XM l i 0) .ret (FS l i x j y)):=by
 have hi:=gJ hx
 have dK:(l.take i).length=i:=by rw[kG];omega
 rcases pA (E:=fun k=>EE (k+2)) (H:=HH 15) (n:=NN) (b:=LB PP 15 8) (fun j=>XM l i (j:Nat)) (l.take i) (qH x) (fun j y=>FS l i x j y) (FT l i (l.take i).length) (nv:=0) (nt:=0) (e:= .ret) (e':= .exit 2) (by kernel_rfl) (by kernel_rfl)
  (fun k j y hy hp=>by
    obtain⟨h1,h2⟩:=HQ hy
    unfold qH at hp
    cases hk:y.ae==13 with
    |true=>
     rw[hk,i6] at hp
     have:=aiT l i x hx j y h1 k (cJ (by omega)) hk hp
     rwa[p6 h1 (by omega)] at this
    |false=>
     have:=aiU l i j y h1 k (cJ (by omega)) hk
     rwa[p6 h1 (by omega)] at this)
  (fun k j y hy hp=>by
    obtain⟨h1,h2⟩:=HQ hy
    unfold qH at hp
    rw[cY] at hp
    exact aiS l i x hx j y h1 k (cJ (by omega)) hp.1 hp.2)
  (fun k=>aiV l i _ k (by rw[dK];exact Gf)) (by unfold NN;omega) with⟨hb,hL⟩|⟨hb,j,y,hy,hp,hf,hj,hL⟩
 ·rw[dK] at hL
  exact .inl ⟨hb,hL⟩
 ·exact .inr ⟨hb,j,y,hL⟩
theorem aeE(l:List bg)(i:Nat)(x:bg)(hL:∀k,bT (EE (k+2)) (HH 15) NN (LB PP 15 2) (Ki l 0) dJ.ret (Pr l i x))(k:Nat):EO (k+3) 15 [A.c (sE l)] []=some ([au.c (bo false)],[]):=by
 exact rt (eg (G.loop dJ.ret (Pr l i x))<|ep (hL k)<|e0) (rs:=[au.c (bo false)]) rfl
theorem aeF(l:List bg)(i:Nat)(x:bg)(hL:∀k,bT (EE (k+2)) (HH 15) NN (LB PP 15 2) (Ki l 0) dJ.ret (Ps l i x))(k:Nat):EO (k+3) 15 [A.c (sE l)] []=some ([au.c (bo false)],[]):=by
 exact rt (eg (G.loop dJ.ret (Ps l i x))<|ep (hL k)<|e0) (rs:=[au.c (bo false)]) rfl
theorem aeG(l:List bg)(i:Nat)(x:bg)(j:Nat)(y:bg)(hL:∀k,bT (EE (k+2)) (HH 15) NN (LB PP 15 2) (Ki l 0) dJ.ret (Pu l i x j y))(k:Nat):EO (k+3) 15 [A.c (sE l)] []=some ([au.c (bo false)],[]):=by
 exact rt (eg (G.loop dJ.ret (Pu l i x j y))<|ep (hL k)<|e0) (rs:=[au.c (bo false)]) rfl
theorem aeH(l:List bg)(i:Nat)(hL:∀k,bT (EE (k+2)) (HH 15) NN (LB PP 15 2) (Ki l 0) (dJ.exit 0) (Pt l i))(k:Nat):EO (k+3) 15 [A.c (sE l)] []=some ([au.c (bo true)],[]):=by
 exact rt (eg (G.loop (dJ.exit 0) (Pt l i))<|ep (hL k)<|e0) (rs:=[au.c (bo true)]) rfl
theorem abE(l:List bg)(hl:l.length<=1000000)(k i m:Nat)(hm:(List.range l.length)[i]?=some m)(hb:sT l m=false):bQ (EE (k+2)) (HH 15) NN (LB PP 15 2) 0 0 (Ki l (i:Nat)) (Ki l ((i+1:Nat))):=by
 have fO:=gJ hm
 rw[iM] at fO
 have hmi:m=i:=by
  rw[H3 fO] at hm
  cases hm;rfl
 subst hmi
 have hx:l[m]?=some l[m]:=cm fO
 unfold sT at hb
 rw[hx] at hb
 simp only[RO] at hb
 cases hk:l[m].ae==13 with
 |false=>
  have:=aiZ l m l[m] hx k (sM hx) hk
  rwa[p6 hx (by omega)] at this
 |true=>
  rw[hk,i6,eh,eh] at hb
  rcases XN l m l[m] hx hl with⟨_,hL⟩|⟨h2,_⟩
  ·have:=aiY l m l[m] hx m hL k (sM hx) hk hb.1 hb.2.1
   rwa[p6 hx (by omega)] at this
  ·rw[hb.2.2] at h2;cases h2
theorem Pw(l:List bg)(hl:l.length<=1000000)(k:Nat):EO (k+3) 15 [.c (.slice 7 (l.map bg.cs))] []=some ([.c (bo (iZ l))],[]):=by
 unfold iZ
 cases hb:(List.range l.length).any (sT l) with
 |false=>
  refine aeH l l.length (fun k=> ?_) k
  refine wB (E:=EE (k+2)) (n:=NN) (b:=LB PP 15 2) (fun i=>Ki l (i:Nat)) (List.range l.length) (sT l) rfl (by kernel_rfl) (by kernel_rfl) (fun i m hm hp=>abE l hl k i m hm hp) ?_ (qA hb) (by unfold NN;rw[iM];omega)
  rw[iM]
  exact ai0 l l.length k Gf
 |true=>
  have hj:=iz hb
  obtain⟨i,hi⟩:∃i,(List.range l.length).findIdx (sT l)=i:=⟨_,rfl⟩
  have fO:i<l.length:=by rw[<-hi];rw[iM] at hj;exact hj
  have hp:sT l i=true:=by
   have:=H2 (w:=hj)
   simp only[M7] at this
   rw[hi] at this
   exact this
  have hx:l[i]?=some l[i]:=cm fO
  unfold sT at hp
  rw[hx] at hp
  simp only[RO,cY] at hp
  obtain⟨hk,hp⟩:=hp
  have go:∀(t:St) (k:Nat),dq (EE (k+2)) (HH 15) NN (LB PP 15 2) (Ki l (i:Nat)) .ret t->bT (EE (k+2)) (HH 15) NN (LB PP 15 2) (Ki l 0) .ret t:=fun t k ht=>
   zp (E:=EE (k+2)) (n:=NN) (b:=LB PP 15 2) (fun i=>Ki l (i:Nat)) (List.range l.length) (sT l) rfl (by kernel_rfl) (by kernel_rfl) (fun i m hm hp=>abE l hl k i m hm hp) (fun m hm hq=>by rw[hi];exact ht) hj (by unfold NN;rw[iM];omega)
  cases h0:l[i].n==0 with
  |true=>exact aeE l i l[i] (fun k=>go _ k (aiW l i l[i] hx k (sM hx) hk h0)) k
  |false=>
   cases h7:l[i].n==7 with
   |true=>exact aeF l i l[i] (fun k=>go _ k (aiX l i l[i] hx k (sM hx) hk h0 h7)) k
   |false=>
    rw[h0,h7,rM,rM] at hp
    rcases XN l i l[i] hx hl with⟨h2,_⟩|⟨_,j,y,hL⟩
    ·rw[h2] at hp;cases hp
    ·exact aeG l i l[i] j y (fun k=>go _ k (ai1 l i l[i] hx j y hL k (sM hx) hk h0 h7)) k
theorem FU(l:List bg)(hl:l.length<=1000000)(k:Nat):EO (k+4) 7 [A.c (sE l)] []=some ([au.c (bo (iZ l))],[]):=by
 exact rt (ec (Pw l hl k)<|e0) (rs:=[au.c (bo (iZ l))]) rfl
def Scm(l:List bg)(c0:Int)(c1:Cl)(c2:Mm):St:=St.mk (T.bf::tc (sE l)::T.bf::T.bf::T.bf::T.k (K.v (V.fX 0 0))::T.k (K.v (V.fX 1 0))::tc (ii c0)::hs 49 []) [List.map V.c c1.cs,List.map V.c c2.cs] []
theorem ai2(l:List bg)(i:Nat)(e:bg)(hx:l[i]?=some e)(c:Cl)(m:Mm)(d:Cl)(x:Mm)(o:List Ou)(hD:∀k,EO (k+19) 10 [A.agg c.cs,A.agg e.cs] []=some ([au.agg d.cs,rO o],[]))(hS:∀k,EO (k+19) 11 [A.agg m.cs,A.agg c.cs,A.agg e.cs,A.agg d.cs,A.c (sO o)] []=some ([au.agg x.cs],[]))(hF:∀k,EO (k+19) 12 [A.agg x.cs,A.agg d.cs] []=some ([au.c (bo true)],[]))(hz:(x.cg==0)=true)(k:Nat)(z0:(gL i l.length)=true):bQ (EE (k+19)) (HH 3) NN (LB PP 3 8) 2 0 (Scm l (↑i:Int) c m) (Scm l (wrap .i64 ((↑i:Int)+1)) d x):=
 nx (ep (aG (bg.cs) (l))<|eg (G.len l.length)<|eb z0<|ep (rz i)<|ep (aT (f:=bg.cs) hx)<|eg (G.fF i [ii e.ae,ii e.node,ii e.id,ii e.block,st e.data,u e.n,sB e.aU])<|ec (hD k)<|ep (rz i)<|ep (aT (f:=bg.cs) hx)<|eg (G.fF i [ii e.ae,ii e.node,ii e.id,ii e.block,st e.data,u e.n,sB e.aU])<|ec (hS k)<|ec (hF k)<|kT<|en hz<|e0)
def J'(l:List bg)(i:Nat)(c:Cl)(m:Mm):St:=St.mk (T.bf::tc (sE l)::T.bf::T.bf::T.bf::T.k (K.v (V.fX 0 0))::T.k (K.v (V.fX 1 0))::tc (ii (↑i:Int))::hs 15 (tc (ii (↑i:Int))::tc (sE l)::tc (ii (↑(l.length):Int))::tc (bo (gL i l.length))::hs 30 [])) [List.map V.c c.cs,(List.map V.c m.cs)] []
theorem ai3(l:List bg)(i:Nat)(c:Cl)(m:Mm)(k:Nat)(z0:(gL i l.length)=false):dq (EE (k+19)) (HH 3) NN (LB PP 3 8) (Scm l (↑i:Int) c m) (dJ.exit 0) (J' l i c m):=
 ou (ep (aG (bg.cs) (l))<|eg (G.len l.length)<|eb z0<|e0)
theorem ai4(b:Int)(l:List bg)(g1:nQ l (80:Int)=true)(k:Nat):EO (k+20) 3 [A.c (CC b),A.c (sE l)] []=some ([au.c (bo true)],[]):=by
 exact rt (ec (J_ k)<|ef<|ec (Pn l 80 (show(80:Int)<=1000000 from by decide) (k+16))<|eo g1<|et<|e0) (rs:=[au.c (bo true)]) rfl
theorem ai5(b:Int)(l:List bg)(g1:nQ l (80:Int)=false)(g2:iZ l=false)(hl:l.length<=1000000)(k:Nat):EO (k+20) 3 [A.c (CC b),A.c (sE l)] []=some ([au.c (bo true)],[]):=by
 exact rt (ec (J_ k)<|ef<|ec (Pn l 80 (show(80:Int)<=1000000 from by decide) (k+16))<|ci g1<|ec (FU l hl (k+15))<|ci g1<|en g2<|e0) (rs:=[au.c (bo true)]) rfl
theorem amB(b:Int)(l:List bg)(c:Cl)(c2:Cl)(m:Mm)(m2:Mm)(g1:nQ l (80:Int)=false)(g2:iZ l=true)(hl:l.length<=1000000)(hR:∀k,EO (k+19) 8 [A.c (CC b),A.nil] []=some ([au.agg c.cs],[]))(hN:∀k,EO (k+19) 9 [A.agg c.cs] []=some ([au.agg m.cs],[]))(hL:∀k,bT (EE (k+19)) (HH 3) NN (LB PP 3 8) (Scm l 0 c m) (dJ.exit 0) (J' l l.length c2 m2))(k:Nat):EO (k+20) 3 [A.c (CC b),A.c (sE l)] []=some ([au.c (bo true)],[]):=by
 exact rt (ec (J_ k)<|ef<|ec (Pn l 80 (show(80:Int)<=1000000 from by decide) (k+16))<|ci g1<|ec (FU l hl (k+15))<|ci g1<|en g2<|ec (hR k)<|ec (hN k)<|eg (G.loop (dJ.exit 0) (J' l l.length c2 m2))<|ep (hL k)<|e0) (rs:=[au.c (bo true)]) rfl
theorem Bk:qh ⟨7,0,0,0⟩:=by unfold qh jO;simp
theorem MP(i:Int)(n:Nat):NI (PV []) (kr i (dR n 7)):=
 ⟨⟨Qf (s:=b_ n 7) Bk ⟨Bk,af rfl,fun _=>⟨fun g hg=>af (by rcases hg with h|h|h<;>exact h),⟨fun h=>absurd rfl h,fun _=>af rfl⟩⟩⟩,fun w hw=>by cases hw⟩,fun h=>absurd h (by simp[kr]),fun h=>absurd h (show(0:Int)≠4 by decide),fun _=>rfl⟩
theorem aaK{l:List bg}(hd:iZ l=true)(hr:∀e∈l,jO e.n)(n:Nat):Inv (o6 l) [] (kw n):=by
 have n0:=MP 0 n
 have n1:=MP 1 n
 have hc:=V7 hd hr n0 n1 rfl rfl rfl rfl rfl rfl
 obtain⟨s0,q0⟩:=rG (T:=[]) trivial n0 []
 obtain⟨s1,q1⟩:=rG (T:=[]) trivial n1 []
 refine⟨(hc.B3 s0).B4 s1,⟨fun _=>⟨?_,?_⟩,fun h=>absurd h (by simp[kw,lk0])⟩⟩
 ·rcases q0 with q|q
  ·show(bS (kr 0 (dR n 7)) []).1.ag=0
   rw[q];rfl
  ·exact q.2
 ·rcases q1 with q|q
  ·show(bS (kr 1 (dR n 7)) []).1.ag=0
   rw[q];rfl
  ·exact q.2
theorem aaL(n:Nat)(h:n=1\/n=2\/n=3\/n=4):(cd (ce (dR n 7) [])).2=0:=by
 rcases h with rfl|rfl|rfl|rfl<;>kernel_rfl
theorem MQ(n:Nat)(h:n=1\/n=2\/n=3\/n=4):(ld (kw n).n0.store.ao).1.length=n/\(ld (kw n).n1.store.ao).1.length=n:=by
 rcases h with rfl|rfl|rfl|rfl<;>exact⟨by kernel_rfl,by kernel_rfl⟩
theorem XO(n:Nat)(h:n=1\/n=2\/n=3\/n=4):uE false n (kw n) (wX (kw n)):=by
 have hb:1<=n/\n<=32:=by omega
 have hl:(ce (dR n 7) []).ax.length=n+2:=by show(dR n 7).ax.length=n+2;simp[dR]
 have ha:=aaL n h
 obtain⟨p,lv,hg,hd⟩:=HD hl hb rfl rfl ha
 have ha':(!((cd (ce (dR n 7) [])).2==0))=false:=by rw[ha];rfl
 have ha0:∀i:Int,(!((cd (ce (kr i (dR n 7)).store.ao [])).2==0))=false:=fun _=>ha'
 have e0:(kw n).n0=_:=cu Prod.fst (vV (n:=kr 0 (dR n 7)) (ks:=[]) rfl (ha0 0))
 have e1:(kw n).n1=_:=cu Prod.fst (vV (n:=kr 1 (dR n 7)) (ks:=[]) rfl (ha0 1))
 have hs:=hg.su
 have es:(ce (dR n 7) []).ax.getD 0 ⟨#[]⟩=(bV (b_ n 7)).1:=rfl
 rw[es,zK (Tg n h) Bk] at hs
 have ps:p.s=b_ n 7:=(cu Prod.fst hs).symm
 refine ac3 (p:=p) (by rw[e0];exact lv) (by rw[e1];exact lv) (by rw[ps];rfl) (by rw[ps];rfl) (by rw[ps];rfl) rfl ?_ ?_
 ·rw[e0];exact⟨rfl,rfl,rfl,rfl,rfl,rfl,rfl,rfl⟩
 ·rw[e1];exact⟨rfl,rfl,rfl,rfl,rfl,rfl,rfl,rfl⟩
theorem XP{B:Nat}{c:Cl}{x y:Mh}{i:Bool}{w w':Rq}(h:TJ i B c x y w w')(hl:(c.a i).store.ao.ax.length=B+2):∃b:Nat,(c.a i).store.aj.an=(b:Int)/\b<=B:=by
 cases hu:(c.a i).up with
 |false=>exact⟨0,h.a.sb hu,dh _⟩
 |true=>
  obtain⟨p,lp⟩:=h.a.lv hu
  have:=lp.len
  have hb:=lp.hd.bl
  exact⟨B,by rw[lp.su];omega,aL _⟩
def goF(s:Cl×Mm)(e:bg):Cl×Mm:=((iI s.1 e).1,kh s.2 s.1 e (iI s.1 e).1 (iI s.1 e).2)
structure Pf(l:List bg)(n i:Nat)(s:Cl×Mm):Prop where
 b:Bg n (l.drop i) (2*i) (4*i) i (6*i) s.1 s.2
 c:s.2.count<=18*i
theorem XQ{α:Type}{l:List α}{i:Nat}{e:α}(h:l[i]?=some e):l.drop i=e::l.drop (i+1):=by
 obtain⟨hi,rfl⟩:=List.getElem?_eq_some_iff.1 h
 exact M5 hi
theorem XR(b:Int)(hb:0<=b)(l:List bg)(hr:∀e∈l,jO e.n)(k:Nat):EO (k+20) 3 [.c (CC b), .c (.slice 7 (l.map bg.cs))] []=some ([.c (bo true)],[]):=by
 cases hg:nQ l 80 with
 |true=>exact ai4 b l hg k
 |false=>
  have dK:=TC hg
  cases hq:iZ l with
  |false=>exact ai5 b l hg hq (by omega) k
  |true=>
  have amD:=Pp hg
  have h4:=rK b hb
  obtain⟨n,hn⟩:∃n,l' b=n:=⟨_,rfl⟩
  rw[hn] at h4
  have hn4:n<=4:=by omega
  have hC:Bh b []=kw n:=by show(BO (kw (l' b)) []).1=kw n;rw[hn];rfl
  have hB0:m5 (n+2) 0 0 0 (kw n):=Xn n (Tg n h4)
  have hI0:=aeD n (MQ n h4).1 (MQ n h4).2
  have hR:∀k,EO (k+19) 8 [.c (CC b), .nil] []=some ([.agg (kw n).cs],[]):=fun k=>by
   rw[<-hC];exact aaI b (Bh b []) (fun k=>Xp b hb k) (k+1)
  have hN:∀k,EO (k+19) 9 [.agg (kw n).cs] []=some ([.agg (wX (kw n)).cs],[]):=fun k=>
   XF (kw n) (by rw[hB0.n0.1.1];omega) (by rw[hB0.n1.1.1];omega) (aZ hB0.n0.2.1 (by omega)) (aZ hB0.n1.2.1 (by omega)) (k+12)
  refine amB b l (kw n) (l.foldl goF (kw n,wX (kw n))).1 (wX (kw n)) (l.foldl goF (kw n,wX (kw n))).2 hg hq (by omega) hR hN (fun k=> ?_) k
  refine ke (E:=EE (k+19)) (H:=HH 3) (n:=NN) (b:=LB PP 3 8) (s0:=Scm l 0 (kw n) (wX (kw n))) (fun(s:Cl×Mm) (i:Nat)=>Scm l (i:Nat) s.1 s.2) (fun i s=>Pf l n i s) l goF (kw n,wX (kw n)) (nv:=2) (nt:=0) (e:= .exit 0) (t:=fun s=>J' l l.length s.1 s.2) rfl (by kernel_rfl) (by kernel_rfl) ⟨⟨⟨_,aaK hq hr n⟩,hI0,hB0,XO n h4,rfl⟩,by show(0:Int)<=_;omega⟩ (fun s i e hx hp=> ?_) (fun _=>ai3 l _ _ _ k Gf) (by unfold NN;omega)
  have fO:=gJ hx
  have hed:=amD e (jD hx)
  obtain⟨pb,pc⟩:=hp
  rw[XQ hx] at pb
  have hcn:=pb.iw.g.c
  obtain⟨s1,s2,s3,s4⟩:=ZB pb (by omega) (by omega)
  obtain⟨d1,d2⟩:=G' pb.b e
  have ho:=d2.1
  have hc:s.2.count+(iI s.1 e).2.length<1000000:=by omega
  have ev:=Vg (e:=e) pb.iw.q
  have hs:=fun k=>XD pb.iw.g (by omega) (by omega) s.1 (iI s.1 e).1 e (iI s.1 e).2 hc ev.nd (k+11)
  have hD:=fun k=>abD s.1 (iI s.1 e).1 e (iI s.1 e).2 (fun k=>ad4 s.1 e pb.b (by omega) (by omega) (by omega) (by omega) (by omega) hed k) (k+4)
  have g:=s1.iw.g
  obtain⟨b0,q0,q1⟩:=XP s1.t s1.b.n0.1.1
  obtain⟨b1,q2,q3⟩:=XP s1.t.B5 s1.b.n1.1.1
  have hF:∀k,EO (k+19) 12 [.agg (kh s.2 s.1 e (iI s.1 e).1 (iI s.1 e).2).cs, .agg (iI s.1 e).1.cs] []=some ([.c (bo true)],[]):=fun k=>by
   have:=abC (kh s.2 s.1 e (iI s.1 e).1 (iI s.1 e).2) (iI s.1 e).1 _ _ (fun k=>J9 g.v0 (by omega) (fun x hx=>aZ (g.w0.b x hx) (by omega)) (iI s.1 e).1.n0 b0 q0 q1 (aZ s1.b.n0.2.1 (by omega)) k) (fun k=>J9 g.v1 (by omega) (fun x hx=>aZ (g.w1.b x hx) (by omega)) (iI s.1 e).1.n1 b1 q2 q3 (aZ s1.b.n1.2.1 (by omega)) k) (k+11)
   have e2:((!(iI s.1 e).1.n0.up||(iI s.1 e).1.n0.store.aj.bp||xu (kh s.2 s.1 e (iI s.1 e).1 (iI s.1 e).2).n0 (iI s.1 e).1.n0)&&(!(iI s.1 e).1.n1.up||(iI s.1 e).1.n1.store.aj.bp||xu (kh s.2 s.1 e (iI s.1 e).1 (iI s.1 e).2).n1 (iI s.1 e).1.n1))=true:=s2
   rw[e2] at this
   exact this
  refine⟨?_,⟨?_,?_⟩⟩
  ·have:=ai2 l i e hx s.1 s.2 (iI s.1 e).1 (kh s.2 s.1 e (iI s.1 e).1 (iI s.1 e).2) (iI s.1 e).2 hD hs hF (by rw[s1.lo];rfl) k (sM hx)
   rwa[p6 hx (by omega)] at this
  ·exact s1
  ·show(kh s.2 s.1 e (iI s.1 e).1 (iI s.1 e).2).count<=_
   omega
end Go.Dm
