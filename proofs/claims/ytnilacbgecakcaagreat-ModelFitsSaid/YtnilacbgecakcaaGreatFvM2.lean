/-
  A part of the proofs over this seat: what its functions make of data, in plain terms (the file in which the theorems stand says what is proved).
-/
import Derived.KernelRfl
import Derived.Test.YtnilacbgecakcaaGreatFvM1
set_option maxRecDepth 100000
set_option maxHeartbeats 0
set_option linter.unusedSimpArgs false
set_option linter.unusedVariables false
namespace Go.Dm
open Go
open Go.IntKind (wrap)
variable{B:Nat}{i:Bool}{o:Sn}{Q W:List Pq}{mn mo bn bo:Nat->ByteArray->Prop}
theorem D2.done{n:Sn}(h:D2 B i n o (.done::Q) W mn mo bn bo):
 D2 B i {n with st:=2} o Q W mn mo bn bo:=by
 obtain⟨ha,m9⟩:=h
 have h4:n.st=4:=by
  by_cases e:n.st=4
  ·exact e
  ·have:=(ha.p0 e).2.1
   simp[num,fx] at this
 have hi:n.p.s.bp=false:=by
  cases e:n.p.s.bp with
  |false=>rfl
  |true=>have:=(ha.p2 h4 e).2.2;simp[num,fx] at this
 have h2:o.st=2/\num ic W=0/\num iK W=0/\num fx Q=0:=by
  rcases ha.p3 h4 hi with h|h
  ·have:=h.2.2;simp[num,fx] at this
  ·have:=h.2.1;simp[num,fx] at this;exact⟨h.1,h.2.2.1,h.2.2.2,by omega⟩
 cases ha
 cases m9
 constructor
 all_goals constructor<;>first|assumption|grind[gX,Sub,du,gR,fD,iU,mg,gS,jw,jc,mh,gD,mj,lw,lR,jx,jy,g8,dV,fh,d8,fe,ff,fg,eT,eC,eV,gU,gd,gV,gW,gc,eq,fw,kE,ic,fx,kq,oZ,iH,fM,iK,eJ,fW,fc,dW,dX,dv,fj,fm,d9,fk,fq,dY,ml,gY,gZ,mm,jz,g9]
theorem D2.Ci{n:Sn}(h:D2 B i n o (.ask::Q) W mn mo bn bo):
 D2 B i n o Q (W++[.Ci]) mn mo bn bo:=by
 obtain⟨ha,m9⟩:=h
 cases ha
 cases m9
 constructor
 all_goals constructor<;>first|assumption|grind[gX,Sub,du,gR,fD,iU,mg,gS,jw,jc,mh,gD,mj,lw,lR,jx,jy,g8,dV,fh,d8,fe,ff,fg,eT,eC,eV,gU,gd,gV,gW,gc,eq,fw,kE,ic,fx,kq,oZ,iH,fM,iK,eJ,fW,fc,dW,dX,dv,fj,fm,d9,fk,fq,dY,ml,gY,gZ,mm,jz,g9]
theorem D2.sY{n:Sn}(h:D2 B i n o (.ask::Q) W mn mo bn bo)(hp:n.cH=false)(ha:n.ask=false):
 D2 B i {n with A8:=true} o Q (W++[.sY]) mn mo bn bo:=by
 obtain⟨ha,m9⟩:=h
 cases ha
 cases m9
 constructor
 all_goals constructor<;>first|assumption|grind[gX,Sub,du,gR,fD,iU,mg,gS,jw,jc,mh,gD,mj,lw,lR,jx,jy,g8,dV,fh,d8,fe,ff,fg,eT,eC,eV,gU,gd,gV,gW,gc,eq,fw,kE,ic,fx,kq,oZ,iH,fM,iK,eJ,fW,fc,dW,dX,dv,fj,fm,d9,fk,fq,dY,ml,gY,gZ,mm,jz,g9]
theorem D2.Ju{n:Sn}(h:D2 B i n o (.sY::Q) W mn mo bn bo){s:Su}(hv:s.v=n.p.s.v)(hi:s.bp=n.p.s.bp):
 D2 B i {n with cH:=true,ask:=false,p:=⟨s,n.p.m,n.p.x⟩} o Q W mn mo bn bo:=by
 obtain⟨ha,m9⟩:=h
 cases ha
 cases m9
 constructor
 all_goals constructor<;>first|assumption|grind[gX,Sub,du,gR,fD,iU,mg,gS,jw,jc,mh,gD,mj,lw,lR,jx,jy,g8,dV,fh,d8,fe,ff,fg,eT,eC,eV,gU,gd,gV,gW,gc,eq,fw,kE,ic,fx,kq,oZ,iH,fM,iK,eJ,fW,fc,dW,dX,dv,fj,fm,d9,fk,fq,dY,ml,gY,gZ,mm,jz,g9]
theorem D2.OM{n:Sn}(h:D2 B i n o (.Ci::Q) W mn mo bn bo):
 D2 B i {n with ask:=false} o Q W mn mo bn bo:=by
 obtain⟨ha,m9⟩:=h
 cases ha
 cases m9
 constructor
 all_goals constructor<;>first|assumption|grind[gX,Sub,du,gR,fD,iU,mg,gS,jw,jc,mh,gD,mj,lw,lR,jx,jy,g8,dV,fh,d8,fe,ff,fg,eT,eC,eV,gU,gd,gV,gW,gc,eq,fw,kE,ic,fx,kq,oZ,iH,fM,iK,eJ,fW,fc,dW,dX,dv,fj,fm,d9,fk,fq,dY,ml,gY,gZ,mm,jz,g9]
theorem D2.vQ{n:Sn}(h:D2 B i n o (.vQ::Q) W mn mo bn bo):
 D2 B i {n with A8:=false} o Q W mn mo bn bo:=by
 obtain⟨ha,m9⟩:=h
 have hz:num eJ Q=0:=dY ha.ro rfl
 cases ha
 cases m9
 constructor
 all_goals constructor<;>first|assumption|grind[gX,Sub,du,gR,fD,iU,mg,gS,jw,jc,mh,gD,mj,lw,lR,jx,jy,g8,dV,fh,d8,fe,ff,fg,eT,eC,eV,gU,gd,gV,gW,gc,eq,fw,kE,ic,fx,kq,oZ,iH,fM,iK,eJ,fW,fc,dW,dX,dv,fj,fm,d9,fk,fq,dY,ml,gY,gZ,mm,jz,g9]
structure QH(i:Bool)(c c':Cl)(Q':List Pq):Prop where
 a:∀j,c'.a j=c.a j
 u:c'.ai.up=c.ai.up
 k:c'.ai.bd=c.ai.bd
 t:c'.ai.t i=Q'.map (Ji c.ai.bd)
 t2:c'.ai.t (!i)=c.ai.t (!i)
variable{c:Cl}
theorem Fq{x:ByteArray}{r:List ByteArray}(h:c.ai.t i=x::r):∃c',oz c (oi i)=aW c' (oi i) (bF (c.a i) x).1 (bF (c.a i) x).2/\(∀j,c'.a j=c.a j)/\c'.ai.up=c.ai.up/\c'.ai.bd=c.ai.bd/\c'.ai.t i=r/\c'.ai.t (!i)=c.ai.t (!i):=by
 unfold oz ge
 cases i with
 |false=>
  have h':c.ai.lI=x::r:=h
  refine⟨{c with ai:={c.ai with lI:=r}},?_,fun j=>by cases j<;>rfl,rfl,rfl,rfl,rfl⟩
  rw[show(oi false==0)=true from rfl,vT]
  simp only[bA,h']
  rfl
 |true=>
  have h':c.ai.lJ=x::r:=h
  refine⟨{c with ai:={c.ai with lJ:=r}},?_,fun j=>by cases j<;>rfl,rfl,rfl,rfl,rfl⟩
  rw[show(oi true==0)=false from rfl,show(oi true==1)=true from rfl,vT]
  simp only[bA,aJ,h']
  rfl
theorem HE(h:c.ai.t i=[]):oz c (oi i)=(c,[]):=by
 unfold oz ge
 cases i with
 |false=>
  have h':c.ai.lI=[]:=h
  rw[show(oi false==0)=true from rfl]
  simp only[bA,h']
  rfl
 |true=>
  have h':c.ai.lJ=[]:=h
  rw[show(oi true==0)=false from rfl,show(oi true==1)=true from rfl]
  simp only[bA,aJ,h']
  rfl
theorem Jv{j:Bool}(h:¬j=i):j=!i:=by revert h;cases i<;>cases j<;>simp
section
variable{i:Bool}{B M:Nat}{c c':Cl}{m:Mm}{p q:Pv}{Q W:List Pq}{e:bg}{b:Nat}{x:ByteArray}
theorem Sc.eql(S:Sc i B M c m p q Q W)(pi:p.s.bp=false)(qi:q.s.bp=false)(hc:p.s.v.bH=q.s.v.bH)(b:Nat)(hb:b<B):l9 (m.a i).A b=l9 (m.a (!i)).A b:=by
 have g:=S.g
 have h0:p.s.v.bH≠0:=A_ S.s.ln.hd
 have l1:=(g.p1 p q rfl rfl).la pi qi ⟨h0,af hc.symm⟩ b hb
 have l2:=(g.p2 p q rfl rfl).la qi pi ⟨by rw[<-hc];exact h0,af hc⟩ b hb
 rw[zR (S.xh.1.trans pi),zR (S.yh.1.trans qi)] at l1 l2
 omega
variable{N:Nat}
theorem ajD{v:Vl}(h:VL N v){c:Nat}(hc:¬c<N):l9 v c=0:=by
 unfold l9
 rw[eX,jR (by rw[h.l];omega)]
 rfl
theorem V1{v:Vl}(h:VL N v){c:Nat}{z:ByteArray}(k:HB v c z):c<N:=by
 by_cases hc:c<N
 ·exact hc
 ·unfold HB at k
  rw[eX,jR (by rw[h.b];omega)] at k
  simp at k
theorem QI{a:Vl}(h:VL N a){r:Rq}{b:Nat}{k:Int}(hr:r.block=(b:Int))(hb:b<N){cc:Nat}{z:ByteArray}(jV:cc≠b)(hz:HB a cc z):HB (pD a r k) cc z:=by
 have hv:j3 a r.block=true:=by unfold j3;rw[hr,h.a];simp;omega
 rw[zF hv hr]
 unfold HB at*
 have h2:b<a.begun.length:=by rw[h.b];exact hb
 rw[iJ _ _ _ _ _ h2,aR (fun k=>jV k.symm)]
 exact hz
theorem Fs{L:Nat}{C k:Int}{a:Vl}(h:VL N a)(w:VW C L a)(r:Rq)(hk:C<=k):VL N (pD a r k)/\VW k L (pD a r k):=Qm h (w.mono hk (aL _)) r
theorem SJ{m:Mm}{o:Ou}(h:mH m e o=true)(hc:0<=m.count/\m.count<1000000):(bG e m o).count=m.count+1:=by
 have ec:wrap .i64 (m.count+1)=m.count+1:=dG (by omega) (by omega)
 unfold bG
 rw[h]
 simp only[fS,aJ]
 cases(e.ae==9&&e.node==o.node)
 ·simp only[aJ]
  rw[(uj _ _ _).1]
  exact ec
 ·simp only[bA]
  rw[(uj _ _ _).1,(uj _ _ _).1]
  exact ec
theorem Sc.data(S:Sc i B M c m p q (.data b x::Q) W)(T:QH i c c' Q)(h9:e.ae=9)(hn:e.node=oi i):bO (c.a i) (tq c.ai.bd (.data b x))=true/\qN i B m c e (aW c' (oi i) (jt (c.a i) b x).1 (jt (c.a i) b x).2):=by
 have s:=S.s
 have h5:e.ae≠5:=by rw[h9];decide
 have h4:e.ae≠4:=by rw[h9];decide
 have d:=s.d
 have r2:=d.b.OA b x (gQ ..)
 have r1:=d.b.X8 r2.1
 have p2:=d.b.pr2 r1.2.1 (af (by omega))
 have q1:=d.a.p1
 have q5:=d.a.p5
 have hs:=d.a.h1
 have st:=d.a.st
 have dd:=d.a.dd b x (gQ ..)
 have Aq:=d.b.Aq r1.2.1
 have n1:(di (c.a i) p).st≠1:=fun k=>by have:=(hs k).1;simp[Vo] at this
 simp only[di] at r1 p2 q1 q5 st n1 Aq r2
 have sH:(c.a i).ag=2\/(c.a i).ag=4:=by omega
 have hb:b<B:=by rw[r2.2.1];exact r1.2.2.2.2.2.1
 have hx:x.size=8:=by rw[r2.2.2];exact r1.2.2.2.2.2.2
 have Mb:b<p.s.an.toNat:=by rw[s.bn];exact hb
 have ng:b<32:=by have:=S.cx.b.2;omega
 refine⟨?_,?_⟩
 ·unfold bO tq
  have e1:decide ((b:Int)>=(c.a i).store.aj.an)=false:=by rw[s.ln.su];simp;omega
  rw[s.un,p2]
  simp only[e1]
  rcases sH with k|k<;>rw[k]<;>rfl
 ·have g2:=S.g.lay (i:=b) (d:=x) ng (fun k=>by rw[zR (S.xh.1.trans k)];exact V0 (S.cx.sh.v i) hb dd.1)
  have hm:=Jm p ng x
  rcases VD s.ln Mb hx with⟨t,e1,k⟩|k
  ·rw[e1]
   obtain⟨t1,t2,t3⟩:=zY s.sn (.Jf b)
   refine S.Mc (Q':=Q) (news:=[.Jf b]) (p':=⟨p.s,lA p.m [(b:Int)],iG p.x b x⟩) (n':={c.a i with store:=t}) (T.a _) (T.u.trans S.lu) T.k T.t (fun a ha=>s.rq a (ch _ ha)) T.t2 s.un t2 t1 (fun a ha=>by simp at ha;rw[ha];exact ng) (by rw[t3,qc h5];rfl) (fun _=>rfl) k rfl rfl s.mn s.wn.1 rfl rfl (g2.sub (fun v k=>by rw[k];exact wN) (fun _ k=>k)) (fun k=>absurd (p2.symm.trans k) (by simp)) s.cq ?_
   refine d.data (m:=lA p.m [(b:Int)]) (fun cc z h=>⟨V0 (S.cx.sh.v (!i)) (V1 (S.cx.sh.v (!i)) h) h,fun hh=> ?_⟩) hm.m hm.mi
   have pi:p.s.bp=false:=S.xh.1.symm.trans hh
   exact(S.eql pi Aq.2.2 (s.cq (sH.elim af fun k=>ab (af ⟨k,pi⟩))) cc (V1 (S.cx.sh.v (!i)) h)).symm
  ·refine S.w7 (n:=c.a i) (T.a _) (T.u.trans S.lu) hn h4 k (by rw[show a_ []=[] from rfl,qc h5];rfl) g2 (fun g hg v hv hi=> ?_)
   have:v.s=p.s:=by
    simp only[vS,cM,mM,lV] at hv
    rcases hv with rfl|rfl|rfl<;>rfl
   rw[this] at hi ⊢
   exact(S.fo hg).1 hi
theorem Sc.m7(S:Sc i B M c m p q (.m7 b::Q) W)(T:QH i c c' Q)(h9:e.ae=9)(hn:e.node=oi i):bO (c.a i) (tq c.ai.bd (.m7 b))=true/\qN i B m c e (aW c' (oi i) (bi (c.a i) b).1 []):=by
 have s:=S.s
 have h5:e.ae≠5:=by rw[h9];decide
 have h4:e.ae≠4:=by rw[h9];decide
 have d:=s.d
 have cs:=d.a.cs b (gQ ..)
 have cl:=d.a.cl b (gQ ..)
 have pp:=d.a.pp cs.2.2.1
 simp only[di] at cs cl pp
 have hb:=cs.2.2.2
 have sH:=cs.2.1
 have Mb:b<p.s.an.toNat:=by rw[s.bn];exact hb
 have ng:b<32:=by have:=S.cx.b.2;omega
 refine⟨?_,?_⟩
 ·unfold bO tq
  have e1:decide ((b:Int)>=(c.a i).store.aj.an)=false:=by rw[s.ln.su];simp;omega
  rw[s.un]
  simp only[e1]
  rcases sH with k|k<;>rw[k]<;>rfl
 ·have hq:p.x b=q.x b\/q.m.getLsbD b=true:=by
   rcases cl with k|k
   ·exact af k
   ·obtain⟨z,hz⟩:=sZ k
    have r2:=d.b.OA b z hz
    have r1:=d.b.X8 r2.1
    right
    have:=r1.2.2.2.2.1
    rw[<-r2.2.1] at this
    exact this
  have g2:=S.g.clr (i:=b) ng hq (fun pi qi=>by
   right
   rw[zR (S.xh.1.trans pi),zR (S.yh.1.trans qi)]
   refine S.eql pi qi (s.cq ?_) b hb
   simp only[di]
   rcases sH with k|k
   ·exact af k
   ·exact ab (af ⟨k,pi⟩))
  rcases Fc s.ln Mb with⟨t,e1,k⟩|k
  ·rw[e1]
   refine S.Mc (Q':=Q) (news:=[]) (p':=⟨p.s,ik p.m [(b:Int)],p.x⟩) (n':={c.a i with store:=t}) (T.a _) (T.u.trans S.lu) T.k T.t (fun a ha=>s.rq a (ch _ ha)) T.t2 s.un rfl rfl (fun a ha=>absurd ha (by simp)) (by rw[show a_ []=[] from rfl,qc h5];rfl) (fun _=>rfl) k rfl rfl s.mn s.wn.1 rfl rfl g2 (fun k=>absurd (pp.2.symm.trans k) (by simp)) s.cq ?_
   rw[dS]
   exact d.m7 (m:=ik p.m [(b:Int)]) (ul p.m ng)
  ·exact S.w7 (n:=c.a i) (y:=((bi (c.a i) (b:Int)).1,[])) (T.a _) (T.u.trans S.lu) hn h4 k (by rw[show a_ []=[] from rfl,qc h5];rfl) (S.g.sub (fun v k=>mK k) (fun _ k=>k)) (fun g hg v hv hi=>by
    rw[mK hv] at hi ⊢
    exact(S.fo hg).1 hi)
theorem Sc.Jf(S:Sc i B M c m p q (.Jf b::Q) W)(T:QH i c c' Q)(h9:e.ae=9)(hn:e.node=oi i):bO (c.a i) (tq c.ai.bd (.Jf b))=true/\qN i B m c e (aW c' (oi i) (iR (c.a i) b).1 (iR (c.a i) b).2):=by
 have s:=S.s
 have h5:e.ae≠5:=by rw[h9];decide
 have h4:e.ae≠4:=by rw[h9];decide
 have d:=s.d
 have r3:=d.a.rq3 b (gQ ..)
 have r1:=d.a.X8 r3.1
 have ac:=d.a.ac b (gQ ..)
 have Aq:=d.a.Aq r1.2.1
 simp only[di] at r3 r1 ac Aq
 have sH:=r1.2.2.1
 have hb:b<B:=by rw[r3.2];exact r1.2.2.2.2.2.1
 have Mb:b<p.s.an.toNat:=by rw[s.bn];exact hb
 have ng:b<32:=by have:=S.cx.b.2;omega
 have TS:(c.a i).bL.block=(b:Int):=by have:=s.wn.2 r3.1;omega
 have hpx:p.x b=(c.a i).bL.data:=by rw[r3.2];exact r1.2.2.2.1
 have hw:m.w i=(c.a i).bL:=S.h.a.wt r3.1
 refine⟨?_,?_⟩
 ·unfold bO tq
  have e1:decide ((b:Int)>=(c.a i).store.aj.an)=false:=by rw[s.ln.su];simp;omega
  rw[s.un]
  simp only[e1]
  rcases sH with k|k<;>rw[k]<;>rfl
 ·have SF:mH m e (ap (c.a i) (c.a i).bL.id 0 ⟨#[]⟩)=true:=by
   unfold mH
   have:zD m (ap (c.a i) (c.a i).bL.id 0 ⟨#[]⟩).node=(c.a i).bL:=by show zD m (c.a i).id=_;rw[S.cx.id,zU,hw]
   rw[this,r3.1,h9]
   simp[ap]
  obtain⟨X,hX,x1,x2,x3,x4,x5⟩:=Jp (i:=i) (S.cx.id i) SF ⟨S.cx.sh.c,S.cx.sh.u⟩
  rw[h9,hn,show((9:Int)==9&&oi i==oi i)=true by simp,bA] at x2
  have ak:=zW (S.cx.sh.v i) (S.cx.sh.w i) S.cx.sh.c (show m.count<m.count+1 by omega) (r:=m.w i) (i:=b) (by rw[hw];exact TS) hb
  have bk:=zW (S.cx.sh.v (!i)) (S.cx.sh.w (!i)) S.cx.sh.c (show m.count<m.count+1 by omega) (r:=m.w i) (i:=b) (by rw[hw];exact TS) hb
  have hd1:p.x b=(m.w i).data:=by rw[hw];exact hpx
  have hH:(m.a i).H=false:=S.xh.1.trans Aq.2.2
  have g2:=S.g.ak8 (i:=b) Aq.2.2 hH S.yh.1 ng hd1 (by rw[<-ac];exact hd1) ak bk
  have abp:∀l,a_ l=[ap (c.a i) (c.a i).bL.id 0 ⟨#[]⟩]->(a_ l).foldl (bG e) (bU m c e (a_ l))=X:=fun l hl=>by rw[hl,qc h5];exact hX
  have ly:=ul p.m ng
  rcases VE s.ln Mb r3.1 TS with⟨t,e1,k⟩|k
  ·rw[e1]
   have hk:a_ [ap (c.a i) (c.a i).bL.id 0 ⟨#[]⟩,o5 (c.a i) (.m7 b)]=[ap (c.a i) (c.a i).bL.id 0 ⟨#[]⟩]:=rfl
   refine S.go (Q':=Q) (news:=[.m7 b]) (X:=X) (xf:=X.a i) (p':=⟨p.s,ik p.m [(b:Int)],p.x⟩) (n':={c.a i with store:=t,bL:=iE}) (T.a _) (T.u.trans S.lu) T.k T.t (fun a ha=>s.rq a (ch _ ha)) T.t2 s.un rfl (by rw[<-s.sn];rfl) (fun a ha=>by simp at ha;rw[ha];exact ng) (abp _ hk) x5 (fun _=>x4) (fun k=>absurd k (by simp[iE])) k rfl rfl s.mn ⟨s.wn.1,fun k=>absurd k (by simp[iE])⟩ ?_ ?_ ?_ ?_ (fun _=>Aq.2.2) s.cq ?_
   ·rw[x1];exact ta (x:=⟨pD (m.a i).A (m.w i) (m.count+1),(m.a i).S,(m.a i).H,(m.a i).D⟩) S.xh.1 S.xh.2 true
   ·rw[x2];exact S.yh
   ·rw[x1];exact uq S.xh.1
   ·rw[x1,x2];exact g2
   ·rw[x1,x2]
    have ll:∀(x' y':Mh) (a2 b2:Vl),(∀cc,l9 a2 cc=if cc=b then m.count+1 else l9 x'.A cc)->(∀cc,l9 b2 cc=if cc=b then m.count+1 else l9 y'.A cc)->∀cc,(l9 y'.A cc=l9 x'.A cc->l9 b2 cc=l9 a2 cc)/\(l9 b2 cc=l9 a2 cc->cc=b\/l9 y'.A cc=l9 x'.A cc):=by
     intro x' y' a2 b2 h1 h2 cc
     rw[h1,h2]
     by_cases CA:cc=b
     ·simp[CA]
     ·simp[CA]
    have l1:=ll (m.a i) (m.a (!i)) _ _ ak.l bk.l
    refine d.Jf (m:=ik p.m [(b:Int)]) (x:=(m.w i).data) r3.1 r3.2.symm (by rw[hw];rfl) ly (fun cc z=> ?_) (fun cc z=> ?_) (fun cc z jV hz=> ?_) (fun cc z jV hz=> ?_)
    ·constructor
     ·rintro⟨h1,h2⟩
      rcases(ak.m cc z).1 h1 with⟨k1,k2⟩|⟨k1,k2⟩
      ·exact af ⟨k1,k2,fun hh=>(((l1 cc).2 (h2 hh).symm).resolve_left k1).symm⟩
      ·exact ab ⟨k1,k2⟩
     ·rintro(⟨k1,k2,k3⟩|⟨k1,k2⟩)
      ·exact⟨(ak.m cc z).2 (af ⟨k1,k2⟩),fun hh=>((l1 cc).1 (k3 hh).symm).symm⟩
      ·refine⟨(ak.m cc z).2 (ab ⟨k1,k2⟩),fun _=> ?_⟩
       show l9 (pD (m.a i).A (m.w i) (m.count+1)) cc=l9 (pD (m.a (!i)).A (m.w i) (m.count+1)) cc
       rw[ak.l,bk.l,aP k1,aP k1]
    ·constructor
     ·rintro⟨h1,h2⟩
      rcases(bk.m cc z).1 h1 with⟨k1,k2⟩|⟨k1,k2⟩
      ·exact af ⟨k1,k2,fun hh=>((l1 cc).2 (h2 hh)).resolve_left k1⟩
      ·exact ab ⟨k1,k2⟩
     ·rintro(⟨k1,k2,k3⟩|⟨k1,k2⟩)
      ·exact⟨(bk.m cc z).2 (af ⟨k1,k2⟩),fun hh=>(l1 cc).1 (k3 hh)⟩
      ·refine⟨(bk.m cc z).2 (ab ⟨k1,k2⟩),fun _=> ?_⟩
       show l9 (pD (m.a (!i)).A (m.w i) (m.count+1)) cc=l9 (pD (m.a i).A (m.w i) (m.count+1)) cc
       rw[ak.l,bk.l,aP k1,aP k1]
    ·exact QI (S.cx.sh.v i) (by rw[hw];exact TS) hb jV hz
    ·exact QI (S.cx.sh.v (!i)) (by rw[hw];exact TS) hb jV hz
  ·have xs:∀j,∃v,X.a j=⟨pD (m.a j).A (m.w i) (m.count+1),(m.a j).S,(m.a j).H,v⟩:=fun j=>by
    by_cases e0:j=i
    ·subst e0;exact⟨_,x1⟩
    ·have e0:j=!i:=Jv e0
     subst e0;exact⟨_,x2⟩
   have xc:X.count=m.count+1:=by
    rw[<-hX]
    exact SJ SF ⟨S.cx.sh.c,S.cx.sh.u⟩
   refine Jt (M1:=X) (n:=c.a i) (M':=M) S.h S.cx S.OA s (T.a _) (T.u.trans S.lu) hn h4 k (abp _ rfl) x5 ⟨fun j=> ?_,fun j=> ?_,?_,?_⟩ x4 ?_ ?_ ?_
   ·obtain⟨v,hv⟩:=xs j
    rw[hv];exact(Fs (S.cx.sh.v j) (S.cx.sh.w j) (m.w i) (show m.count<=m.count+1 by omega)).1
   ·obtain⟨v,hv⟩:=xs j
    rw[hv,xc];exact(Fs (S.cx.sh.v j) (S.cx.sh.w j) (m.w i) (show m.count<=m.count+1 by omega)).2
   ·rw[xc];have:=S.cx.sh.c;omega
   ·rw[xc];have:=S.cx.uc;omega
   ·rw[x2];exact⟨rfl,rfl⟩
   ·rw[x1,x2]
    refine g2.MU (fun v k=>⟨_,rfl,?_⟩) (fun v k=>⟨v,k,oa.refl v⟩)
    rw[mK k]
    exact⟨rfl,rfl,Jc _ _⟩
   ·intro g hg v hv hi
    rw[mK hv] at hi ⊢
    exact(S.fo hg).1 hi
end
section
variable{i:Bool}{B M:Nat}{c c':Cl}{m:Mm}{p q:Pv}{Q W:List Pq}{e:bg}{b:Nat}{x:ByteArray}
theorem Sc.n1{a:Pq}(S:Sc i B M c m p q (a::Q) W)(ha:eq a=false):(c.a i).ag≠1:=fun k=>by
 have:=(S.s.d.a.h1 k).1
 rw[lR a Q ha] at this
 exact absurd this (by simp)
theorem Sc.o3{a:Pq}(S:Sc i B M c m p q (a::Q) W)(ha:eq a=false)(o4:(c.a (!i)).ag=4)(oi':q.s.bp=true):(c.a i).ag=3:=by
 have n1:=S.n1 ha
 have:=S.s.d.b.p2
 simp only[di] at this
 have:=(this o4 oi').1
 omega
theorem Sc.m_(S:Sc i B M c m p q (.m_ b::Q) W)(T:QH i c c' Q)(h9:e.ae=9):bO (c.a i) (tq c.ai.bd (.m_ b))=true/\qN i B m c e (aW c' (oi i) (c.a i) (Eu (c.a i) b)):=by
 have s:=S.s
 have h5:e.ae≠5:=by rw[h9];decide
 have d:=s.d
 have wv:=d.b.wv b (gQ ..)
 simp only[di] at wv
 have sH:=S.o3 rfl wv.1 wv.2.1
 have hb:=wv.2.2.2
 have Mb:b<p.s.an.toNat:=by rw[s.bn];exact hb
 have ng:b<32:=by have:=S.cx.b.2;omega
 have pi:p.s.bp=false:=(S.g.p2 p q rfl rfl).ii wv.2.1
 have hf:=(S.g.f1 p rfl).f pi b hb
 rw[zR (S.xh.1.trans pi)] at hf
 refine⟨?_,?_⟩
 ·unfold bO tq
  have e1:decide ((b:Int)>=(c.a i).store.aj.an)=false:=by rw[s.ln.su];simp;omega
  rw[s.un]
  simp only[e1]
  rw[sH];rfl
 ·rw[Zj s.ln Mb]
  obtain⟨t1,t2,t3⟩:=zY s.sn (.n6 b (p.x b))
  have hz:=s.ln.hd.sz b Mb
  refine S.Mc (Q':=Q) (news:=[.n6 b (p.x b)]) (p':=p) (n':=c.a i) (T.a _) (T.u.trans S.lu) T.k T.t (fun a ha=>s.rq a (ch _ ha)) T.t2 s.un t2 t1 (fun a ha=>by simp at ha;rw[ha];exact⟨ng,hz⟩) (by rw[t3,qc h5];rfl) (fun _=>rfl) s.ln rfl rfl s.mn s.wn.1 rfl rfl S.g (fun _=>pi) s.cq ?_
  exact d.m_ ⟨hf,fun hh=>absurd ((S.yh.1.trans wv.2.1).symm.trans hh) (by simp)⟩ hz
theorem HF{l:List Ou}(h:∀o∈l,o.ae=1):a_ l=[]:=by
 unfold a_
 rw[List.filter_eq_nil_iff]
 intro o ho
 rw[h o ho]
 decide
theorem Sc.alu(S:Sc i B M c m p q Q W)(h:nf b Q=true):q.m.getLsbD b=true:=by
 obtain⟨z,hz⟩:=sZ h
 have r2:=S.s.d.b.OA b z hz
 have r1:=S.s.d.b.X8 r2.1
 have:=r1.2.2.2.2.1
 rw[<-r2.2.1] at this
 exact this
theorem Sc.n6(S:Sc i B M c m p q (.n6 b x::Q) W)(T:QH i c c' Q)(h9:e.ae=9)(hn:e.node=oi i):bO (c.a i) (tq c.ai.bd (.n6 b x))=true/\qN i B m c e (aW c' (oi i) (nc (c.a i) b x).1 (nc (c.a i) b x).2):=by
 have s:=S.s
 have h5:e.ae≠5:=by rw[h9];decide
 have h4:e.ae≠4:=by rw[h9];decide
 have d:=s.d
 have gv:=d.a.gv b x (gQ ..)
 have pv:=d.a.pv gv.1
 have hq:x=q.x b\/q.m.getLsbD b=true:=by
  rcases Jg d.a.la (by have:=d.a.wg;omega) with k|k
  ·exact af k
  ·exact ab (S.alu (show nf b (.n6 b x::Q)=true by rw[gd b _ Q rfl];exact k))
 have i5:=d.a.i5 gv.1 gv.2.1
 have p2:=d.a.p2 gv.1 gv.2.1
 have g0:=d.a.Aq
 simp only[di] at gv pv i5 p2 g0
 obtain⟨sH,pi,hw,mo,hx,hb⟩:=gv
 have Mb:b<p.s.an.toNat:=by rw[s.bn];exact hb
 have ng:b<32:=by have:=S.cx.b.2;omega
 have hwn:(c.a i).wanted=((b+1:Nat):Int):=by have:=s.wn.1;omega
 have pr0:(c.a i).aN=false:=by
  cases k:(c.a i).aN with
  |false=>rfl
  |true=>exact absurd sH (g0 k).2.1
 have qi:q.s.bp=false:=(S.g.p1 p q rfl rfl).ii pi
 have hpc:(c.a i).eQ.v.bH=q.s.v.bH:=by have:=cu Ve.bH pv;rw[qM,qM] at this;exact this
 have q0:q.s.v.bH≠0:=A_ s.lo.hd
 have hc:=ul p.m ng
 have xH:(m.a i).H=true:=S.xh.1.trans pi
 have yH:(m.a (!i)).H=false:=S.yh.1.trans qi
 have xS:(m.a i).S=(m.a (!i)).A:=S.cx.s4 i (ab sH)
 have xe:(m.a i).e=(m.a (!i)).A:=(e_t xH).trans xS
 have g3:=S.g.zN (i:=b) (d:=x) ng pi hq
 have lh:(m.a i).D=true\/∀b,b<B->l9 (m.a i).A b<=l9 (m.a (!i)).A b:=by
  rcases(S.g.f1 p rfl).lh pi with k|k
  ·exact af (S.xh.2.trans k)
  ·exact ab k
 have uB:(∀cc,(ik p.m [(b:Int)]).getLsbD cc=false)->OF B ⟨qL (c.a i) p,ik p.m [(b:Int)],iG p.x b x⟩ q (m.a i).e (m.a (!i)):=fun hz=>by
  have QJ:∀cc,cc≠b->p.m.getLsbD cc=false:=fun cc jV=>by have:=hz cc;rw[hc] at this;simpa[jV] using this
  refine⟨rfl,pv,fun cc CA=> ?_,fun cc CA=> ?_,fun cc _=>by rw[xe]⟩
  ·show q.m.getLsbD cc=true\/iG p.x b x cc=q.x cc
   rw[rI]
   by_cases jV:cc=b
   ·rw[aP jV,jV];exact hq.symm
   ·rw[aR jV]
    rcases(S.g.p1 p q rfl rfl).ri pi cc CA with k|k|k
    ·rw[QJ cc jV] at k;exact absurd k (by simp)
    ·exact af k
    ·exact ab k
  ·show my (m.a i).e cc (iG p.x b x cc)
   rw[rI,xe]
   by_cases jV:cc=b
   ·rw[aP jV,jV];exact mo.1
   ·rw[aR jV]
    rcases i5 cc CA with k|k
    ·rw[QJ cc jV] at k;exact absurd k (by simp)
    ·exact k.1
 have gf:(∀cc,(ik p.m [(b:Int)]).getLsbD cc=false)->G2 B (· ∈SB (c.a i) p b x) (One q) (m.a i) (m.a (!i)) false false:=fun hz=>
  g3.uB (uB hz) qi yH (fun _=>⟨xS,lh⟩)
 refine⟨?_,?_⟩
 ·unfold bO tq
  have e1:decide ((b:Int)>=(c.a i).store.aj.an)=false:=by rw[s.ln.su];simp;omega
  rw[s.un]
  simp only[e1]
  rw[sH];rfl
 ·rcases acG s.ln Mb hx pi hwn (S.cx.pv i sH) (by rw[hpc];exact q0) with⟨cc,t,ly,hcm,e1,k⟩|⟨hz,t,e1,k⟩|⟨hz,l,k,hl⟩|⟨l,k,hl⟩
  ·rw[e1]
   have acR:cc<32:=by rw[s.bn] at ly;have:=S.cx.b.2;omega
   refine S.Mc (Q':=Q) (news:=[.zN b, .m_ cc]) (p':=⟨p.s,ik p.m [(b:Int)],iG p.x b x⟩) (n':={c.a i with store:=t,wanted:=((cc+1:Nat):Int)}) (T.a _) (T.u.trans S.lu) T.k T.t (fun a ha=>s.rq a (ch _ ha)) T.t2 s.un rfl (by rw[<-s.sn];rfl) (fun a ha=>by simp at ha;rcases ha with rfl|rfl;exact ng;exact acR) (by rw[qc h5];rfl) (fun _=>rfl) k rfl rfl s.mn (HS _) rfl rfl (g3.sub (fun v k=>by rw[k];simp) (fun _ k=>k)) (fun k=>absurd (pr0.symm.trans k) (by simp)) s.cq ?_
   rw[show W++[Pq.zN b, .m_ cc]=(W++[.zN b])++[.m_ cc] by simp]
   exact d.n6 (m:=ik p.m [(b:Int)]) (c:=cc) hc (by rw[s.bn] at ly;exact ly)
  ·rw[e1]
   have F:=uB hz
   have g4:G2 B (One ⟨qL (c.a i) p,ik p.m [(b:Int)],iG p.x b x⟩) (One q) (m.a i) (m.a (!i)) false false:=(gf hz).sub (fun v k=>by rw[k];simp[SB]) (fun _ k=>k)
   have g5:=g4.att (d:=false) (fun k=>absurd k (by simp))
   have ef:p_ (m.a i) true (⟨qL (c.a i) p,ik p.m [(b:Int)],iG p.x b x⟩:Pv).s.bp (⟨qL (c.a i) p,ik p.m [(b:Int)],iG p.x b x⟩:Pv).s.dg=⟨(m.a i).e,(m.a i).S,false,false⟩:=zT _ _
   refine S.go (Q':=Q) (news:=[.zN b, .uB]) (X:=m) (xf:=⟨(m.a i).e,(m.a i).S,false,false⟩) (p':=⟨qL (c.a i) p,ik p.m [(b:Int)],iG p.x b x⟩) (n':={c.a i with store:=t,wanted:=0}) (T.a _) (T.u.trans S.lu) T.k T.t (fun a ha=>s.rq a (ch _ ha)) T.t2 s.un rfl (by rw[<-s.sn];rfl) (fun a ha=>by simp at ha;rcases ha with rfl|rfl;exact ng;trivial) (by rw[qc h5];rfl) rfl (fun _=>rfl) (fun k=>S.h.a.wt k) k rfl rfl s.mn ⟨nj _,fun k=>s.wn.2 k⟩ ef S.yh ?_ ?_ (fun _=>rfl) ?_ ?_
   ·intro _ _ _
    rcases lh with k|k
    ·exact af k
    ·exact ab (Fp (S.cx.sh.v i) (S.cx.hs i xH) (by rw[xS];exact k))
   ·rw[<-ef];exact g5
   ·intro _
    show(bP (c.a i).eQ.v).bH=q.s.v.bH
    rw[qM];exact hpc
   ·rw[show W++[Pq.zN b, .uB]=(W++[.zN b])++[.uB] by simp]
    have D:=d.ag2 (m:=ik p.m [(b:Int)]) (s:=qL (c.a i) p) rfl hc (X9:=MV (m.a (!i)) ⟨(m.a i).e,(m.a i).S,false,false⟩) (OB:=HB (m.a i).e) (fun cc z _ h2=>by rw[xe];exact h2)
    refine D.mono (fun _ _ h=>h) (fun cc z h=>⟨h.1,fun _=> ?_⟩) (fun _ _ h=>h) (fun _ _ h=>h)
    show l9 (m.a (!i)).A cc=l9 (m.a i).e cc
    rw[xe]
  ·refine S.w7 (n:=c.a i) (T.a _) (T.u.trans S.lu) hn h4 k (by rw[HF hl,qc h5];rfl) (gf hz) (fun g hg v hv hi=> ?_)
   simp only[SB,cM,mM,lV] at hv
   rcases hv with rfl|rfl|rfl|rfl
   ·exact absurd (pi.symm.trans hi) (by simp)
   ·exact absurd (pi.symm.trans hi) (by simp)
   ·exact absurd (pi.symm.trans hi) (by simp)
   ·show zS g (bP (c.a i).eQ.v)
    rw[pv]
    exact Jl ((S.fo hg).2 qi)
  ·refine S.w7 (n:=c.a i) (T.a _) (T.u.trans S.lu) hn h4 k (by rw[HF hl,qc h5];rfl) g3 (fun g hg v hv hi=> ?_)
   simp only[cM,mM,lV] at hv
   rcases hv with rfl|rfl|rfl
   ·exact absurd (pi.symm.trans hi) (by simp)
   ·exact absurd (pi.symm.trans hi) (by simp)
   ·exact absurd (pi.symm.trans hi) (by simp)
theorem Sc.o4{a:Pq}(S:Sc i B M c m p q (a::Q) W)(ha:eq a=false)(o4:(c.a (!i)).ag=4)(h:0<num iK (a::Q)\/0<num ic (a::Q)):(c.a i).ag=3/\(0<num ic (a::Q)->q.s.bp=false):=by
 have n1:=S.n1 ha
 have p2:=S.s.d.b.p2
 have p3:=S.s.d.b.p3
 simp only[di] at p2 p3
 cases k:q.s.bp with
 |true=>have:=p2 o4 k;exact⟨by omega,fun h=>by omega⟩
 |false=>have:=p3 o4 k;exact⟨by omega,fun _=>rfl⟩
theorem Sc.zN(S:Sc i B M c m p q (.zN b::Q) W)(T:QH i c c' Q)(h9:e.ae=9)(hn:e.node=oi i):bO (c.a i) (tq c.ai.bd (.zN b))=true/\qN i B m c e (aW c' (oi i) (io (c.a i) b) []):=by
 have s:=S.s
 have h5:e.ae≠5:=by rw[h9];decide
 have h4:e.ae≠4:=by rw[h9];decide
 have d:=s.d
 have ga:=d.a.ga b (gQ ..)
 have p0:=d.b.p0
 have o4:(c.a (!i)).ag=4:=by
  by_cases k:(c.a (!i)).ag=4
  ·exact k
  ·have:=(p0 k).2.2
   simp[num,iK] at this
 have h3:=(S.o4 rfl o4 (af (by simp[num,iK];omega))).1
 have pq:=d.a.p1
 obtain⟨hb,ga⟩:=ga
 have Mb:b<p.s.an.toNat:=by rw[s.bn];exact hb
 have ng:b<32:=by have:=S.cx.b.2;omega
 refine⟨?_,?_⟩
 ·unfold bO tq
  have e1:decide ((b:Int)>=(c.a i).store.aj.an)=false:=by rw[s.ln.su];simp;omega
  rw[s.un]
  simp only[e1]
  rw[h3];rfl
 ·rcases SC s.ln Mb with⟨k1,k2,e1⟩|⟨k1,k⟩
  ·rw[e1]
   refine S.Mc (Q':=Q) (news:=[]) (p':=p) (n':=c.a i) (T.a _) (T.u.trans S.lu) T.k T.t (fun a ha=>s.rq a (ch _ ha)) T.t2 s.un rfl rfl (fun a ha=>absurd ha (by simp)) (by rw[show a_ []=[] from rfl,qc h5];rfl) (fun _=>rfl) s.ln rfl rfl s.mn s.wn.1 rfl rfl S.g (fun k=>(d.a.Aq k).2.2) s.cq ?_
   rw[dS]
   exact d.alt
  ·have TS:(di (c.a i) p).on=true->(di (c.a i) p).rb≠b:=fun hon TS=>by
    have h1:(c.a i).bL.block.toNat=b:=TS
    have h2:=s.wn.2 hon
    exact k1 hon (by omega)
   have hq:p.x b=q.x b\/q.m.getLsbD b=true:=by
    rcases ga with k|k|k
    ·exact af k
    ·exact ab k
    ·obtain⟨z,hz⟩:=sZ k
     have r2:=d.a.OA b z hz
     exact absurd r2.2.1.symm (TS r2.1)
   have g2:=S.g.clr (i:=b) ng hq (fun pi qi=>by
    right
    rw[zR (S.xh.1.trans pi),zR (S.yh.1.trans qi)]
    exact S.eql pi qi (s.cq (ab (ab (ab ⟨o4,qi⟩)))) b hb)
   rcases k with⟨t,e1,k⟩|k
   ·rw[e1]
    refine S.Mc (Q':=Q) (news:=[]) (p':=⟨p.s,ik p.m [(b:Int)],p.x⟩) (n':={c.a i with store:=t}) (T.a _) (T.u.trans S.lu) T.k T.t (fun a ha=>s.rq a (ch _ ha)) T.t2 s.un rfl rfl (fun a ha=>absurd ha (by simp)) (by rw[show a_ []=[] from rfl,qc h5];rfl) (fun _=>rfl) k rfl rfl s.mn s.wn.1 rfl rfl g2 (fun k=>(d.a.Aq k).2.2) s.cq ?_
    rw[dS]
    exact d.zN (m:=ik p.m [(b:Int)]) TS (ul p.m ng)
   ·exact S.w7 (n:=c.a i) (y:=(io (c.a i) (b:Int),[])) (T.a _) (T.u.trans S.lu) hn h4 k (by rw[show a_ []=[] from rfl,qc h5];rfl) (S.g.sub (fun v k=>mK k) (fun _ k=>k)) (fun g hg v hv hi=>by
     rw[mK hv] at hi ⊢
     exact(S.fo hg).1 hi)
theorem Sc.uB(S:Sc i B M c m p q (.uB::Q) W)(T:QH i c c' Q)(h9:e.ae=9)(hn:e.node=oi i):bO (c.a i) (tq c.ai.bd .uB)=true/\qN i B m c e (aW c' (oi i) (ju (c.a i)).1 (ju (c.a i)).2):=by
 have s:=S.s
 have h5:e.ae≠5:=by rw[h9];decide
 have h4:e.ae≠4:=by rw[h9];decide
 have d:=s.d
 have p0:=d.b.p0
 have o4:(c.a (!i)).ag=4:=by
  by_cases k:(c.a (!i)).ag=4
  ·exact k
  ·have:=(p0 k).1
   simp[num,ic] at this
 obtain⟨h3,qi⟩:=S.o4 rfl o4 (ab (by simp[num,ic];omega))
 have qi:=qi (by simp[num,ic];omega)
 have ks:SD p.s (yx (c.a i) p):=⟨rfl,ab rfl,fun k=>k⟩
 obtain⟨g1,g2⟩:=S.su ks
 refine⟨?_,?_⟩
 ·unfold bO tq
  rw[s.un,h3];rfl
 ·rcases VG s.ln with⟨t,e1,k⟩|k
  ·rw[e1]
   refine S.Mc (Q':=Q) (news:=[.done]) (p':=⟨yx (c.a i) p,p.m,p.x⟩) (n':={c.a i with store:=t,ag:=2}) (T.a _) (T.u.trans S.lu) T.k T.t (fun a ha=>s.rq a (ch _ ha)) T.t2 s.un rfl (by rw[<-s.sn];rfl) (fun a ha=>by simp at ha;rw[ha];trivial) (by rw[qc h5];rfl) (fun _=>rfl) k rfl rfl s.mn s.wn.1 rfl rfl g1 (fun k=>(d.a.Aq k).2.2) (fun _=> ?_) ?_
   ·show(bP p.s.v).bH=q.s.v.bH
    rw[qM]
    exact s.cq (ab (ab (ab ⟨o4,qi⟩)))
   ·exact d.uB (s:=yx (c.a i) p) rfl rfl
  ·exact S.w7 (n:=c.a i) (T.a _) (T.u.trans S.lu) hn h4 k (by rw[show a_ []=[] from rfl,qc h5];rfl) g2 (S.fr2 ks)
theorem Sc.done(S:Sc i B M c m p q (.done::Q) W)(T:QH i c c' Q)(h9:e.ae=9):bO (c.a i) (tq c.ai.bd .done)=true/\qN i B m c e (aW c' (oi i) {c.a i with ag:=2} []):=by
 have s:=S.s
 have h5:e.ae≠5:=by rw[h9];decide
 have d:=s.d
 have p0:=d.a.p0
 have p2:=d.a.p2
 simp only[di] at p0 p2
 have n4:(c.a i).ag=4:=by
  by_cases k:(c.a i).ag=4
  ·exact k
  ·have:=(p0 k).2.1
   simp[num,fx] at this
 have pi:p.s.bp=false:=by
  cases k:p.s.bp with
  |false=>rfl
  |true=>have:=(p2 n4 k).2.2;simp[num,fx] at this
 refine⟨?_,?_⟩
 ·unfold bO tq
  rw[s.un,n4,s.ln.su,pi];rfl
 ·refine S.Mc (Q':=Q) (news:=[]) (p':=p) (n':={c.a i with ag:=2}) (T.a _) (T.u.trans S.lu) T.k T.t (fun a ha=>s.rq a (ch _ ha)) T.t2 s.un rfl rfl (fun a ha=>absurd ha (by simp)) (by rw[show a_ []=[] from rfl,qc h5];rfl) (fun _=>rfl) s.ln rfl rfl s.mn s.wn.1 rfl rfl S.g (fun _=>pi) (fun _=>s.cq (ab (af ⟨n4,pi⟩))) ?_
  rw[dS]
  exact d.done
variable{n:Nd}
theorem wO{k:Int}{a:Pq}(hu:n.up=true)(hs:n.ag=2\/n.ag=3\/n.ag=4)(ha:a= .ask\/a= .vQ\/(n.cb=true/\(a= .sY\/a= .Ci))):bO n (tq k a)=true:=by
 unfold bO
 rw[hu]
 rcases ha with rfl|rfl|⟨h,rfl|rfl⟩
 ·rcases hs with h|h|h<;>rw[h]<;>rfl
 ·rcases hs with h|h|h<;>rw[h]<;>rfl
 ·rw[h];rcases hs with h|h|h<;>rw[h]<;>rfl
 ·rw[h];rcases hs with h|h|h<;>rw[h]<;>rfl
theorem Sc.ask(S:Sc i B M c m p q (.ask::Q) W)(T:QH i c c' Q)(h9:e.ae=9):bO (c.a i) (tq c.ai.bd .ask)=true/\qN i B m c e (aW c' (oi i) (ed (c.a i) 10).1 (ed (c.a i) 10).2):=by
 have s:=S.s
 have h5:e.ae≠5:=by rw[h9];decide
 have d:=s.d
 have n1:=S.n1 rfl
 have st:=S.st
 refine⟨wO s.un (by omega) (af rfl),?_⟩
 rcases acH (c.a i) with⟨_,e1⟩|⟨hp,ha,e1⟩
 ·rw[e1]
  refine S.Mc (Q':=Q) (news:=[.Ci]) (p':=p) (n':=c.a i) (T.a _) (T.u.trans S.lu) T.k T.t (fun a ha=>s.rq a (ch _ ha)) T.t2 s.un rfl (by rw[<-s.sn];rfl) (fun a ha=>by simp at ha;rw[ha];trivial) (by rw[qc h5];rfl) (fun _=>rfl) s.ln rfl rfl s.mn s.wn.1 rfl rfl S.g (fun k=>(d.a.Aq k).2.2) s.cq ?_
  exact d.Ci
 ·rw[e1]
  refine S.Mc (Q':=Q) (news:=[.sY]) (p':=p) (n':={c.a i with cU:=true}) (T.a _) (T.u.trans S.lu) T.k T.t (fun a ha=>s.rq a (ch _ ha)) T.t2 s.un rfl (by rw[<-s.sn];rfl) (fun a ha=>by simp at ha;rw[ha];trivial) (by rw[qc h5];rfl) (fun _=>rfl) s.ln rfl rfl s.mn s.wn.1 rfl rfl S.g (fun k=>(d.a.Aq k).2.2) s.cq ?_
  exact d.sY hp ha
theorem Sc.asks{a:Pq}(S:Sc i B M c m p q (a::Q) W)(ha:oZ a=true):(c.a i).cb=true:=by
 have r3:=S.s.d.a.r3
 cases k:(c.a i).cb with
 |true=>rfl
 |false=>
  rw[aR (show ¬(di (c.a i) p).ask=true by show ¬(c.a i).cb=true;rw[k];simp)] at r3
  simp[num,ha] at r3
theorem Sc.Ju(S:Sc i B M c m p q (.sY::Q) W)(T:QH i c c' Q)(h9:e.ae=9)(hn:e.node=oi i):bO (c.a i) (tq c.ai.bd .sY)=true/\qN i B m c e (aW c' (oi i) (ed (c.a i) 11).1 (ed (c.a i) 11).2):=by
 have s:=S.s
 have h5:e.ae≠5:=by rw[h9];decide
 have h4:e.ae≠4:=by rw[h9];decide
 have d:=s.d
 have n1:=S.n1 rfl
 have st:=S.st
 have ask:=S.asks rfl
 have ak:=d.a.ak ask
 have alv:(c.a i).bL.on=false:=by
  cases k:(c.a i).bL.on with
  |false=>rfl
  |true=>
   have:=(d.a.Aq (d.a.X8 k).2.1).1
   exact absurd (ask.symm.trans this) (by simp)
 have ks:SD p.s {p.s with cH:=true}:=⟨rfl,af rfl,fun k=>k⟩
 obtain⟨g1,g2⟩:=S.su ks
 refine⟨wO s.un (by omega) (ab (ab ⟨ask,af rfl⟩)),?_⟩
 rcases VH s.ln with⟨t,e1,k⟩|k
 ·rw[e1]
  refine S.Mc (Q':=Q) (news:=[]) (p':=⟨{p.s with cH:=true},p.m,p.x⟩) (n':={c.a i with store:=t,aN:=true,cb:=false,bM:=0}) (T.a _) (T.u.trans S.lu) T.k T.t (fun a ha=>s.rq a (ch _ ha)) T.t2 s.un rfl rfl (fun a ha=>absurd ha (by simp)) ?_ (fun _=>rfl) k rfl rfl s.mn s.wn.1 rfl rfl g1 (fun _=>ak.2) s.cq ?_
  ·rw[qc h5]
   refine CP fun o ho _ _=> ?_
   have ho:=(List.mem_filter.1 ho).1
   simp at ho
   rw[ho]
   show(zD m (c.a i).id).on=false
   rw[S.cx.id,zU,S.cx.won]
   exact alv
  ·rw[dS]
   exact d.Ju (s:={p.s with cH:=true}) rfl rfl
 ·exact S.w7 (n:=c.a i) (T.a _) (T.u.trans S.lu) hn h4 k (by rw[show a_ []=[] from rfl,qc h5];rfl) g2 (S.fr2 ks)
theorem Sc.OM(S:Sc i B M c m p q (.Ci::Q) W)(T:QH i c c' Q)(h9:e.ae=9):bO (c.a i) (tq c.ai.bd .Ci)=true/\qN i B m c e (aW c' (oi i) (ed (c.a i) 12).1 (ed (c.a i) 12).2):=by
 have s:=S.s
 have h5:e.ae≠5:=by rw[h9];decide
 have d:=s.d
 have n1:=S.n1 rfl
 have st:=S.st
 have ask:=S.asks rfl
 refine⟨wO s.un (by omega) (ab (ab ⟨ask,ab rfl⟩)),?_⟩
 have e1:ed (c.a i) 12=({c.a i with cb:=false,bM:=0},[ap {c.a i with cb:=false,bM:=0} (c.a i).bM 12 ⟨#[]⟩]):=rfl
 rw[e1]
 refine S.Mc (Q':=Q) (news:=[]) (p':=p) (n':={c.a i with cb:=false,bM:=0}) (T.a _) (T.u.trans S.lu) T.k T.t (fun a ha=>s.rq a (ch _ ha)) T.t2 s.un rfl rfl (fun a ha=>absurd ha (by simp)) ?_ (fun _=>rfl) s.ln rfl rfl s.mn s.wn.1 rfl rfl S.g (fun k=>(d.a.Aq k).2.2) s.cq ?_
 ·rw[qc h5]
  exact qa (CO.one fun k=>absurd k.2 (by simp[ap]))
 ·rw[dS]
  exact d.OM
theorem Sc.vQ(S:Sc i B M c m p q (.vQ::Q) W)(T:QH i c c' Q)(h9:e.ae=9):bO (c.a i) (tq c.ai.bd .vQ)=true/\qN i B m c e (aW c' (oi i) (ed (c.a i) 13).1 (ed (c.a i) 13).2):=by
 have s:=S.s
 have h5:e.ae≠5:=by rw[h9];decide
 have d:=s.d
 have n1:=S.n1 rfl
 have st:=S.st
 refine⟨wO s.un (by omega) (ab (af rfl)),?_⟩
 have e1:ed (c.a i) 13=({c.a i with cU:=false},[]):=rfl
 rw[e1]
 refine S.Mc (Q':=Q) (news:=[]) (p':=p) (n':={c.a i with cU:=false}) (T.a _) (T.u.trans S.lu) T.k T.t (fun a ha=>s.rq a (ch _ ha)) T.t2 s.un rfl rfl (fun a ha=>absurd ha (by simp)) (by rw[show a_ []=[] from rfl,qc h5];rfl) (fun _=>rfl) s.ln rfl rfl s.mn s.wn.1 rfl rfl S.g (fun k=>(d.a.Aq k).2.2) s.cq ?_
 rw[dS]
 exact d.vQ
end
variable{n:Nd}{p:Pv}
theorem SK(gm:n.id=oi i)(lv:Lv n.store p)(H:He):b9 n H=(vR i (di n p).cX H,qK i (di n p).cX H):=by
 have e:ji n=(di n p).cX:=by unfold ji Sn.cX;rw[lv.su,lv.ma];rfl
 unfold b9
 rw[gm,e]
 cases i<;>rfl
section
variable{i:Bool}{B M:Nat}{c c':Cl}{m:Mm}{p q:Pv}{Q W:List Pq}{e:bg}{b:Nat}{x:ByteArray}{H:He}
theorem Sc.aw(S:Sc i B M c m p q (.aw H::Q) W)(T:QH i c c' Q)(h9:e.ae=9)(hn:e.node=oi i):bO (c.a i) (tq c.ai.bd (.aw H))=true/\qN i B m c e (aW c' (oi i) (AY (c.a i) H).1 (AY (c.a i) H).2):=by
 have s:=S.s
 have h5:e.ae≠5:=by rw[h9];decide
 have h4:e.ae≠4:=by rw[h9];decide
 have d:=s.d
 have Zw:(c.a i).ag=1:=by
  by_cases k:(c.a i).ag=1
  ·exact k
  ·have:=d.a.h2 k
   simp[num,eq] at this
 obtain⟨_,_,ho1,ho2,ho3⟩:=d.a.h1 Zw
 rw[lw] at ho1 ho2 ho3
 have g0:=d.a.g0 Zw
 have hR:=s.rq _ (gQ ..)
 have hH0:H.v.bH≠0:=(wF hR.1).2.2
 have p0:p.s.v.bH≠0:=A_ s.ln.hd
 have pb:=s.ln.hd.bl
 have qb:=s.lo.hd.bl
 have wn0:(c.a i).wanted=0:=by have h1:=g0.1;have h2:=s.wn.1;simp only[di] at h1;omega
 have ev:b9 (c.a i) H=(vR i (di (c.a i) p).cX H,qK i (di (c.a i) p).cX H):=SK (S.cx.id i) s.ln H
 have em:AY (c.a i) H=lB (c.a i) H (vR i (di (c.a i) p).cX H) (qK i (di (c.a i) p).cX H):=by unfold AY;rw[ev]
 rw[em]
 have apf:(di (c.a i) p).cX=Gi p.s (c.a i).aN p.m:=rfl
 have ost:(c.a (!i)).ag=1->H=Gi q.s (c.a (!i)).aN q.m:=fun k=>(ho1 k).2
 have xe1:(m.a i).H=true->(m.a i).S=(m.a (!i)).A:=fun _=>S.cx.s4 i (af Zw)
 have rm:∀{s t:He},Ba s t (vR i (di (c.a i) p).cX H).ae->s.an=p.s.an->dP (di (c.a i) p).cX.cr p.s.an=true->dP H.cr p.s.an=true->(di (c.a i) p).cX.an=H.an->dP (qK i (di (c.a i) p).cX H) p.s.an=true:=by
  intro s t D hb r1 r2 qT
  rcases D.kk with e1|e1
  ·have:qK i (di (c.a i) p).cX H=(di (c.a i) p).cX.cr|||H.cr:=by
    apply ql
    intro j _
    rw[QF e1,nh]
   rw[this]
   exact Vp r1 r2
  ·have:qK i (di (c.a i) p).cX H=AV p.s.an:=by
    apply ql
    intro j _
    rw[Bb e1 qT (show 1<=p.s.an from pb.1) (show p.s.an<=32 from pb.2),zO pb.1 pb.2]
    rfl
   rw[this]
   exact acC pb.1 pb.2
 have r1:dP (di (c.a i) p).cX.cr p.s.an=true:=s.ln.hd.rm
 have rH:dP H.cr H.an=true:=by
  have:=hR.1
  unfold eZ at this
  simp only[cY] at this
  exact this.1.1.2
 refine⟨?_,?_⟩
 ·unfold bO tq
  rw[s.un,Zw];rfl
 ·rcases VM i (di (c.a i) p).cX H p0 hH0 with⟨f0,f1⟩|⟨f0,f1,f2,f3,f4,f5,f6,f7,f8⟩|⟨f0,f1,D⟩|⟨f0,f1,D⟩
  · -- ajG
    have e1:lB (c.a i) H (vR i (di (c.a i) p).cX H) (qK i (di (c.a i) p).cX H)=(c.a i,[e9 (c.a i)]):=by unfold lB;rw[f1];rfl
    rw[e1]
    exact S.close (T.a _) (T.u.trans S.lu) hn h4 h5 (fun _=>g0.2.2.1)
  · -- Yr is alw
    have ks:SD p.s (yx (c.a i) p):=⟨rfl,ab rfl,fun k=>k⟩
    obtain⟨g1,g2⟩:=S.su ks
    rcases VI (n:=c.a i) s.ln (H:=H) (v:=vR i (di (c.a i) p).cX H) (m:=qK i (di (c.a i) p).cX H) (by rw[f1];decide) f1 with⟨t,e1,k⟩|k
    ·rw[e1]
     refine S.Mc (Q':=Q) (news:=[]) (p':=⟨yx (c.a i) p,p.m,p.x⟩) (n':={c.a i with store:=t,ag:=2,cU:=H.cH,eQ:=H}) (T.a _) (T.u.trans S.lu) T.k T.t (fun a ha=>s.rq a (ch _ ha)) T.t2 s.un rfl rfl (fun a ha=>absurd ha (by simp)) (by rw[show a_ []=[] from rfl,qc h5];rfl) (fun _=>rfl) k rfl rfl s.mn s.wn.1 rfl rfl g1 (fun k=>(d.a.Aq k).2.2) (fun _=> ?_) ?_
     ·show(bP p.s.v).bH=q.s.v.bH
      rw[qM]
      by_cases k1:(c.a (!i)).ag=1
      ·have:=ost k1
       rw[this] at f5
       exact f5
      ·rcases(ho2 k1).2 with k2|k2|k2
       ·exact s.cq (ab (ab (af k2.1)))
       ·exact absurd (f0.symm.trans k2.2.1) (by decide)
       ·exact absurd (f0.symm.trans k2.2) (by decide)
     ·rw[dS]
      exact d.none (s:=yx (c.a i) p) Zw f0 f8 rfl rfl
    ·exact S.w7 (n:=c.a i) (T.a _) (T.u.trans S.lu) hn h4 k (by rw[show a_ []=[] from rfl,qc h5];rfl) g2 (S.fr2 ks)
  · -- the VY
    have hk:=D.kk
    have eb:H.an=p.s.an:=D.bl.symm
    have hm:dP (qK i (di (c.a i) p).cX H) p.s.an=true:=rm D rfl r1 (by rw[<-eb];exact rH) D.bl
    have qS:(vR i (di (c.a i) p).cX H).iY=(c.a i).id:=by rw[f1,S.cx.id];cases i<;>rfl
    have dm:oa ⟨p.s,p.m|||qK i (di (c.a i) p).cX H,p.x⟩ p:=⟨rfl,rfl,fun cc hc=>by show(p.m|||_).getLsbD cc=true;rw[nh,hc];rfl⟩
    have g2:G2 B (· ∈[p,⟨p.s,p.m|||qK i (di (c.a i) p).cX H,p.x⟩]) (One q) (m.a i) (m.a (!i)) false false:=by
     refine S.g.MU (fun v k=>⟨p,rfl,?_⟩) (fun v k=>⟨v,k,oa.refl v⟩)
     rcases vU k with rfl|rfl
     ·exact oa.refl _
     ·exact dm
    have hpr:(di (c.a i) p).cH=true->H.cH=true->False:=fun _ k=>absurd (D.tp.symm.trans k) (by simp)
    rcases OD (n:=c.a i) s.ln (H:=H) (v:=vR i (di (c.a i) p).cX H) (m:=qK i (di (c.a i) p).cX H) (by rcases hk with k|k<;>rw[k]<;>decide) (by rcases hk with k|k<;>rw[k]<;>decide) qS hm with⟨t,e1,k⟩|k
    ·rw[e1]
     refine S.Mc (Q':=Q) (news:=[]) (p':=⟨p.s,p.m|||qK i (di (c.a i) p).cX H,p.x⟩) (n':={c.a i with store:=t,ag:=3,cU:=H.cH,eQ:=H}) (T.a _) (T.u.trans S.lu) T.k T.t (fun a ha=>s.rq a (ch _ ha)) T.t2 s.un rfl rfl (fun a ha=>absurd ha (by simp)) (by rw[show a_ []=[] from rfl,qc h5];rfl) (fun _=>rfl) k rfl rfl s.mn s.wn.1 rfl rfl (g2.sub (fun v k=>by rw[k];simp) (fun _ k=>k)) (fun k=>(d.a.Aq k).2.2) (fun k=> ?_) ?_
     ·rcases k with k|k|k|k
      ·exact absurd k (by show ¬((3:Int)=2);decide)
      ·exact absurd k.1 (by show ¬((3:Int)=4);decide)
      ·exact s.cq (ab (ab (af k)))
      ·exact s.cq (ab (ab (ab k)))
     ·rw[dS]
      refine d.VY (m:=p.m|||qK i (di (c.a i) p).cX H) Zw f0 hpr (fun cc=>nh) (fun k1 bb hb=> ?_)
      have eH:=ost k1
      exact abl (s:=(di (c.a i) p).cX) (t:=H) S.g.B5 D rfl rfl (by rw[eH];rfl) (by rw[eH];rfl) S.yh.1 S.xh.1 (af ⟨rfl,rfl⟩) rfl (by rw[eH];exact s.bo) (by rw[eH];exact qb) bb hb
    ·refine S.w7 (n:=c.a i) (T.a _) (T.u.trans S.lu) hn h4 k (by rw[show a_ []=[] from rfl,qc h5];rfl) g2 (fun g hg v hv hi=> ?_)
     have:v.s=p.s:=by rcases vU hv with rfl|rfl<;>rfl
     rw[this] at hi ⊢
     exact(S.fo hg).1 hi
  · -- the target
    have hk:=D.kk
    have eb:H.an=p.s.an:=D.bl
    have hm:dP (qK i (di (c.a i) p).cX H) p.s.an=true:=rm D eb r1 (by rw[<-eb];exact rH) D.bl.symm
    have qS:(vR i (di (c.a i) p).cX H).iY≠(c.a i).id:=by rw[f1,S.cx.id];cases i<;>simp[oi]
    have np:(c.a i).aN=false:=D.tp
    have hv:H.v=q.s.v/\H.bp=q.s.bp/\((c.a (!i)).ag=1\/(c.a (!i)).ag=3):=by
     by_cases k1:(c.a (!i)).ag=1
     ·rw[ost k1];exact⟨rfl,rfl,af k1⟩
     ·rcases(ho2 k1).2 with k2|k2|k2
      ·exact absurd (f0.symm.trans k2.2) (by decide)
      ·exact⟨k2.2.2.1,k2.2.2.2,ab k2.1⟩
      ·exact absurd (f0.symm.trans k2.2) (by decide)
    have qi:q.s.bp=false:=by rw[<-hv.2.1];exact D.si
    have yH:(m.a (!i)).H=false:=S.yh.1.trans qi
    have hl:=agT (t:=(di (c.a i) p).cX) S.g D hv.1 hv.2.1 rfl rfl rfl S.xh.1 S.yh.1
    have h6:=agU (t:=(di (c.a i) p).cX) S.g D hv.1 hv.2.1 rfl rfl S.xh.1 S.yh.1 (ab ⟨rfl,rfl⟩) s.bn pb
    have h51:(c.a (!i)).ag=1->∀bb,bb<B->p.m.getLsbD bb=true\/(qK i (di (c.a i) p).cX H).getLsbD bb=true\/MV (m.a i) (m.a (!i)) bb (p.x bb):=fun k1 bb hb=>
     abl (s:=H) (t:=(di (c.a i) p).cX) S.g D hv.1 hv.2.1 rfl rfl S.xh.1 S.yh.1 (ab ⟨rfl,rfl⟩) (by rw[ost k1];rfl) s.bn pb bb hb
    have hmo:∀bb,bb<B->p.m.getLsbD bb=true\/(qK i (di (c.a i) p).cX H).getLsbD bb=true\/MV (m.a i) (m.a (!i)) bb (p.x bb):=by
     rcases hv.2.2 with k1|k1
     ·exact h51 k1
     ·have:=d.a.hi Zw k1
      rw[lw] at this
      exact this
    have gT:G2 B (· ∈zQ p H (qK i (di (c.a i) p).cX H)) (One q) (m.a i) (m.a (!i)) false false:=S.g.tgt qi yH rfl hl h6
    have lh:(m.a i).H=true->(m.a i).D=true\/∀b,b<B->l9 (m.a i).A b<=l9 (m.a (!i)).A b:=fun _=>by rw[S.xh.2];exact hl
    have uB:(∀cc,(p.m|||qK i (di (c.a i) p).cX H).getLsbD cc=false)->OF B ⟨Jk p H,p.m|||qK i (di (c.a i) p).cX H,p.x⟩ q (m.a i).e (m.a (!i)):=fun hz=>by
     have hz2:∀cc,p.m.getLsbD cc=false/\(qK i (di (c.a i) p).cX H).getLsbD cc=false:=fun cc=>by
      have:=hz cc
      rw[nh,eh] at this
      exact this
     have hm2:∀cc,cc<B->MV (m.a i) (m.a (!i)) cc (p.x cc):=fun cc CA=>by
      rcases hmo cc CA with k|k|k
      ·rw[(hz2 cc).1] at k;exact absurd k (by simp)
      ·rw[(hz2 cc).2] at k;exact absurd k (by simp)
      ·exact k
     refine⟨rfl,by show bP H.v=bP q.s.v;rw[hv.1],fun cc CA=> ?_,fun cc CA=> ?_,fun cc CA=> ?_⟩
     ·rcases h6 cc CA with k|k
      ·rw[hz cc] at k;exact absurd k (by simp)
      ·exact k
     ·cases hx:(m.a i).H with
      |true=>rw[e_t hx,xe1 hx];exact(hm2 cc CA).1
      |false=>exact(S.g.f1 p rfl).f (S.xh.1.symm.trans hx) cc CA
     ·cases hx:(m.a i).H with
      |true=>rw[e_t hx,xe1 hx]
      |false=>rw[zR hx];exact((hm2 cc CA).2 hx).symm
    have gF:(∀cc,(p.m|||qK i (di (c.a i) p).cX H).getLsbD cc=false)->G2 B (· ∈zQ p H (qK i (di (c.a i) p).cX H)++[⟨Jk p H,p.m|||qK i (di (c.a i) p).cX H,p.x⟩]) (One q) (m.a i) (m.a (!i)) false false:=fun hz=>
     gT.uB (uB hz) qi yH (fun hx=>⟨xe1 hx,lh hx⟩)
    have frT:∀g∈(c.a (!i)).aQ,∀v,v∈zQ p H (qK i (di (c.a i) p).cX H)->v.s.bp=false->zS g v.s.v:=fun g hg v Ed hi=>by
     simp only[zQ,cM,mM,lV] at Ed
     rcases Ed with rfl|rfl|rfl
     ·exact(S.fo hg).1 hi
     ·exact(S.fo hg).1 hi
     ·exact absurd hi (by simp[uL])
    rcases OE (n:=c.a i) s.ln (H:=H) (v:=vR i (di (c.a i) p).cX H) (m:=qK i (di (c.a i) p).cX H) (by rcases hk with k|k<;>rw[k]<;>decide) (by rcases hk with k|k<;>rw[k]<;>decide) qS hm hR.2 hH0 wn0 with⟨cc,t,ly,hcm,e1,k⟩|⟨hz,t,e1,k⟩|⟨hz,k⟩|k
    ·rw[e1]
     have hcB:cc<B:=by rw[s.bn] at ly;exact ly
     have acR:cc<32:=by have:=S.cx.b.2;omega
     have g3:G2 B (One ⟨uL p H,p.m|||qK i (di (c.a i) p).cX H,p.x⟩) (One q) (m.a i) (m.a (!i)) false false:=gT.sub (fun v k=>by rw[k];simp[zQ]) (fun _ k=>k)
     have g4:=g3.ald (S:=(m.a i).S) (D:=p.s.dg) rfl yH
     refine S.go (Q':=Q) (news:=[.m_ cc]) (X:=m) (xf:=⟨(m.a i).A,(m.a i).S,true,p.s.dg⟩) (p':=⟨uL p H,p.m|||qK i (di (c.a i) p).cX H,p.x⟩) (n':={c.a i with store:=t,ag:=4,cU:=H.cH,eQ:=H,wanted:=((cc+1:Nat):Int)}) (T.a _) (T.u.trans S.lu) T.k T.t (fun a ha=>s.rq a (ch _ ha)) T.t2 s.un rfl (by rw[<-s.sn];rfl) (fun a ha=>by simp at ha;rw[ha];exact acR) (by rw[qc h5];rfl) rfl (fun _=>rfl) (fun k=>S.h.a.wt k) k rfl rfl s.mn ⟨HS _,fun k=>s.wn.2 k⟩ rfl S.yh (fun _ k=>absurd k (by simp[uL])) g4 (fun k=>absurd (np.symm.trans k) (by simp)) (fun k=> ?_) ?_
     ·rcases k with k|k|k|k
      ·exact absurd k (by show ¬((4:Int)=2);decide)
      ·exact absurd k.2 (by show ¬(true=false);decide)
      ·have k:(c.a (!i)).ag=2:=k
       have:=hv.2.2
       omega
      ·have k:(c.a (!i)).ag=4:=k.1
       have:=hv.2.2
       omega
     ·have D2':=d.target (m:=p.m|||qK i (di (c.a i) p).cX H) (s:=uL p H) (c:=cc) Zw f0 np (fun cc=>nh) rfl hcB h51
      exact D2'.mono (fun _ _ h=>h) (fun cc z h=>⟨h.1,fun k=>absurd k (by simp)⟩) (fun _ _ h=>h) (fun _ _ h=>h)
    ·rw[e1]
     have F:=uB hz
     have g3:G2 B (One ⟨Jk p H,p.m|||qK i (di (c.a i) p).cX H,p.x⟩) (One q) (m.a i) (m.a (!i)) false false:=(gF hz).sub (fun v k=>by rw[k];simp) (fun _ k=>k)
     have g5:=g3.att (d:=false) (fun k=>absurd k (by simp))
     have ef:p_ (m.a i) true (⟨Jk p H,p.m|||qK i (di (c.a i) p).cX H,p.x⟩:Pv).s.bp (⟨Jk p H,p.m|||qK i (di (c.a i) p).cX H,p.x⟩:Pv).s.dg=⟨(m.a i).e,(m.a i).S,false,false⟩:=zT _ _
     refine S.go (Q':=Q) (news:=[.uB]) (X:=m) (xf:=⟨(m.a i).e,(m.a i).S,false,false⟩) (p':=⟨Jk p H,p.m|||qK i (di (c.a i) p).cX H,p.x⟩) (n':={c.a i with store:=t,ag:=4,cU:=H.cH,eQ:=H}) (T.a _) (T.u.trans S.lu) T.k T.t (fun a ha=>s.rq a (ch _ ha)) T.t2 s.un rfl (by rw[<-s.sn];rfl) (fun a ha=>by simp at ha;rw[ha];trivial) (by rw[qc h5];rfl) rfl (fun _=>rfl) (fun k=>S.h.a.wt k) k rfl rfl s.mn ⟨s.wn.1,fun k=>s.wn.2 k⟩ ef S.yh ?_ ?_ (fun _=>rfl) ?_ ?_
     ·intro _ _ hx
      rcases lh hx with k|k
      ·exact af k
      ·exact ab (Fp (S.cx.sh.v i) (S.cx.hs i hx) (by rw[xe1 hx];exact k))
     ·rw[<-ef];exact g5
     ·intro _
      show(bP H.v).bH=q.s.v.bH
      rw[qM,hv.1]
     ·have D2':=d.Zu (m:=p.m|||qK i (di (c.a i) p).cX H) (s:=Jk p H) rfl rfl Zw f0 np (X9:=MV (m.a (!i)) ⟨(m.a i).e,(m.a i).S,false,false⟩) (OB:=HB (m.a i).e) (fun cc z k1 k2=>by
       cases hx:(m.a i).H with
       |true=>rw[e_t hx,xe1 hx];exact k2
       |false=>rw[zR hx];exact k1)
      refine D2'.mono (fun _ _ h=>h) (fun cc z h=>⟨h.1,fun _=> ?_⟩) (fun _ _ h=>h) (fun _ _ h=>h)
      show l9 (m.a (!i)).A cc=l9 (m.a i).e cc
      cases hx:(m.a i).H with
      |true=>rw[e_t hx,xe1 hx]
      |false=>rw[zR hx];exact h.2 hx
    ·refine S.w7 (n:=c.a i) (T.a _) (T.u.trans S.lu) hn h4 k (by rw[show a_ []=[] from rfl,qc h5];rfl) (gF hz) (fun g hg v Ed hi=> ?_)
     rcases df.1 Ed with Ed|Ed
     ·exact frT g hg v Ed hi
     ·rw[mK Ed]
      show zS g (bP H.v)
      rw[hv.1]
      exact Jl ((S.fo hg).2 qi)
    ·exact S.w7 (n:=c.a i) (T.a _) (T.u.trans S.lu) hn h4 k (by rw[show a_ []=[] from rfl,qc h5];rfl) gT frT
theorem Sc.ag3(S:Sc i B M c m p q Q W)(h9:e.ae=9)(hn:e.node=oi i):qN i B m c e (oz c (oi i)):=by
 have h5:e.ae≠5:=by rw[h9];decide
 cases Q with
 |nil=>
  rw[HE S.s.tn]
  exact⟨m,by rw[qc h5];rfl,rfl,Gn S.h (Nq.refl _) rfl rfl (fun _=>rfl)⟩
 |cons a Q=>
  obtain⟨c',e1,c1,c2,c3,c4,c5⟩:=Fq (i:=i) (c:=c) (x:=Ji c.ai.bd a) (r:=Q.map (Ji c.ai.bd)) S.s.tn
  have T:QH i c c' Q:=⟨c1,c2,c3,c4,c5⟩
  have st:=S.st
  have hrt:=S.s.rq a (gQ ..)
  have rc:bO (c.a i) (tq c.ai.bd a)=true->bF (c.a i) (Ji c.ai.bd a)=jX (c.a i) (tq c.ai.bd a):=fun hf=>by
   have:=VC (n:=c.a i) hrt (by rw[S.s.sn];exact S.s.rk) S.s.un (by omega) (by rw[S.s.sn];exact hf)
   rw[S.s.sn] at this
   exact this
  rw[e1]
  cases a with
  |aw H=>obtain⟨k1,k2⟩:=S.aw T h9 hn;rw[rc k1];exact k2
  |data b x=>obtain⟨k1,k2⟩:=S.data T h9 hn;rw[rc k1];exact k2
  |Jf b=>obtain⟨k1,k2⟩:=S.Jf T h9 hn;rw[rc k1];exact k2
  |m7 b=>obtain⟨k1,k2⟩:=S.m7 T h9 hn;rw[rc k1];exact k2
  |m_ b=>obtain⟨k1,k2⟩:=S.m_ T h9;rw[rc k1];exact k2
  |n6 b x=>obtain⟨k1,k2⟩:=S.n6 T h9 hn;rw[rc k1];exact k2
  |zN b=>obtain⟨k1,k2⟩:=S.zN T h9 hn;rw[rc k1];exact k2
  |uB=>obtain⟨k1,k2⟩:=S.uB T h9 hn;rw[rc k1];exact k2
  |done=>obtain⟨k1,k2⟩:=S.done T h9;rw[rc k1];exact k2
  |ask=>obtain⟨k1,k2⟩:=S.ask T h9;rw[rc k1];exact k2
  |sY=>obtain⟨k1,k2⟩:=S.Ju T h9 hn;rw[rc k1];exact k2
  |Ci=>obtain⟨k1,k2⟩:=S.OM T h9;rw[rc k1];exact k2
  |vQ=>obtain⟨k1,k2⟩:=S.vQ T h9;rw[rc k1];exact k2
end
def Ft(h:He)(b:ByteArray):Prop:=(cK b).2=0->(cK b).1.ae=1->(cK b).1.aw=h
theorem Ft.no{h:He}{b:ByteArray}(k:Oh b):Ft h b:=fun h0 h1=>absurd h1 (k h0)
theorem ey.is{l:List Ou}(h:ey l)(H:He):∀o∈l,o.ae=1->Ft H o.data:=fun o ho hk=>Ft.no (h o ho hk)
structure zZ(T:BZ)(a b:Nd)(k:Lk)(H0 H1:He):Prop where
 u0:a.up=true
 u1:b.up=true
 s0:a.ag≠0
 s1:b.ag≠0
 k0:a.bd=k.bd
 k1:b.bd=k.bd
 p0:PV T H0.bp H0.v
 p1:PV T H1.bp H1.v
 o0:a.ag=1->ji a=H0
 o1:b.ag=1->ji b=H1
 c0:a.ag=4->(aI H0 H1).iY=1
 c1:b.ag=4->(aI H0 H1).iY=0
 d0:(aI H0 H1).iY≠1->mA a=H0.v.bH
 d1:(aI H0 H1).iY≠0->mA b=H1.v.bH
 l0:∀x∈k.lI,Ft H1 x
 l1:∀x∈k.lJ,Ft H0 x
structure LI(T:BZ)(a b:Nd)(k:Lk):Prop where
 dn:k.up=false->a.ag=0/\b.ag=0
 up:k.up=true->∃H0 H1,zZ T a b k H0 H1
def Inv(fut:List Int)(T:BZ)(c:Cl):Prop:=CI fut T c.n0 c.n1/\LI T c.n0 c.n1 c.ai
theorem gE(i:Int):∀(l:List Ou) (k:Lk),(cw i k l).up=k.up/\(cw i k l).bd=k.bd
 |[],k=>⟨rfl,rfl⟩
 |o::l,k=>by
  have h:=gE i l (bif o.ae==1&&k.up then(dQ k (wrap .i64 (1-i)) [o.data]).1 else k)
  have h2:(bif o.ae==1&&k.up then(dQ k (wrap .i64 (1-i)) [o.data]).1 else k).up=k.up/\(bif o.ae==1&&k.up then(dQ k (wrap .i64 (1-i)) [o.data]).1 else k).bd=k.bd:=by
   refine az (p:=fun(x:Lk)=>x.up=k.up/\x.bd=k.bd) ?_ ⟨rfl,rfl⟩
   unfold dQ
   exact az (p:=fun(x:Lk×Int)=>x.1.up=k.up/\x.1.bd=k.bd) ⟨rfl,rfl⟩ (az (p:=fun(x:Lk×Int)=>x.1.up=k.up/\x.1.bd=k.bd) ⟨rfl,rfl⟩ (az (p:=fun(x:Lk×Int)=>x.1.up=k.up/\x.1.bd=k.bd) ⟨rfl,rfl⟩ ⟨rfl,rfl⟩))
  exact⟨h.1.trans h2.1,h.2.trans h2.2⟩
structure Sam(n m:Nd):Prop where
 up:m.up=n.up
 st:m.ag=n.ag
 bd:m.bd=n.bd
 cX:ji m=ji n
 bH:mA m=mA n
variable{fut:List Int}{T:BZ}
theorem th(h:CI fut T c.n0 c.n1):∃T',Inv fut T' (f9 c).1/\(f9 c).1.n0.ag=0/\(f9 c).1.n1.ag=0:=by
 obtain⟨⟨T1,h1⟩,s1⟩:=L4 h.tr h.na h.fa c.w0
 have k1:=h.B3 h1
 obtain⟨⟨T2,h2⟩,s2⟩:=L4 k1.tr k1.nb k1.fb c.w1
 exact⟨T2,⟨k1.B4 h2,⟨fun _=>⟨s1,s2⟩,fun hu=>absurd hu (by simp[f9,cO])⟩⟩,s1,s2⟩
theorem z_:∀(l:List Ou) (k:Lk),(cw 0 k l).lI=k.lI/\∀x∈(cw 0 k l).lJ,x∈k.lJ\/∃o∈l,o.ae=1/\o.data=x
 |[],k=>⟨rfl,fun x hx=>af hx⟩
 |o::l,k=>by
  have h:=z_ l (bif o.ae==1&&k.up then(dQ k (wrap .i64 (1-0)) [o.data]).1 else k)
  have h2:(bif o.ae==1&&k.up then(dQ k (wrap .i64 (1-0)) [o.data]).1 else k).lI=k.lI/\∀x∈(bif o.ae==1&&k.up then(dQ k (wrap .i64 (1-0)) [o.data]).1 else k).lJ,x∈k.lJ\/∃o'∈o::l,o'.ae=1/\o'.data=x:=by
   cases hb:(o.ae==1&&k.up) with
   |false=>exact⟨rfl,fun x hx=>af hx⟩
   |true=>
    simp only[cY,jF] at hb
    have e:(dQ k (wrap .i64 (1-0)) [o.data]).1={k with lJ:=k.lJ++[o.data]}:=by
     unfold dQ
     rw[hb.2]
     rfl
    rw[bA,e]
    refine⟨rfl,fun x hx=> ?_⟩
    rcases df.1 hx with hx|hx
    ·exact af hx
    ·exact ab ⟨o,by simp,hb.1,(by simpa using hx:x=o.data).symm⟩
  refine⟨h.1.trans h2.1,fun x hx=> ?_⟩
  rcases h.2 x hx with hx|⟨o',ho,hk⟩
  ·exact h2.2 x hx
  ·exact ab ⟨o',ch _ ho,hk⟩
variable{a b:Nd}{k:Lk}{H0 H1:He}
theorem zZ.abq{m:Nd}(h:zZ T a b k H0 H1)(hb:kD (PV T) a m)(hu:m.up=true)(h4:m.ag=4->a.ag≠4->(aI H0 H1).iY=1){l:List Ou}(ho:∀o∈l,o.ae=1->Ft H0 o.data):zZ T m b (cw 0 k l) H0 H1:=by
 have sH:=hb.st hu
 have NH:=gE 0 l k
 have Ur:=z_ l k
 have h0:=h.s0
 have hd:(aI H0 H1).iY≠1->mA m=H0.v.bH:=by
  intro hs
  have h5:a.ag≠4:=fun ha=>hs (h.c0 ha)
  have h6:m.ag≠4:=fun hm=>hs (h4 hm h5)
  rw[hb.bH hu h6 h5]
  exact h.d0 hs
 have hl:∀x∈(cw 0 k l).lJ,Ft H0 x:=by
  intro x hx
  rcases Ur.2 x hx with hx|⟨o,Ug,hk,rfl⟩
  ·exact h.l1 x hx
  ·exact ho o Ug hk
 have hc:m.ag=4->(aI H0 H1).iY=1:=by
  intro hm
  by_cases ha:a.ag=4
  ·exact h.c0 ha
  ·exact h4 hm ha
 have hw:m.ag=1->ji m=H0:=by
  intro h1
  have h2:a.ag=1:=by omega
  rw[hb.cX hu h2 h1]
  exact h.o0 h2
 exact {h with u0:=hu,s0:=by omega,k0:=by rw[(hb.up hu).2,NH.2];exact h.k0,k1:=by rw[NH.2];exact h.k1,o0:=hw,c0:=hc,d0:=hd,l0:=by rw[Ur.1];exact h.l0,l1:=hl}
theorem zZ.aly{m:Nd}(h:zZ T a b k H0 H1)(hs:Sam a m):zZ T m b k H0 H1:=
 {h with u0:=by rw[hs.up];exact h.u0,s0:=by rw[hs.st];exact h.s0,k0:=by rw[hs.bd];exact h.k0,o0:=by rw[hs.st,hs.cX];exact h.o0,c0:=by rw[hs.st];exact h.c0,d0:=by rw[hs.bH];exact h.d0}
theorem z'(c:Cl)(n:Nd)(l:List Ou):((c.ai.up=false\/n.up=true)/\(aW c 0 n l).1.n0=n/\(aW c 0 n l).1.n1=c.n1/\(aW c 0 n l).1.ai=cw 0 c.ai l)\/
 ∃d:Cl,d.n0=n/\d.n1=c.n1/\(aW c 0 n l).1=(f9 d).1:=by
 have e0:(cW c 0 n l).ai=cw 0 c.ai l:=by
  unfold cW
  exact az (p:=fun(x:Cl)=>x.ai=cw 0 c.ai l) rfl rfl
 have e1:(cW c 0 n l).n0=n:=by
  unfold cW
  exact az (p:=fun(x:Cl)=>x.n0=n) rfl rfl
 have e2:(cW c 0 n l).n1=c.n1:=by
  unfold cW
  exact az (p:=fun(x:Cl)=>x.n1=c.n1) rfl rfl
 unfold aW
 cases h1:(!(cW c 0 n l).ai.up||n.up&&!d6 l) with
 |true=>
  refine af ⟨?_,e1,e2,e0⟩
  rw[e0,(gE 0 l c.ai).1] at h1
  simp at h1
  rcases h1 with h1|h1
  ·exact af h1
  ·exact ab h1.1
 |false=>
  refine ab ?_
  cases d6 l with
  |true=>exact⟨{cW c 0 n l with w0:=false,w1:=false},e1,e2,rfl⟩
  |false=>exact⟨_,e1,e2,rfl⟩
theorem Fu{m:Nd}{l:List Ou}(hc:CI fut T m c.n1)(hd:c.ai.up=false->m.ag=0/\c.n1.ag=0)(hu:c.ai.up=true->m.up=true->∃H0 H1,zZ T m c.n1 (cw 0 c.ai l) H0 H1):∃T',Inv fut T' (aW c 0 m l).1:=by
 rcases z' c m l with⟨h0,h1,h2,h3⟩|⟨d,h1,h2,h3⟩
 ·refine⟨T,?_⟩
  unfold Inv
  rw[h1,h2,h3]
  refine⟨hc,⟨fun hk=> ?_,fun hk=> ?_⟩⟩
  ·rw[(gE 0 l c.ai).1] at hk
   have:=hd hk
   exact this
  ·rw[(gE 0 l c.ai).1] at hk
   refine hu hk ?_
   rcases h0 with h0|h0
   ·rw[h0] at hk;exact absurd hk (by simp)
   ·exact h0
 ·have Kf:CI fut T d.n0 d.n1:=by rw[h1,h2];exact hc
  obtain⟨T',hi,_⟩:=th Kf
  exact⟨T',by rw[h3];exact hi⟩
variable{x:Nd×List Ou}
theorem Zx(h:Inv fut T c)(ho:ey x.2)(hx:kD (PV T) c.n0 x.1\/(c.n0.ag=0/\x.1.ag=0/\∃T',Sx T T' c.n0 x.1))(h4:x.1.ag=4->c.n0.ag≠4->c.ai.up=true->∃H0 H1,zZ T c.n0 c.n1 c.ai H0 H1/\(aI H0 H1).iY=1):∃T',Inv fut T' (aW c 0 x.1 x.2).1:=by
 rcases hx with hb|⟨s0,s1,T',hs⟩
 ·refine Fu (h.1.B3 (Sx.bec h.1.tr hb)) (fun hk=> ?_) (fun hk hu=> ?_)
  ·have hd:=h.2.dn hk
   refine⟨?_,hd.2⟩
   have hz:c.n0.ag=0:=hd.1
   cases hu:x.1.up with
   |false=>exact hb.ok.z hu
   |true=>have:=hb.st hu;omega
  ·by_cases hx4:x.1.ag=4/\c.n0.ag≠4
   ·obtain⟨H0,H1,hg,hs⟩:=h4 hx4.1 hx4.2 hk
    exact⟨H0,H1,hg.abq hb hu (fun _ _=>hs) (ho.is _)⟩
   ·obtain⟨H0,H1,hg⟩:=h.2.up hk
    exact⟨H0,H1,hg.abq hb hu (fun a b=>absurd ⟨a,b⟩ hx4) (ho.is _)⟩
 ·refine Fu (h.1.B3 hs) (fun hk=> ?_) (fun hk _=> ?_)
  ·have hd:=h.2.dn hk
   exact⟨s1,hd.2⟩
  ·obtain⟨H0,H1,hg⟩:=h.2.up hk
   exact absurd s0 hg.s0
theorem abr(h:Inv fut T c){b:ByteArray}(hb:c.ai.up=true->(bw b c.ai.bd).2=0->b∈c.ai.lI):
 Rs (PV T) c.n0 (bF c.n0 b)/\((bF c.n0 b).1.ag=4->c.n0.ag≠4->∃H0 H1,zZ T c.n0 c.n1 c.ai H0 H1/\b∈c.ai.lI/\(cK b).1.aw=H1/\c.n0.ag=1/\(aI H0 H1).iY=1/\(b9 c.n0 H1).1.ae≠4/\(b9 c.n0 H1).1.ae≠1/\(b9 c.n0 H1).1.iY≠c.n0.id):=by
 have hn:NI (PV T) c.n0:=h.1.na
 have gm:c.n0.id=0:=h.1.ia
 have V2:c.n0.id=0\/c.n0.id=1:=by omega
 by_cases h0:c.n0.ag=0
 ·have e:bF c.n0 b=(c.n0,[]):=by
   unfold bF
   rw[h0]
   cases c.n0.up<;>rfl
  rw[e]
  exact⟨⟨kD.refl hn,ey.nil⟩,fun h4=>by simp only at h4;omega⟩
 ·have hk:c.ai.up=true:=by
   cases hk:c.ai.up with
   |true=>rfl
   |false=>have:=h.2.dn hk;omega
  have N2:∀H0 H1,zZ T c.n0 c.n1 c.ai H0 H1->Rs (PV T) c.n0 (bF c.n0 b)/\((bF c.n0 b).1.ag=4->c.n0.ag≠4->b∈c.ai.lI/\(cK b).1.aw=H1/\c.n0.ag=1/\(aI H0 H1).iY=1/\(b9 c.n0 H1).1.ae≠4/\(b9 c.n0 H1).1.ae≠1/\(b9 c.n0 H1).1.iY≠c.n0.id):=by
   intro H0 H1 hg
   have Nx:c.n0.bd=c.ai.bd:=hg.k0
   have V3:(bw b c.n0.bd).2=0->HeB (PV T) b:=fun hr hd MS=>by
    rw[Nx] at hr
    rw[hg.l0 b (hb hk hr) hd MS]
    exact hg.p1
   refine⟨vI (B0 T) hn V2 V3,fun h4 hs=> ?_⟩
   obtain⟨q1,q2,q3,q4,q5,q6,q7,q8⟩:=vJ (B0 T) hn V2 V3 h4 hs
   rw[Nx] at q3
   have hm:=hb hk q3
   have hh:=hg.l0 b hm q4 q5
   rw[hh] at q6 q7 q8
   refine⟨hm,hh,q2,?_,q6,q7,q8⟩
   have ho:=hg.o0 q2
   have hv:(b9 c.n0 H1).1=aI H0 H1:=by
    unfold b9
    rw[gm,ho]
    rfl
   rw[hv] at q6 q7 q8
   rw[gm] at q8
   have:=(ui q6 q7).iY
   omega
  obtain⟨H0,H1,hg⟩:=h.2.up hk
  have h1:=N2 H0 H1 hg
  exact⟨h1.1,fun a b=>⟨H0,H1,hg,h1.2 a b⟩⟩
theorem Aa:∀(l:List Ou) (k:Lk),(cw 1 k l).lJ=k.lJ/\∀x∈(cw 1 k l).lI,x∈k.lI\/∃o∈l,o.ae=1/\o.data=x
 |[],k=>⟨rfl,fun x hx=>af hx⟩
 |o::l,k=>by
  have h:=Aa l (bif o.ae==1&&k.up then(dQ k (wrap .i64 (1-1)) [o.data]).1 else k)
  have h2:(bif o.ae==1&&k.up then(dQ k (wrap .i64 (1-1)) [o.data]).1 else k).lJ=k.lJ/\∀x∈(bif o.ae==1&&k.up then(dQ k (wrap .i64 (1-1)) [o.data]).1 else k).lI,x∈k.lI\/∃o'∈o::l,o'.ae=1/\o'.data=x:=by
   cases hb:(o.ae==1&&k.up) with
   |false=>exact⟨rfl,fun x hx=>af hx⟩
   |true=>
    simp only[cY,jF] at hb
    have e:(dQ k (wrap .i64 (1-1)) [o.data]).1={k with lI:=k.lI++[o.data]}:=by
     unfold dQ
     rw[hb.2]
     rfl
    rw[bA,e]
    refine⟨rfl,fun x hx=> ?_⟩
    rcases df.1 hx with hx|hx
    ·exact af hx
    ·exact ab ⟨o,by simp,hb.1,(by simpa using hx:x=o.data).symm⟩
  refine⟨h.1.trans h2.1,fun x hx=> ?_⟩
  rcases h.2 x hx with hx|⟨o',ho,hk⟩
  ·exact h2.2 x hx
  ·exact ab ⟨o',ch _ ho,hk⟩
theorem zZ.abt{m:Nd}(h:zZ T a b k H0 H1)(hb:kD (PV T) b m)(hu:m.up=true)(h4:m.ag=4->b.ag≠4->(aI H0 H1).iY=0){l:List Ou}(ho:∀o∈l,o.ae=1->Ft H1 o.data):zZ T a m (cw 1 k l) H0 H1:=by
 have sH:=hb.st hu
 have NH:=gE 1 l k
 have Ur:=Aa l k
 have h0:=h.s1
 have hd:(aI H0 H1).iY≠0->mA m=H1.v.bH:=by
  intro hs
  have h5:b.ag≠4:=fun ha=>hs (h.c1 ha)
  have h6:m.ag≠4:=fun hm=>hs (h4 hm h5)
  rw[hb.bH hu h6 h5]
  exact h.d1 hs
 have hl:∀x∈(cw 1 k l).lI,Ft H1 x:=by
  intro x hx
  rcases Ur.2 x hx with hx|⟨o,Ug,hk,rfl⟩
  ·exact h.l0 x hx
  ·exact ho o Ug hk
 have hc:m.ag=4->(aI H0 H1).iY=0:=by
  intro hm
  by_cases ha:b.ag=4
  ·exact h.c1 ha
  ·exact h4 hm ha
 have hw:m.ag=1->ji m=H1:=by
  intro h1
  have h2:b.ag=1:=by omega
  rw[hb.cX hu h2 h1]
  exact h.o1 h2
 exact {h with u1:=hu,s1:=by omega,k1:=by rw[(hb.up hu).2,NH.2];exact h.k1,k0:=by rw[NH.2];exact h.k0,o1:=hw,c1:=hc,d1:=hd,l1:=by rw[Ur.1];exact h.l1,l0:=hl}
theorem zZ.alz{m:Nd}(h:zZ T a b k H0 H1)(hs:Sam b m):zZ T a m k H0 H1:=
 {h with u1:=by rw[hs.up];exact h.u1,s1:=by rw[hs.st];exact h.s1,k1:=by rw[hs.bd];exact h.k1,o1:=by rw[hs.st,hs.cX];exact h.o1,c1:=by rw[hs.st];exact h.c1,d1:=by rw[hs.bH];exact h.d1}
theorem Ab(c:Cl)(n:Nd)(l:List Ou):((c.ai.up=false\/n.up=true)/\(aW c 1 n l).1.n1=n/\(aW c 1 n l).1.n0=c.n0/\(aW c 1 n l).1.ai=cw 1 c.ai l)\/
 ∃d:Cl,d.n1=n/\d.n0=c.n0/\(aW c 1 n l).1=(f9 d).1:=by
 have e0:(cW c 1 n l).ai=cw 1 c.ai l:=by
  unfold cW
  exact az (p:=fun(x:Cl)=>x.ai=cw 1 c.ai l) rfl rfl
 have e1:(cW c 1 n l).n1=n:=by
  unfold cW
  exact az (p:=fun(x:Cl)=>x.n1=n) rfl rfl
 have e2:(cW c 1 n l).n0=c.n0:=by
  unfold cW
  exact az (p:=fun(x:Cl)=>x.n0=c.n0) rfl rfl
 unfold aW
 cases h1:(!(cW c 1 n l).ai.up||n.up&&!d6 l) with
 |true=>
  refine af ⟨?_,e1,e2,e0⟩
  rw[e0,(gE 1 l c.ai).1] at h1
  simp at h1
  rcases h1 with h1|h1
  ·exact af h1
  ·exact ab h1.1
 |false=>
  refine ab ?_
  cases d6 l with
  |true=>exact⟨{cW c 1 n l with w0:=false,w1:=false},e1,e2,rfl⟩
  |false=>exact⟨_,e1,e2,rfl⟩
theorem Fv{m:Nd}{l:List Ou}(hc:CI fut T c.n0 m)(hd:c.ai.up=false->m.ag=0/\c.n0.ag=0)(hu:c.ai.up=true->m.up=true->∃H0 H1,zZ T c.n0 m (cw 1 c.ai l) H0 H1):∃T',Inv fut T' (aW c 1 m l).1:=by
 rcases Ab c m l with⟨h0,h1,h2,h3⟩|⟨d,h1,h2,h3⟩
 ·refine⟨T,?_⟩
  unfold Inv
  rw[h1,h2,h3]
  refine⟨hc,⟨fun hk=> ?_,fun hk=> ?_⟩⟩
  ·rw[(gE 1 l c.ai).1] at hk
   have:=hd hk
   exact⟨this.2,this.1⟩
  ·rw[(gE 1 l c.ai).1] at hk
   refine hu hk ?_
   rcases h0 with h0|h0
   ·rw[h0] at hk;exact absurd hk (by simp)
   ·exact h0
 ·have Kf:CI fut T d.n0 d.n1:=by rw[h1,h2];exact hc
  obtain⟨T',hi,_⟩:=th Kf
  exact⟨T',by rw[h3];exact hi⟩
theorem Zy(h:Inv fut T c)(ho:ey x.2)(hx:kD (PV T) c.n1 x.1\/(c.n1.ag=0/\x.1.ag=0/\∃T',Sx T T' c.n1 x.1))(h4:x.1.ag=4->c.n1.ag≠4->c.ai.up=true->∃H0 H1,zZ T c.n0 c.n1 c.ai H0 H1/\(aI H0 H1).iY=0):∃T',Inv fut T' (aW c 1 x.1 x.2).1:=by
 rcases hx with hb|⟨s0,s1,T',hs⟩
 ·refine Fv (h.1.B4 (Sx.bec h.1.tr hb)) (fun hk=> ?_) (fun hk hu=> ?_)
  ·have hd:=h.2.dn hk
   refine⟨?_,hd.1⟩
   have hz:c.n1.ag=0:=hd.2
   cases hu:x.1.up with
   |false=>exact hb.ok.z hu
   |true=>have:=hb.st hu;omega
  ·by_cases hx4:x.1.ag=4/\c.n1.ag≠4
   ·obtain⟨H0,H1,hg,hs⟩:=h4 hx4.1 hx4.2 hk
    exact⟨H0,H1,hg.abt hb hu (fun _ _=>hs) (ho.is _)⟩
   ·obtain⟨H0,H1,hg⟩:=h.2.up hk
    exact⟨H0,H1,hg.abt hb hu (fun a b=>absurd ⟨a,b⟩ hx4) (ho.is _)⟩
 ·refine Fv (h.1.B4 hs) (fun hk=> ?_) (fun hk _=> ?_)
  ·have hd:=h.2.dn hk
   exact⟨s1,hd.1⟩
  ·obtain⟨H0,H1,hg⟩:=h.2.up hk
   exact absurd s0 hg.s1
theorem abu(h:Inv fut T c){b:ByteArray}(hb:c.ai.up=true->(bw b c.ai.bd).2=0->b∈c.ai.lJ):
 Rs (PV T) c.n1 (bF c.n1 b)/\((bF c.n1 b).1.ag=4->c.n1.ag≠4->∃H0 H1,zZ T c.n0 c.n1 c.ai H0 H1/\b∈c.ai.lJ/\(cK b).1.aw=H0/\c.n1.ag=1/\(aI H0 H1).iY=0/\(b9 c.n1 H0).1.ae≠4/\(b9 c.n1 H0).1.ae≠1/\(b9 c.n1 H0).1.iY≠c.n1.id):=by
 have hn:NI (PV T) c.n1:=h.1.nb
 have gm:c.n1.id=1:=h.1.ib
 have V2:c.n1.id=0\/c.n1.id=1:=by omega
 by_cases h0:c.n1.ag=0
 ·have e:bF c.n1 b=(c.n1,[]):=by
   unfold bF
   rw[h0]
   cases c.n1.up<;>rfl
  rw[e]
  exact⟨⟨kD.refl hn,ey.nil⟩,fun h4=>by simp only at h4;omega⟩
 ·have hk:c.ai.up=true:=by
   cases hk:c.ai.up with
   |true=>rfl
   |false=>have:=h.2.dn hk;omega
  have N2:∀H0 H1,zZ T c.n0 c.n1 c.ai H0 H1->Rs (PV T) c.n1 (bF c.n1 b)/\((bF c.n1 b).1.ag=4->c.n1.ag≠4->b∈c.ai.lJ/\(cK b).1.aw=H0/\c.n1.ag=1/\(aI H0 H1).iY=0/\(b9 c.n1 H0).1.ae≠4/\(b9 c.n1 H0).1.ae≠1/\(b9 c.n1 H0).1.iY≠c.n1.id):=by
   intro H0 H1 hg
   have Nx:c.n1.bd=c.ai.bd:=hg.k1
   have V3:(bw b c.n1.bd).2=0->HeB (PV T) b:=fun hr hd MS=>by
    rw[Nx] at hr
    rw[hg.l1 b (hb hk hr) hd MS]
    exact hg.p0
   refine⟨vI (B0 T) hn V2 V3,fun h4 hs=> ?_⟩
   obtain⟨q1,q2,q3,q4,q5,q6,q7,q8⟩:=vJ (B0 T) hn V2 V3 h4 hs
   rw[Nx] at q3
   have hm:=hb hk q3
   have hh:=hg.l1 b hm q4 q5
   rw[hh] at q6 q7 q8
   refine⟨hm,hh,q2,?_,q6,q7,q8⟩
   have ho:=hg.o1 q2
   have hv:(b9 c.n1 H0).1=aI H0 H1:=by
    unfold b9
    rw[gm,ho]
    rfl
   rw[hv] at q6 q7 q8
   rw[gm] at q8
   have:=(ui q6 q7).iY
   omega
  obtain⟨H0,H1,hg⟩:=h.2.up hk
  have h1:=N2 H0 H1 hg
  exact⟨h1.1,fun a b=>⟨H0,H1,hg,h1.2 a b⟩⟩
def Qs(n m:Nd):Prop:=m.ag=n.ag\/m.ag=0
theorem Qs.trans{c:Nd}(h:Qs a b)(k:Qs b c):Qs a c:=by unfold Qs at*;omega
theorem Qs.Md{m:Nd}(h:Qs n m):m.ag=4->n.ag=4:=fun h4=>by unfold Qs at h;omega
variable{α:Type}
theorem yD{b:Bool}{x y:Nd×α}(hx:Qs n x.1)(hy:Qs n y.1):Qs n (bif b then x else y).1:=by
 cases b
 ·exact hy
 ·exact hx
theorem qO(n:Nd):Qs n n:=af rfl
theorem uu(n:Nd)(b:Su):Qs n (aH n b).1:=by
 unfold aH
 exact yD (ab rfl) (af rfl)
theorem QK(n:Nd)(s:So)(e:Int):Qs n (gy n s e).1:=by
 unfold gy
 exact yD (ab rfl) (af rfl)
theorem acT(n:Nd)(b:Int)(x:ByteArray):Qs n (im n b x).1:=by
 unfold im
 have h:Qs n (gj n b).1:=QK _ _ _
 exact yD h (h.trans (QK _ _ _))
theorem Zz(n:Nd):Qs n (a9 n).1:=by
 unfold a9
 cases n.aQ with
 |nil=>exact qO n
 |cons g r=>
  show Qs n (jo n g r).1
  unfold jo
  have h:Qs n (aH (nO n g r) (pI n g)).1:=(uu (nO n g r) (pI n g))
  exact yD (af rfl) (yD h h)
theorem Fx(n:Nd)(id:Int):Qs n (cj n id).1:=by
 unfold cj
 have h:=uu n {n.store.aj with cH:=true}
 exact yD (qO n) (yD (qO n) (yD (qO n) (yD (qO n) (yD (qO n) (yD (qO n) (yD (af rfl) (yD h h)))))))
theorem HG(n:Nd)(id:Int):Qs n (dN n id).1:=by
 unfold dN
 have h:=uu n {n.store.aj with cH:=false}
 exact yD (qO n) (yD (qO n) (yD (qO n) (yD h (yD h h))))
theorem Fy(n:Nd)(id:Int):Qs n (dj n id).1:=by
 unfold dj
 have h:=uu n {n.store.aj with dg:=true}
 exact yD (qO n) (yD (qO n) (yD (qO n) (yD h h)))
theorem Me(n:Nd)(id b:Int):Qs n (js n id b).1:=by
 unfold js
 exact yD (qO n) (yD (qO n) (qO n))
theorem Mf(n:Nd)(id b:Int)(x:ByteArray):Qs n (dL n id b x).1:=by
 unfold dL
 have h:=acT n b x
 exact yD h (yD h h)
theorem Mj(n:Nd)(id b:Int)(x:ByteArray):Qs n (cD n id b x).1:=by
 unfold cD
 have h:=Zz n
 exact yD (qO n) (yD (yD h (yD h (h.trans (Mf _ _ _ _)))) (Mf _ _ _ _))
theorem wP(hn:NI (PV T) n)(k:Int):kD (PV T) n (iF n k)/\Qs n (iF n k):=by
 unfold iF
 exact az (p:=fun(x:Nd)=>kD (PV T) n x/\Qs n x) ⟨kD.vH hn (hn.d.same rfl rfl) hn.s rfl rfl rfl rfl rfl rfl rfl (fun _=>rfl) rfl,qO _⟩ ⟨kD.refl hn,qO _⟩
theorem Mk(hp:PV T n.store.aj.bp n.store.aj.v){s:Int}(hs:jO s):∀o∈(d7 n s).2,o.ae=1->Ft (ji n) o.data:=by
 intro o ho _ h0 _
 have he:o=bE (jT n s) ⟨1,0,ji (jT n s),0,⟨#[]⟩⟩:=by
  unfold d7 at ho
  simpa using ho
 subst he
 have h1:(cK (jl ⟨1,s,ji n,0,⟨#[]⟩⟩).1).2=0:=h0
 have h2:=RU (p:=⟨1,s,ji n,0,⟨#[]⟩⟩) hs hp.1 h1
 show(cK (jl ⟨1,s,ji n,0,⟨#[]⟩⟩).1).1.aw=ji n
 rw[h2]
theorem SL(c:Cl)(hu:c.n0.up=true):(cZ c).1={c with n0:=jT c.n0 c.ai.bd,ai:=cw 0 c.ai (d7 c.n0 c.ai.bd).2}:=by
 have e:(cZ c).1=(aW c 0 (jT c.n0 c.ai.bd) (d7 c.n0 c.ai.bd).2).1:=rfl
 have hb:(jT c.n0 c.ai.bd).up=true:=hu
 rw[e]
 unfold aW
 have ly:d6 (d7 c.n0 c.ai.bd).2=false:=rfl
 rw[hb,ly]
 simp only[pa,Bool.and_true,Bool.or_true,bA]
 unfold cW
 rw[hb]
 rfl
theorem SM(c:Cl)(hu:c.n1.up=true):(gz c).1={c with n1:=jT c.n1 c.ai.bd,ai:=cw 1 c.ai (d7 c.n1 c.ai.bd).2}:=by
 have e:(gz c).1=(aW c 1 (jT c.n1 c.ai.bd) (d7 c.n1 c.ai.bd).2).1:=rfl
 have hb:(jT c.n1 c.ai.bd).up=true:=hu
 rw[e]
 unfold aW
 have ly:d6 (d7 c.n1 c.ai.bd).2=false:=rfl
 rw[hb,ly]
 simp only[pa,Bool.and_true,Bool.or_true,bA]
 unfold cW
 rw[hb]
 rfl
theorem Ml(ht:gi T)(hn:NI (PV T) n)(hu:n.up=true)(s:Int):Sx T T n (jT n s):=
 Sx.vH ht ⟨hn.d,hn.s,fun h=>absurd h (show(1:Int)≠4 by decide),fun h=>absurd (hu.symm.trans h) (by simp)⟩ rfl rfl rfl
theorem Fz(h:CI fut T c.n0 c.n1)(u0:c.n0.up=true)(u1:c.n1.up=true)(hk:c.ai=fU k):Inv fut T (gz (cZ c).1).1/\(gz (cZ c).1).1.n0.ag=1/\(gz (cZ c).1).1.n1.ag=1:=by
 have hs:jO c.ai.bd:=by rw[hk];exact EK _
 have hup:c.ai.up=true:=by rw[hk];rfl
 have hv:c.ai.lI=[]/\c.ai.lJ=[]:=by rw[hk];exact⟨rfl,rfl⟩
 have e1:=SM {c with n0:=jT c.n0 c.ai.bd,ai:=cw 0 c.ai (d7 c.n0 c.ai.bd).2} u1
 rw[SL c u0,e1]
 refine⟨⟨(h.B3 (Ml h.tr h.na u0 _)).B4 (Ml h.tr h.nb u1 _),⟨fun hk=> ?_,fun _=> ?_⟩⟩,rfl,rfl⟩
 ·exfalso
  simp only at hk
  rw[(gE 1 _ _).1,(gE 0 _ _).1,hup] at hk
  exact absurd hk (by simp)
 ·have e0:(cw 0 c.ai (d7 c.n0 c.ai.bd).2).bd=c.ai.bd:=(gE 0 _ _).2
  refine⟨ji c.n0,ji c.n1,⟨u0,u1,show(1:Int)≠0 by decide,show(1:Int)≠0 by decide,?_,?_,h.na.s u0,h.nb.s u1,fun _=>rfl,fun _=>rfl,fun hh=>absurd hh (show(1:Int)≠4 by decide),fun hh=>absurd hh (show(1:Int)≠4 by decide),fun _=>rfl,fun _=>rfl,?_,?_⟩⟩
  ·exact((gE 1 _ _).2.trans e0).symm
  ·exact((gE 1 _ _).2).symm
  ·intro x hx
   rcases(Aa _ _).2 x hx with hx|⟨o,ho,hk,rfl⟩
   ·rw[(z_ _ _).1,hv.1] at hx
    exact absurd hx (by simp)
   ·refine Mk (h.nb.s u1) (s:=(cw 0 c.ai (d7 c.n0 c.ai.bd).2).bd) ?_ o ho hk
    rw[e0];exact hs
  ·intro x hx
   simp only at hx
   rw[(Aa _ _).1] at hx
   rcases(z_ _ _).2 x hx with hx|⟨o,ho,hk,rfl⟩
   ·rw[hv.2] at hx
    exact absurd hx (by simp)
   ·exact Mk (h.na.s u0) hs o ho hk
def Mn(T:BZ)(c:Cl):Prop:=∃H0 H1,zZ T c.n0 c.n1 c.ai H0 H1/\c.n0.ag=1/\(aI H0 H1).iY=1/\(b9 c.n0 H1).1.ae≠4/\(b9 c.n0 H1).1.ae≠1/\(b9 c.n0 H1).1.iY≠c.n0.id
structure Jw(fut:List Int)(S:Prop)(c d:Cl):Prop where
 inv:∃T',Inv fut T' d
 oth:d.n1.ag=4->c.n1.ag=4
 cX:d.n0.ag=4->c.n0.ag≠4->S
variable{S:Prop}{d:Cl}
theorem Jw.same(h:Inv fut T c)(e0:d.n0=c.n0)(e1:d.n1=c.n1)(ek:d.ai=c.ai):Jw fut S c d:=
 ⟨⟨T,by unfold Inv;rw[e0,e1,ek];exact h⟩,by rw[e1];exact fun h=>h,by rw[e0];exact fun h k=>absurd h k⟩
theorem SN{m:Nd}(l:List Ou)(hc:CI fut T m c.n1):Qs m (aW c 0 m l).1.n0/\Qs c.n1 (aW c 0 m l).1.n1:=by
 rcases z' c m l with⟨_,h1,h2,_⟩|⟨d,h1,h2,h3⟩
 ·rw[h1,h2];exact⟨qO _,qO _⟩
 ·have Kf:CI fut T d.n0 d.n1:=by rw[h1,h2];exact hc
  obtain⟨_,_,s0,s1⟩:=th Kf
  rw[h3]
  exact⟨ab s0,ab s1⟩
theorem Jy(h:Inv fut T c)(ho:ey x.2)(hx:kD (PV T) c.n0 x.1\/(c.n0.ag=0/\x.1.ag=0/\∃T',Sx T T' c.n0 x.1))(h4:x.1.ag=4->c.n0.ag≠4->S/\∃H0 H1,zZ T c.n0 c.n1 c.ai H0 H1/\(aI H0 H1).iY=1):Jw fut S c (aW c 0 x.1 x.2).1:=by
 have hs:∃T',CI fut T' x.1 c.n1:=by
  rcases hx with hb|⟨_,_,T',hs⟩
  ·exact⟨T,h.1.B3 (Sx.bec h.1.tr hb)⟩
  ·exact⟨T',h.1.B3 hs⟩
 obtain⟨T',hs⟩:=hs
 have hq:=SN x.2 hs
 exact⟨Zx h ho hx (fun a b _=>(h4 a b).2),hq.2.Md,fun a b=>(h4 (hq.1.Md a) b).1⟩
theorem Bd(h:Inv fut T c)(hx:Rs (PV T) c.n0 x)(hq:Qs c.n0 x.1):Jw fut S c (aW c 0 x.1 x.2).1:=
 Jy h hx.2 (af hx.1) (fun a b=>absurd (hq.Md a) b)
theorem QL(h:Inv fut T c)(e0:d.n0=c.n0)(e1:d.n1=c.n1)(ek:d.ai=c.ai):Jw fut S c (x9 d).1:=by
 unfold x9
 cases hk:!d.ai.up with
 |true=>exact Jw.same h e0 e1 ek
 |false=>
  have hc:CI fut T d.n0 d.n1:=by rw[e0,e1];exact h.1
  obtain⟨T',hi,s0,s1⟩:=th hc
  exact⟨⟨T',hi⟩,fun h=>by simp only[aJ] at h;omega,fun h=>by simp only[aJ] at h;omega⟩
theorem Mo(h:Inv fut T c):Jw fut S c (ir c 0).1:=by
 unfold ir
 cases hu:!(fL c 0).up with
 |true=>exact Jw.same h rfl rfl rfl
 |false=>
  cases hw:(!Ey (bq c 0 true) (1-0)||!(fL c (1-0)).up||c.ai.up) with
  |true=>exact Jw.same h (gA _ _ _) (gB _ _ _) (nR _ _ _)
  |false=>
   simp only[eh,ni] at hu hw
   have p0:(bq c 0 true).n0=c.n0:=gA _ _ _
   have p1:(bq c 0 true).n1=c.n1:=gB _ _ _
   have v0:c.n0.up=true:=hu
   have v1:c.n1.up=true:=hw.1.2
   have hb:=Fz (c:={bq c 0 true with ai:=fU c.ai}) (T:=T) (fut:=fut) (k:=c.ai) (by show CI fut T (bq c 0 true).n0 (bq c 0 true).n1;rw[p0,p1];exact h.1) (by show(bq c 0 true).n0.up=true;rw[p0];exact v0) (by show(bq c 0 true).n1.up=true;rw[p1];exact v1) rfl
   exact⟨⟨T,hb.1⟩,fun a=>absurd (hb.2.2.symm.trans a) (by decide),fun a=>absurd (hb.2.1.symm.trans a) (by decide)⟩
theorem SO(h:Inv fut T c):Jw fut (Mn T c) c (oz c 0).1:=by
 unfold oz
 cases hl:c.ai.lI with
 |nil=>
  have e1:(ge c.ai 0).2.2=false:=by unfold ge;rw[hl];rfl
  rw[e1]
  exact Jw.same h rfl rfl rfl
 |cons x r=>
  have e1:ge c.ai 0=(x,{c.ai with lI:=r},true):=by unfold ge;rw[hl];rfl
  rw[e1]
  have hw:∀H0 H1,zZ T c.n0 c.n1 c.ai H0 H1->zZ T c.n0 c.n1 {c.ai with lI:=r} H0 H1:=fun H0 H1 hg=>
   {hg with l0:=fun y hy=>hg.l0 y (by rw[hl];exact ch _ hy),l1:=hg.l1}
  have hi:Inv fut T {c with ai:={c.ai with lI:=r}}:=by
   refine⟨h.1,⟨h.2.dn,fun hk=> ?_⟩⟩
   obtain⟨H0,H1,hg⟩:=h.2.up hk
   exact⟨H0,H1,hw _ _ hg⟩
  have hr:=abr h (b:=x) (fun _ _=>by rw[hl];simp)
  have hq:=Jy (S:=Mn T c) hi hr.1.2 (af hr.1.1) (fun a b=>by
   obtain⟨H0,H1,hg,_,_,s1,hs,v1,v2,v3⟩:=hr.2 a b
   exact⟨⟨H0,H1,hg,s1,hs,v1,v2,v3⟩,H0,H1,hw _ _ hg,hs⟩)
  exact⟨hq.inv,hq.oth,hq.cX⟩
theorem ON(h:Inv fut T c)(ks:List Bool):Jw fut S c (bB c 0 (bS c.n0 ks).1):=by
 obtain⟨hs,hq⟩:=rG h.1.tr h.1.na ks
 rcases hq with hq|⟨hu,h0⟩
 ·rw[hq];exact Jw.same h rfl rfl rfl
 ·refine⟨⟨T,h.1.B3 hs,⟨fun hk=> ?_,fun hk=> ?_⟩⟩,fun a=>a,fun a=> ?_⟩
  ·have:=h.2.dn hk
   exact⟨h0,this.2⟩
  ·obtain⟨H0,H1,hg⟩:=h.2.up hk
   exact absurd hg.u0 (by rw[hu];simp)
  ·have:(bS c.n0 ks).1.ag=4:=a
   omega
theorem acV(h:Inv fut T c)(e:bg)(Ar:e.ae≠13):Jw fut (Mn T c) c (jv c e 0 c.n0).1:=by
 have hn:NI (PV T) c.n0:=h.1.na
 have hcp:=B0 T
 have pc:∀{b:Bool} {x y:Cl×List Ou},Jw fut (Mn T c) c x.1->Jw fut (Mn T c) c y.1->Jw fut (Mn T c) c (bif b then x else y).1:=by
  intro b x y hx hy
  cases b
  ·exact hy
  ·exact hx
 have FA:Jw fut (Mn T c) c (c,([]:List Ou)).1:=Jw.same h rfl rfl rfl
 unfold jv
 refine pc (Bd h (BQ hcp hn _) (Fx _ _)) ?_
 refine pc (Bd h (EX hcp hn _) (HG _ _)) ?_
 refine pc (Bd h (BR hcp hn _) (Fy _ _)) ?_
 refine pc (Bd h (Hg hn _ _) (Me _ _ _)) ?_
 have hw:=Hw h.1.tr hn h.1.fa e.id e.block e.data
 have hq:=Mj c.n0 e.id e.block e.data
 refine pc (Jy h hw.1 hw.2 (fun a b=>absurd (hq.Md a) b)) ?_
 refine pc (Mo h) ?_
 refine pc (QL h (gA _ _ _) (gB _ _ _) (nR _ _ _)) ?_
 refine pc (QL h rfl rfl rfl) ?_
 refine pc (SO h) ?_
 refine pc (pc FA (Bd (x:=(dz c.n0,[])) h ⟨kD.down hn.d rfl rfl rfl,ey.nil⟩ (ab rfl))) ?_
 refine pc (ON h _) ?_
 refine pc (Bd (x:=(iF c.n0 e.n,[])) h ⟨(wP hn _).1,ey.nil⟩ (wP hn _).2) ?_
 cases hk:e.ae==13 with
 |true=>exact absurd (eq_of_beq hk) Ar
 |false=>
  rw[aJ]
  refine pc ?_ FA
  cases hf:(bw e.data c.ai.bd).2==0 with
  |true=>exact FA
  |false=>
   have hr:=abr h (b:=e.data) (fun _ h0=>by rw[h0] at hf;exact absurd hf (by simp))
   refine Jy h hr.1.2 (af hr.1.1) (fun a b=> ?_)
   obtain⟨H0,H1,hg,_,_,s1,hs,v1,v2,v3⟩:=hr.2 a b
   exact⟨⟨H0,H1,hg,s1,hs,v1,v2,v3⟩,H0,H1,hg,hs⟩
def Mp(T:BZ)(c:Cl):Prop:=∃H0 H1,zZ T c.n0 c.n1 c.ai H0 H1/\c.n1.ag=1/\(aI H0 H1).iY=0/\(b9 c.n1 H0).1.ae≠4/\(b9 c.n1 H0).1.ae≠1/\(b9 c.n1 H0).1.iY≠c.n1.id
structure Jz(fut:List Int)(S:Prop)(c d:Cl):Prop where
 inv:∃T',Inv fut T' d
 oth:d.n0.ag=4->c.n0.ag=4
 cX:d.n1.ag=4->c.n1.ag≠4->S
theorem Jz.same(h:Inv fut T c)(e0:d.n0=c.n0)(e1:d.n1=c.n1)(ek:d.ai=c.ai):Jz fut S c d:=
 ⟨⟨T,by unfold Inv;rw[e0,e1,ek];exact h⟩,by rw[e0];exact fun h=>h,by rw[e1];exact fun h k=>absurd h k⟩
theorem SP{m:Nd}(l:List Ou)(hc:CI fut T c.n0 m):Qs m (aW c 1 m l).1.n1/\Qs c.n0 (aW c 1 m l).1.n0:=by
 rcases Ab c m l with⟨_,h1,h2,_⟩|⟨d,h1,h2,h3⟩
 ·rw[h1,h2];exact⟨qO _,qO _⟩
 ·have Kf:CI fut T d.n0 d.n1:=by rw[h1,h2];exact hc
  obtain⟨_,_,s0,s1⟩:=th Kf
  rw[h3]
  exact⟨ab s1,ab s0⟩
theorem JA(h:Inv fut T c)(ho:ey x.2)(hx:kD (PV T) c.n1 x.1\/(c.n1.ag=0/\x.1.ag=0/\∃T',Sx T T' c.n1 x.1))(h4:x.1.ag=4->c.n1.ag≠4->S/\∃H0 H1,zZ T c.n0 c.n1 c.ai H0 H1/\(aI H0 H1).iY=0):Jz fut S c (aW c 1 x.1 x.2).1:=by
 have hs:∃T',CI fut T' c.n0 x.1:=by
  rcases hx with hb|⟨_,_,T',hs⟩
  ·exact⟨T,h.1.B4 (Sx.bec h.1.tr hb)⟩
  ·exact⟨T',h.1.B4 hs⟩
 obtain⟨T',hs⟩:=hs
 have hq:=SP x.2 hs
 exact⟨Zy h ho hx (fun a b _=>(h4 a b).2),hq.2.Md,fun a b=>(h4 (hq.1.Md a) b).1⟩
theorem Be(h:Inv fut T c)(hx:Rs (PV T) c.n1 x)(hq:Qs c.n1 x.1):Jz fut S c (aW c 1 x.1 x.2).1:=
 JA h hx.2 (af hx.1) (fun a b=>absurd (hq.Md a) b)
theorem QM(h:Inv fut T c)(e0:d.n0=c.n0)(e1:d.n1=c.n1)(ek:d.ai=c.ai):Jz fut S c (x9 d).1:=by
 unfold x9
 cases hk:!d.ai.up with
 |true=>exact Jz.same h e0 e1 ek
 |false=>
  have hc:CI fut T d.n0 d.n1:=by rw[e0,e1];exact h.1
  obtain⟨T',hi,s0,s1⟩:=th hc
  exact⟨⟨T',hi⟩,fun h=>by simp only[aJ] at h;omega,fun h=>by simp only[aJ] at h;omega⟩
theorem Mq(h:Inv fut T c):Jz fut S c (ir c 1).1:=by
 unfold ir
 cases hu:!(fL c 1).up with
 |true=>exact Jz.same h rfl rfl rfl
 |false=>
  cases hw:(!Ey (bq c 1 true) (1-1)||!(fL c (1-1)).up||c.ai.up) with
  |true=>exact Jz.same h (gA _ _ _) (gB _ _ _) (nR _ _ _)
  |false=>
   simp only[eh,ni] at hu hw
   have p0:(bq c 1 true).n0=c.n0:=gA _ _ _
   have p1:(bq c 1 true).n1=c.n1:=gB _ _ _
   have v1:c.n1.up=true:=hu
   have v0:c.n0.up=true:=hw.1.2
   have hb:=Fz (c:={bq c 1 true with ai:=fU c.ai}) (T:=T) (fut:=fut) (k:=c.ai) (by show CI fut T (bq c 1 true).n0 (bq c 1 true).n1;rw[p0,p1];exact h.1) (by show(bq c 1 true).n0.up=true;rw[p0];exact v0) (by show(bq c 1 true).n1.up=true;rw[p1];exact v1) rfl
   exact⟨⟨T,hb.1⟩,fun a=>absurd (hb.2.1.symm.trans a) (by decide),fun a=>absurd (hb.2.2.symm.trans a) (by decide)⟩
theorem SQ(h:Inv fut T c):Jz fut (Mp T c) c (oz c 1).1:=by
 unfold oz
 cases hl:c.ai.lJ with
 |nil=>
  have e1:(ge c.ai 1).2.2=false:=by unfold ge;rw[hl];rfl
  rw[e1]
  exact Jz.same h rfl rfl rfl
 |cons x r=>
  have e1:ge c.ai 1=(x,{c.ai with lJ:=r},true):=by unfold ge;rw[hl];rfl
  rw[e1]
  have hw:∀H0 H1,zZ T c.n0 c.n1 c.ai H0 H1->zZ T c.n0 c.n1 {c.ai with lJ:=r} H0 H1:=fun H0 H1 hg=>
   {hg with l1:=fun y hy=>hg.l1 y (by rw[hl];exact ch _ hy),l0:=hg.l0}
  have hi:Inv fut T {c with ai:={c.ai with lJ:=r}}:=by
   refine⟨h.1,⟨h.2.dn,fun hk=> ?_⟩⟩
   obtain⟨H0,H1,hg⟩:=h.2.up hk
   exact⟨H0,H1,hw _ _ hg⟩
  have hr:=abu h (b:=x) (fun _ _=>by rw[hl];simp)
  have hq:=JA (S:=Mp T c) hi hr.1.2 (af hr.1.1) (fun a b=>by
   obtain⟨H0,H1,hg,_,_,s1,hs,v1,v2,v3⟩:=hr.2 a b
   exact⟨⟨H0,H1,hg,s1,hs,v1,v2,v3⟩,H0,H1,hw _ _ hg,hs⟩)
  exact⟨hq.inv,hq.oth,hq.cX⟩
theorem OO(h:Inv fut T c)(ks:List Bool):Jz fut S c (bB c 1 (bS c.n1 ks).1):=by
 obtain⟨hs,hq⟩:=rG h.1.tr h.1.nb ks
 rcases hq with hq|⟨hu,h0⟩
 ·rw[hq];exact Jz.same h rfl rfl rfl
 ·refine⟨⟨T,h.1.B4 hs,⟨fun hk=> ?_,fun hk=> ?_⟩⟩,fun a=>a,fun a=> ?_⟩
  ·have:=h.2.dn hk
   exact⟨this.1,h0⟩
  ·obtain⟨H0,H1,hg⟩:=h.2.up hk
   exact absurd hg.u1 (by rw[hu];simp)
  ·have:(bS c.n1 ks).1.ag=4:=a
   omega
theorem acX(h:Inv fut T c)(e:bg)(Ar:e.ae≠13):Jz fut (Mp T c) c (jv c e 1 c.n1).1:=by
 have hn:NI (PV T) c.n1:=h.1.nb
 have hcp:=B0 T
 have pc:∀{b:Bool} {x y:Cl×List Ou},Jz fut (Mp T c) c x.1->Jz fut (Mp T c) c y.1->Jz fut (Mp T c) c (bif b then x else y).1:=by
  intro b x y hx hy
  cases b
  ·exact hy
  ·exact hx
 have FA:Jz fut (Mp T c) c (c,([]:List Ou)).1:=Jz.same h rfl rfl rfl
 unfold jv
 refine pc (Be h (BQ hcp hn _) (Fx _ _)) ?_
 refine pc (Be h (EX hcp hn _) (HG _ _)) ?_
 refine pc (Be h (BR hcp hn _) (Fy _ _)) ?_
 refine pc (Be h (Hg hn _ _) (Me _ _ _)) ?_
 have hw:=Hw h.1.tr hn h.1.fb e.id e.block e.data
 have hq:=Mj c.n1 e.id e.block e.data
 refine pc (JA h hw.1 hw.2 (fun a b=>absurd (hq.Md a) b)) ?_
 refine pc (Mq h) ?_
 refine pc (QM h (gA _ _ _) (gB _ _ _) (nR _ _ _)) ?_
 refine pc (QM h rfl rfl rfl) ?_
 refine pc (SQ h) ?_
 refine pc (pc FA (Be (x:=(dz c.n1,[])) h ⟨kD.down hn.d rfl rfl rfl,ey.nil⟩ (ab rfl))) ?_
 refine pc (OO h _) ?_
 refine pc (Be (x:=(iF c.n1 e.n,[])) h ⟨(wP hn _).1,ey.nil⟩ (wP hn _).2) ?_
 cases hk:e.ae==13 with
 |true=>exact absurd (eq_of_beq hk) Ar
 |false=>
  rw[aJ]
  refine pc ?_ FA
  cases hf:(bw e.data c.ai.bd).2==0 with
  |true=>exact FA
  |false=>
   have hr:=abu h (b:=e.data) (fun _ h0=>by rw[h0] at hf;exact absurd hf (by simp))
   refine JA h hr.1.2 (af hr.1.1) (fun a b=> ?_)
   obtain⟨H0,H1,hg,_,_,s1,hs,v1,v2,v3⟩:=hr.2 a b
   exact⟨⟨H0,H1,hg,s1,hs,v1,v2,v3⟩,H0,H1,hg,hs⟩
def o6(l:List bg):List Int:=(l.filter (·.ae==13)).map (·.n)
variable{e:bg}
theorem wQ(h:e.ae=13)(l:List bg):o6 (e::l)=e.n::o6 l:=by
 have:(e.ae==13)=true:=by rw[h];rfl
 unfold o6
 rw[List.filter_cons_of_pos (by simpa using this)]
 rfl
theorem wR(h:e.ae≠13)(l:List bg):o6 (e::l)=o6 l:=by
 unfold o6
 rw[List.filter_cons_of_neg (by simpa using h)]
theorem Ac(h:NI (PV T) n)(g:Int):NI (PV T) (fd n g)/\Sam n (fd n g)/\(fd n g).id=n.id/\(fd n g).bh=n.bh:=by
 unfold fd
 exact az (p:=fun(x:Nd)=>NI (PV T) x/\Sam n x/\x.id=n.id/\x.bh=n.bh) ⟨⟨h.d,h.s,h.p,h.z⟩,⟨rfl,rfl,rfl,rfl,rfl⟩,rfl,rfl⟩ ⟨h,⟨rfl,rfl,rfl,rfl,rfl⟩,rfl,rfl⟩
variable{g:Int}
theorem SR{x:Int}(h:x∈(fd n g).aQ):x∈n.aQ\/x=g:=by
 unfold fd at h
 cases hb:decide ((n.aQ.length:Int)<1000) with
 |true=>
  rw[hb] at h
  have h:x∈n.aQ++[g]:=h
  simpa using h
 |false=>rw[hb] at h;exact af h
theorem V4{x:α}{l m:List α}(h:l=m)(hx:x∈l):x∈m:=h▸hx
theorem QN(h:∀x∈n.aQ,jO x)(hg:jO g):∀x∈(fd n g).aQ,jO x:=fun x hx=>by
 rcases SR hx with h5|h5
 ·exact h x h5
 ·rw[h5];exact hg
theorem B6(n:Nd)(g x:Int):(fd n g).aQ.count x<=n.aQ.count x+[g].count x:=by
 unfold fd
 cases hb:decide ((n.aQ.length:Int)<1000) with
 |true=>show(n.aQ++[g]).count x<=_;rw[List.count_append];exact aL _
 |false=>exact pL _ _
theorem QO(h:Inv fut T c){x:Int}(hx:Kn T x):inL (Og c) g x=(chain T x).contains g:=by
 unfold inL
 rw[show Qd (Og c) x=chain T x from h.1.mt.ak3 h.1.tr hx]
theorem o7{x:Int}(h:x<0)(hs:mz c d=x):EJ c d=true:=by
 unfold EJ
 have:decide (mz c d<0)=true:=by rw[hs];exact cJ h
 rw[this]
 rfl
theorem SS(h:Inv (g::fut) T c):Inv fut T (bB c 0 (fd c.n0 g)):=by
 obtain⟨k1,k2,k3,k4⟩:=Ac h.1.na g
 have hr:=QN h.1.ra (h.1.rf g (by simp))
 have hd:=B6 c.n0 g
 generalize fd c.n0 g=m at k1 k2 k3 k4 hr hd
 refine⟨{tr:=h.1.tr,na:=k1,nb:=h.1.nb,ia:=k3.trans h.1.ia,ib:=h.1.ib,mt:= ?_,ga:=fun x hx=>h.1.ga x (V4 k4 hx),gb:=h.1.gb,ct:=fun x=> ?_,ra:=hr,rb:=h.1.rb,rf:=fun x hx=>h.1.rf x (ch _ hx)},⟨fun hk=> ?_,fun hk=> ?_⟩⟩
 ·show Mts ((bB c 0 m).n0.bh++(bB c 0 m).n1.bh) T
  have e:(bB c 0 m).n0.bh=c.n0.bh:=k4
  rw[e]
  exact h.1.mt
 ·have hc:=h.1.ct x
  have hd:=hd x
  rw[xA] at hc
  rw[M4] at hd
  have e:(bB c 0 m).n0.aQ=m.aQ:=rfl
  have e2:(bB c 0 m).n1.aQ=c.n1.aQ:=rfl
  rw[e,e2]
  omega
 ·have:=h.2.dn hk
  have e:m.ag=c.n0.ag:=k2.st
  exact⟨e.trans this.1,this.2⟩
 ·obtain⟨H0,H1,hg⟩:=h.2.up hk
  exact⟨H0,H1,hg.aly k2⟩
theorem STq(h:Inv fut T c)(hs:Mn T c):c.n0.up=true/\c.n1.up=true/\(c.n0.store.aj.bp=true\/c.n0.store.aj.dg=true\/(chain T (mA c.n1)).contains (mA c.n0)=true):=by
 obtain⟨H0,H1,hg,s1,qS,v1,v2,v3⟩:=hs
 refine⟨hg.u0,hg.u1,?_⟩
 have hd:=EY (by have:=h.1.ia;omega) v1 v2 v3
 have U4:mA c.n1=H1.v.bH:=hg.d1 (by rw[qS];decide)
 rw[U4]
 rcases hd.2 with KV|KV|KV|KV
 ·exact af KV
 ·exact ab (af KV)
 ·right;right
  rw[KV]
  have:=yv T H1.v.bH
  simpa using this
 ·right;right
  obtain⟨p1,p2⟩:=Hj KV
  rcases(hg.p1.2.2 hd.1).1 _ p2 with h5|h5
  ·exact absurd h5 p1
  ·simpa using h5
variable{l:List bg}
theorem do0(h:Inv (o6 (e::l)) T c)(he:e.node=0):(∃T',Inv (o6 l) T' (iI c e).1)/\EJ c (iI c e).1=true:=by
 have e1:iI c e=jv c e 0 c.n0:=by unfold iI;rw[he];rfl
 rw[e1]
 by_cases Ar:e.ae=13
 ·have e2:(jv c e 0 c.n0).1=bB c 0 (fd c.n0 e.n):=by unfold jv;rw[Ar];rfl
  rw[e2]
  rw[wQ Ar] at h
  refine⟨⟨T,SS h⟩,o7 (x:= -1) (by decide) ?_⟩
  have e3:(bB c 0 (fd c.n0 e.n)).n0.ag=c.n0.ag:=(Ac h.1.na e.n).2.1.st
  have e4:(bB c 0 (fd c.n0 e.n)).n1.ag=c.n1.ag:=rfl
  unfold mz
  rw[e3,e4]
  cases c.n0.ag==4<;>cases c.n1.ag==4<;>rfl
 ·rw[wR Ar] at h
  have hr:=acV h e Ar
  refine⟨hr.inv,?_⟩
  by_cases sH:(jv c e 0 c.n0).1.n0.ag=4/\c.n0.ag≠4
  ·obtain⟨u0,u1,hf⟩:=STq h (hr.cX sH.1 sH.2)
   have hsm:mz c (jv c e 0 c.n0).1=0:=by
    have ho:=hr.oth
    have b1:((jv c e 0 c.n0).1.n0.ag==4)=true:=by rw[sH.1];rfl
    have b2:(c.n0.ag==4)=false:=by simpa using sH.2
    have b3:((jv c e 0 c.n0).1.n1.ag==4&&!(c.n1.ag==4))=false:=by
     cases q:(jv c e 0 c.n0).1.n1.ag==4 with
     |false=>rfl
     |true=>rw[ho (eq_of_beq q)];rfl
    unfold mz
    rw[b1,b2];rfl
   unfold EJ
   rw[hsm]
   have kn1:Kn T (BP c (1-0)):=(h.1.nb.s u1).2.1
   rw[QO h kn1,u0,u1]
   rcases hf with hf|hf|hf
   ·have:(pE c 0).bp=true:=hf
    rw[this];rfl
   ·have:(pE c 0).dg=true:=hf
    rw[this]
    cases(pE c 0).bp<;>rfl
   ·have:(chain T (BP c (1-0))).contains (BP c 0)=true:=hf
    rw[this]
    cases(pE c 0).bp<;>cases(pE c 0).dg<;>rfl
  ·refine o7 (x:= -1) (by decide) ?_
   have ho:=hr.oth
   have b1:((jv c e 0 c.n0).1.n0.ag==4&&!(c.n0.ag==4))=false:=by
    cases q:(jv c e 0 c.n0).1.n0.ag==4 with
    |false=>rfl
    |true=>
     cases q2:c.n0.ag==4 with
     |true=>rfl
     |false=>exact absurd ⟨eq_of_beq q,by simpa using q2⟩ sH
   have b3:((jv c e 0 c.n0).1.n1.ag==4&&!(c.n1.ag==4))=false:=by
    cases q:(jv c e 0 c.n0).1.n1.ag==4 with
    |false=>rfl
    |true=>rw[ho (eq_of_beq q)];rfl
   unfold mz
   rw[b1,b3]
   rfl
theorem SU(h:Inv (g::fut) T c):Inv fut T (bB c 1 (fd c.n1 g)):=by
 obtain⟨k1,k2,k3,k4⟩:=Ac h.1.nb g
 have hr:=QN h.1.rb (h.1.rf g (by simp))
 have hd:=B6 c.n1 g
 generalize fd c.n1 g=m at k1 k2 k3 k4 hr hd
 refine⟨{tr:=h.1.tr,na:=h.1.na,nb:=k1,ia:=h.1.ia,ib:=k3.trans h.1.ib,mt:= ?_,ga:=h.1.ga,gb:=fun x hx=>h.1.gb x (V4 k4 hx),ct:=fun x=> ?_,ra:=h.1.ra,rb:=hr,rf:=fun x hx=>h.1.rf x (ch _ hx)},⟨fun hk=> ?_,fun hk=> ?_⟩⟩
 ·show Mts ((bB c 1 m).n0.bh++(bB c 1 m).n1.bh) T
  have e:(bB c 1 m).n1.bh=c.n1.bh:=k4
  rw[e]
  exact h.1.mt
 ·have hc:=h.1.ct x
  have hd:=hd x
  rw[xA] at hc
  rw[M4] at hd
  have e:(bB c 1 m).n1.aQ=m.aQ:=rfl
  have e2:(bB c 1 m).n0.aQ=c.n0.aQ:=rfl
  rw[e,e2]
  omega
 ·have:=h.2.dn hk
  have e:m.ag=c.n1.ag:=k2.st
  exact⟨this.1,e.trans this.2⟩
 ·obtain⟨H0,H1,hg⟩:=h.2.up hk
  exact⟨H0,H1,hg.alz k2⟩
theorem SW(h:Inv fut T c)(hs:Mp T c):c.n0.up=true/\c.n1.up=true/\(c.n1.store.aj.bp=true\/c.n1.store.aj.dg=true\/(chain T (mA c.n0)).contains (mA c.n1)=true):=by
 obtain⟨H0,H1,hg,s1,qS,v1,v2,v3⟩:=hs
 refine⟨hg.u0,hg.u1,?_⟩
 have hd:=EY (by have:=h.1.ib;omega) v1 v2 v3
 have U4:mA c.n0=H0.v.bH:=hg.d0 (by rw[qS];decide)
 rw[U4]
 rcases hd.2 with KV|KV|KV|KV
 ·exact af KV
 ·exact ab (af KV)
 ·right;right
  rw[KV]
  have:=yv T H0.v.bH
  simpa using this
 ·right;right
  obtain⟨p1,p2⟩:=Hj KV
  rcases(hg.p0.2.2 hd.1).1 _ p2 with h5|h5
  ·exact absurd h5 p1
  ·simpa using h5
theorem do1(h:Inv (o6 (e::l)) T c)(he:e.node=1):(∃T',Inv (o6 l) T' (iI c e).1)/\EJ c (iI c e).1=true:=by
 have e1:iI c e=jv c e 1 c.n1:=by unfold iI;rw[he];rfl
 rw[e1]
 by_cases Ar:e.ae=13
 ·have e2:(jv c e 1 c.n1).1=bB c 1 (fd c.n1 e.n):=by unfold jv;rw[Ar];rfl
  rw[e2]
  rw[wQ Ar] at h
  refine⟨⟨T,SU h⟩,o7 (x:= -1) (by decide) ?_⟩
  have e3:(bB c 1 (fd c.n1 e.n)).n1.ag=c.n1.ag:=(Ac h.1.nb e.n).2.1.st
  have e4:(bB c 1 (fd c.n1 e.n)).n0.ag=c.n0.ag:=rfl
  unfold mz
  rw[e3,e4]
  cases c.n0.ag==4<;>cases c.n1.ag==4<;>rfl
 ·rw[wR Ar] at h
  have hr:=acX h e Ar
  refine⟨hr.inv,?_⟩
  by_cases sH:(jv c e 1 c.n1).1.n1.ag=4/\c.n1.ag≠4
  ·obtain⟨u0,u1,hf⟩:=SW h (hr.cX sH.1 sH.2)
   have hsm:mz c (jv c e 1 c.n1).1=1:=by
    have ho:=hr.oth
    have b1:((jv c e 1 c.n1).1.n1.ag==4)=true:=by rw[sH.1];rfl
    have b2:(c.n1.ag==4)=false:=by simpa using sH.2
    have b3:((jv c e 1 c.n1).1.n0.ag==4&&!(c.n0.ag==4))=false:=by
     cases q:(jv c e 1 c.n1).1.n0.ag==4 with
     |false=>rfl
     |true=>rw[ho (eq_of_beq q)];rfl
    unfold mz
    rw[b3,b1,b2];rfl
   unfold EJ
   rw[hsm]
   have kn0:Kn T (BP c (1-1)):=(h.1.na.s u0).2.1
   rw[QO h kn0,u0,u1]
   rcases hf with hf|hf|hf
   ·have:(pE c 1).bp=true:=hf
    rw[this];rfl
   ·have:(pE c 1).dg=true:=hf
    rw[this]
    cases(pE c 1).bp<;>rfl
   ·have:(chain T (BP c (1-1))).contains (BP c 1)=true:=hf
    rw[this]
    cases(pE c 1).bp<;>cases(pE c 1).dg<;>rfl
  ·refine o7 (x:= -1) (by decide) ?_
   have ho:=hr.oth
   have b1:((jv c e 1 c.n1).1.n1.ag==4&&!(c.n1.ag==4))=false:=by
    cases q:(jv c e 1 c.n1).1.n1.ag==4 with
    |false=>rfl
    |true=>
     cases q2:c.n1.ag==4 with
     |true=>rfl
     |false=>exact absurd ⟨eq_of_beq q,by simpa using q2⟩ sH
   have b3:((jv c e 1 c.n1).1.n0.ag==4&&!(c.n0.ag==4))=false:=by
    cases q:(jv c e 1 c.n1).1.n0.ag==4 with
    |false=>rfl
    |true=>rw[ho (eq_of_beq q)];rfl
   unfold mz
   rw[b1,b3]
   rfl
theorem V5(h:Inv (o6 (e::l)) T c):(∃T',Inv (o6 l) T' (iI c e).1)/\EJ c (iI c e).1=true:=by
 by_cases h0:e.node=0
 ·exact do0 h h0
 ·by_cases h1:e.node=1
  ·exact do1 h h1
  ·have e1:iI c e=(c,[]):=by
    have b0:(e.node==0)=false:=by simpa using h0
    have b1:(e.node==1)=false:=by simpa using h1
    unfold iI
    rw[b0,b1]
    rfl
   rw[e1]
   refine⟨⟨T,h.1.ak4 fun x=> ?_,h.2⟩,o7 (x:= -1) (by decide) ?_⟩
   ·by_cases Ar:e.ae=13
    ·rw[wQ Ar,xA];exact pL _ _
    ·rw[wR Ar];exact aL _
   ·unfold mz
    cases c.n0.ag==4<;>cases c.n1.ag==4<;>rfl
theorem OP{x:bg}{i:Nat}(h:i<l.length):sT (l++[x]) i=sT l i:=by
 unfold sT
 rw[mq h]
 cases l[i]? with
 |none=>rfl
 |some y=>simp only[RO];rw[List.take_append_of_le_length (by omega)]
theorem Gp{x:bg}(h:iZ (l++[x])=true):iZ l=true/\RO (l++[x]) l.length x=false:=by
 unfold iZ at h ⊢
 rw[iq,M8,qW,List.any_append,xz,eh] at h
 refine⟨?_,?_⟩
 ·rw[xz,pf]
  intro i hi
  have:=pf.1 h.1 i hi
  rw[OP (by simpa using hi)] at this
  exact this
 ·have h2:=h.2
  simp only[List.any_cons,List.any_nil,Bool.or_false] at h2
  unfold sT at h2
  rw[tw (aL _)] at h2
  simpa using h2
theorem SX(l:List bg)(x:bg):o6 (l++[x])=o6 l++o6 [x]:=by
 unfold o6
 rw[HY,fA]
theorem V6{p:List α->Prop}(h0:p [])(h1:∀l x,p l->p (l++[x]))(l:List α):p l:=by
 have:∀m:List α,p m.reverse:=by
  intro m
  induction m with
  |nil=>exact h0
  |cons x m ih=>rw[List.reverse_cons];exact h1 _ _ ih
 have h:=this l.reverse
 rwa[List.reverse_reverse] at h
theorem FB:∀l:List bg,iZ l=true->∀x:Int,(o6 l).count x+one x 0+one x 7<=1:=by
 refine V6 ?_ ?_
 ·intro _ x
  by_cases h0:x=0
  ·subst h0;decide
  ·by_cases h7:x=7
   ·subst h7;decide
   ·have a:one x 0=0:=aR h0
    have b:one x 7=0:=aR h7
    rw[a,b];simp[o6]
 ·intro l e ih hd x
  obtain⟨h1,h2⟩:=Gp hd
  have hi:=ih h1 x
  rw[SX,List.count_append]
  by_cases Ar:e.ae=13
  ·have ef:o6 [e]=[e.n]:=by rw[wQ Ar];rfl
   rw[ef,M4]
   unfold RO at h2
   have b13:(e.ae==13)=true:=by rw[Ar];rfl
   rw[b13,i6,eh,eh] at h2
   by_cases hx:e.n=x
   ·subst hx
    have a:one e.n 0=0:=aR (by simpa using h2.1)
    have b:one e.n 7=0:=aR (by simpa using h2.2.1)
    have c:(o6 l).count e.n=0:=by
     rw[List.count_eq_zero]
     intro hm
     unfold o6 at hm
     obtain⟨y,hy,hye⟩:=tB.1 hm
     obtain⟨hy1,hy2⟩:=List.mem_filter.1 hy
     have h3:=pf.1 h2.2.2 y (by rw[List.take_append_of_le_length (aL _),qX];exact hy1)
     apply h3
     unfold qH
     have hy2:(y.ae==13)=true:=hy2
     rw[hy2,hye]
     simp
    rw[a,b,c]
    simp
   ·have:(e.n==x)=false:=by simpa using hx
    rw[this]
    simpa using hi
  ·have ef:o6 [e]=[]:=by rw[wR Ar];rfl
   rw[ef]
   simpa using hi
theorem V7(hd:iZ l=true)(hr:∀e∈l,jO e.n)(na:NI (PV []) a)(nb:NI (PV []) b)(ia:a.id=0)(ib:b.id=1)(da:a.aQ=[])(db:b.aQ=[])(ma:a.bh=[])(mb:b.bh=[]):CI (o6 l) [] a b:=by
 refine⟨trivial,na,nb,ia,ib,by rw[ma,mb];exact⟨by simp,by simp⟩,by rw[ma];simp,by rw[mb];simp,fun x=> ?_,by rw[da];simp,by rw[db];simp,fun x hx=> ?_⟩
 ·have:=FB l hd x
  rw[da,db]
  simpa[um] using this
 ·unfold o6 at hx
  obtain⟨y,hy,rfl⟩:=tB.1 hx
  exact hr y (List.mem_filter.1 hy).1
theorem D1.ag4{n:Sn}(n1:n.st=1)(o1:o.st=1)(nw:n.X7=0)(na:n.ask=false)(no:n.on=false)(np:n.A8=false)(oo:o.on=false)(hp:n.cH=true->n.p.s.bp=false):D1 B i n o [.aw o.cX] [.aw n.cX] mo bn bo:=by
 constructor
 case st=>exact af n1
 case h1=>exact fun _=>⟨rfl,rfl,fun _=>⟨rfl,rfl⟩,fun k=>absurd o1 k,fun k=>k⟩
 case hi=>intro _ k;rw[o1] at k;exact absurd k (by decide)
 case h2=>exact fun k=>absurd n1 k
 case g0=>exact fun _=>⟨nw,na,no,np⟩
 case iE=>exact fun _=>⟨rfl,rfl⟩
 case X8=>intro k;rw[no] at k;exact absurd k (by simp)
 case OA=>intro b x k;simp at k
 case rq3=>intro b k;simp at k
 case dd=>intro b x k;simp at k
 case Aq=>exact fun k=>⟨na,by rw[n1];decide,hp k⟩
 case pr2=>exact fun _ k=>k.elim (absurd n1) (absurd o1)
 case pp=>intro k;rw[np] at k;exact absurd k (by simp)
 case ak=>intro k;rw[na] at k;exact absurd k (by simp)
 case la=>intro b x k;simp[it,valOf] at k
 case cl=>intro b k;simp at k
 case ga=>intro b k;simp at k
 case ac=>intro b k;simp at k
 case r0=>exact fun _=>⟨rfl,fun k=>absurd n1 k⟩
 case r2=>intro k;simp[num,fc] at k
 case r3=>rw[na];rfl
 case r4=>exact⟨fun k=>absurd k (by simp[kq]),trivial⟩
 case ro=>exact⟨fun k=>absurd k (by simp[fW]),trivial⟩
 case cs=>intro b k;simp at k
 case gv=>intro b x k;simp at k
 case wv=>intro b k;simp at k
 case w0=>exact fun _=>nw
 case wz=>exact fun _=>rfl
 case wg=>show 0<=1;decide
 case p2=>intro k;rw[n1] at k;exact absurd k (by decide)
 case p3=>intro k;rw[n1] at k;exact absurd k (by decide)
 case fo=>exact⟨fun k=>absurd k (by simp[ic]),trivial⟩
 case pv=>intro k;rw[n1] at k;exact absurd k (by decide)
 case p0=>exact fun _=>⟨rfl,rfl,rfl⟩
 case p1=>intro k;rw[n1] at k;exact absurd k (by decide)
 case p5=>intro k;rw[n1] at k;exact absurd k (by decide)
 case i5=>intro k;rw[n1] at k;exact absurd k (by decide)
 case c2=>intro k;rw[n1] at k;exact absurd k (by decide)
theorem Mr{s:So}(h:Lv s p){cH:Bool}(hp:cH=true->p.s.bp=false):TQ (.aw (Gi p.s cH p.m)):=by
 have r:=h.hd.right
 have b:=h.hd.bl
 have c0:=A_ h.hd
 refine⟨?_,r.2⟩
 unfold eZ Gi
 have rm:=h.hd.rm
 simp only[rm]
 rw[cJ (show p.s.an>=1 from b.1),cJ (show p.s.an<=32 from b.2),show(p.s.v.bH==0)=false by simpa using c0]
 cases cH with
 |false=>simp
 |true=>rw[hp rfl];simp
theorem QP(hu:(c.a i).up=true)(lu:c.ai.up=true):
 let r:=aW c (oi i) (d7 (c.a i) c.ai.bd).1 (d7 (c.a i) c.ai.bd).2
 r.1.a i=jT (c.a i) c.ai.bd/\r.1.a (!i)=c.a (!i)/\r.1.ai.up=true/\r.1.ai.bd=c.ai.bd/\r.1.ai.t i=c.ai.t i/\r.1.ai.t (!i)=c.ai.t (!i)++[Ji c.ai.bd (.aw (ji (c.a i)))]/\r.2=[]:=
 Ff lu i (n:=jT (c.a i) c.ai.bd) (l:=(d7 (c.a i) c.ai.bd).2) hu rfl
theorem acY(u0:c.n0.up=true)(u1:c.n1.up=true)(lu:c.ai.up=true)(t0:c.ai.lI=[])(t1:c.ai.lJ=[]):
 (∀j,(gz (cZ c).1).1.a j=jT (c.a j) c.ai.bd)/\(gz (cZ c).1).1.ai.up=true/\(gz (cZ c).1).1.ai.bd=c.ai.bd/\(∀j,(gz (cZ c).1).1.ai.t j=[Ji c.ai.bd (.aw (ji (c.a (!j))))])/\(cZ c).2++(gz (cZ c).1).2=[]:=by
 have a:=QP (c:=c) (i:=false) u0 lu
 have e0:cZ c=aW c (oi false) (d7 (c.a false) c.ai.bd).1 (d7 (c.a false) c.ai.bd).2:=rfl
 rw[<-e0] at a
 obtain⟨a1,a2,a3,a4,a5,a6,a7⟩:=a
 have k1:(cZ c).1.a true=c.n1:=a2
 have b:=QP (c:=(cZ c).1) (i:=true) (by rw[k1];exact u1) a3
 have e1:gz (cZ c).1=aW (cZ c).1 (oi true) (d7 ((cZ c).1.a true) (cZ c).1.ai.bd).1 (d7 ((cZ c).1.a true) (cZ c).1.ai.bd).2:=rfl
 rw[<-e1] at b
 obtain⟨b1,b2,b3,b4,b5,b6,b7⟩:=b
 refine⟨fun j=> ?_,b3,b4.trans a4,fun j=> ?_,by rw[a7,b7];rfl⟩
 ·cases j with
  |false=>exact b2.trans a1
  |true=>rw[b1,k1,a4];rfl
 ·cases j with
  |false=>
   have h6:(gz (cZ c).1).1.ai.t false=(cZ c).1.ai.t false++[Ji (cZ c).1.ai.bd (.aw (ji ((cZ c).1.a true)))]:=b6
   have h5:(cZ c).1.ai.t false=c.ai.t false:=a5
   rw[h6,h5,k1,a4]
   show c.ai.lI++_=_
   rw[t0]
   rfl
  |true=>
   have h5:(gz (cZ c).1).1.ai.t true=(cZ c).1.ai.t true:=b5
   have h6:(cZ c).1.ai.t true=c.ai.t true++[Ji c.ai.bd (.aw (ji (c.a false)))]:=a6
   rw[h5,h6]
   show c.ai.lJ++_=_
   rw[t1]
   rfl
variable{M:Nat}{m:Mm}
theorem OQ(h:uE i B c m)(cx:Cx B M c m)(h5:e.ae≠5):qN i B m c e (ir c (oi i)):=by
 have idl:∀d:Cl,(∀j,d.a j=c.a j)->d.ai=c.ai->qN i B m c e (d,[]):=fun d hd hl=>by
  refine⟨m,by rw[qc h5];rfl,rfl,Gn h (by show Nq (c.a i) (d.a i);rw[hd];exact Nq.refl _) (hd _) (by rw[hl]) (fun _=>hl)⟩
 unfold ir
 rw[vT,VN,vT]
 cases hu:(c.a i).up with
 |false=>exact idl c (fun _=>rfl) rfl
 |true=>
  simp only[fS,aJ]
  cases hw:!Ey (bq c (oi i) true) (oi (!i))||!(c.a (!i)).up||c.ai.up with
  |true=>exact idl _ (fun j=>(sf _ _ _ _).1) (sf _ _ _ true).2
  |false=>
   simp only[eh,ni] at hw
   obtain⟨⟨_,uo⟩,lu⟩:=hw
   simp only[aJ]
   obtain⟨c0,Kc⟩:∃c0,c0=({bq c (oi i) true with ai:=fU c.ai}:Cl):=⟨_,rfl⟩
   rw[<-Kc]
   have ca:∀j,c0.a j=c.a j:=fun j=>by rw[Kc];rw[<-(sf c (oi i) true j).1];cases j<;>rfl
   have cl:c0.ai=fU c.ai:=by rw[Kc]
   have u0:c0.n0.up=true:=by
    show(c0.a false).up=true
    rw[ca];cases i
    ·exact hu
    ·exact uo
   have u1:c0.n1.up=true:=by
    show(c0.a true).up=true
    rw[ca];cases i
    ·exact uo
    ·exact hu
   obtain⟨b1,b2,b3,b4,b5⟩:=acY (c:=c0) u0 u1 (by rw[cl];rfl) (by rw[cl];rfl) (by rw[cl];rfl)
   have rk:jO c0.ai.bd:=by rw[cl];exact EK _
   refine⟨m,by show List.foldl _ (bU m c e ((cZ c0).2++(gz (cZ c0).1).2)) ((cZ c0).2++(gz (cZ c0).1).2)=m;rw[b5,qc h5];rfl,rfl,?_⟩
   show Po i B (gz (cZ c0).1).1 m
   generalize (gz (cZ c0).1).1=d at b1 b2 b3 b4
   simp only[ca] at b1 b4
   generalize c0.ai.bd=k at b1 b3 b4 rk
   have bt:∀j x w,TN (c.a j) x w->TN (d.a j) x iE:=fun j x w t=>by
    rw[b1]
    refine⟨t.lv,t.hd,fun q=>absurd q (by simp[jT]),t.pr,fun q=> ?_,fun q=> ?_,fun q=>absurd q (by simp[jT]),t.sb⟩
    ·have q:(c.a j).bL.on=true:=q
     have hs:(c.a j).ag=0:=by
      by_cases e0:j=i
      ·rw[e0];exact(h.dn lu).1
      ·rw[Jv e0];exact(h.dn lu).2
     exact absurd ((t.off hs).1.symm.trans q) (by simp)
    ·have q:(c.a j).up=false:=q
     by_cases e0:j=i
     ·rw[e0,hu] at q;exact absurd q (by simp)
     ·rw[Jv e0,uo] at q;exact absurd q (by simp)
   obtain⟨sn,so⟩:=h.dn lu
   have fn:=h.a.off sn
   have fo:=h.b.off so
   obtain⟨p,lp⟩:=h.a.lv hu
   obtain⟨q,lq⟩:=h.b.lv uo
   have e1:wM m d i=m.a i:=by unfold wM;rw[b1];exact h.a.p_
   have e2:wM m d (!i)=m.a (!i):=by unfold wM;rw[b1];exact h.b.p_
   have w1:MX m d i=iE:=by unfold MX;rw[b1];show(bif (c.a i).bL.on then _ else _)=_;rw[fn.1];rfl
   have w2:MX m d (!i)=iE:=by unfold MX;rw[b1];show(bif (c.a (!i)).bL.on then _ else _)=_;rw[fo.1];rfl
   refine⟨by rw[b1];exact h.a.lo,by rw[b1];exact h.b.lo,?_⟩
   rw[e1,e2,w1,w2]
   have pn:(c.a i).aN=true->p.s.bp=false:=fun k=>by rw[<-lp.su];exact(h.a.pr k).2
   have po:(c.a (!i)).aN=true->q.s.bp=false:=fun k=>by rw[<-lq.su];exact(h.b.pr k).2
   refine⟨bt i _ _ h.a,bt (!i) _ _ h.b,?_,fun k=>absurd (b2.symm.trans k) (by simp),fun _=>⟨p,q,[.aw (di (d.a (!i)) q).cX],[.aw (di (d.a i) p).cX],?_⟩⟩
   ·rw[b1,b1]
    exact(h.g.sub (fun v k=>k) (fun v k=>k)).mt (fun k=>absurd k (by simp[jT])) (fun k=>absurd k (by simp[jT]))
   ·have o1:ji (c.a (!i))=(di (d.a (!i)) q).cX:=by rw[b1];unfold ji Sn.cX;rw[lq.su,lq.ma];rfl
    have o2:ji (c.a i)=(di (d.a i) p).cX:=by rw[b1];unfold ji Sn.cX;rw[lp.su,lp.ma];rfl
    have hB:∀{s:So} {v:Pv} {j:Bool},Lv s v->s=(c.a j).store->v.s.an.toNat=B:=fun l e=>by have:=l.len;rw[e,cx.len] at this;omega
    have h1:∀{j:Bool} {v:Pv},(c.a j).bL.on=false->(c.a j).cb=false->(c.a j).cU=false->(c.a j).wanted=0->(di (d.a j) v).st=1/\(di (d.a j) v).X7=0/\(di (d.a j) v).ask=false/\(di (d.a j) v).on=false/\(di (d.a j) v).A8=false:=fun a b c2 d2=>by
     rw[b1]
     exact⟨rfl,by show(c.a _).wanted.toNat=0;rw[d2];rfl,b,a,c2⟩
    obtain⟨x1,x2,x3,x4,x5⟩:=h1 (j:=i) (v:=p) fn.1 fn.2.1 fn.2.2.1 fn.2.2.2
    obtain⟨y1,y2,y3,y4,y5⟩:=h1 (j:=!i) (v:=q) fo.1 fo.2.1 fo.2.2.1 fo.2.2.2
    have un:(d.a i).up=true:=by rw[b1];exact hu
    have uo':(d.a (!i)).up=true:=by rw[b1];exact uo
    refine⟨un,uo',by rw[b1,b3];rfl,by rw[b1,b3];rfl,by rw[b3];exact rk,by rw[b1];exact lp,by rw[b1];exact lq,hB lp rfl,hB lq rfl,?_,?_,?_,?_,?_,?_,by rw[b1];rfl,by rw[b1];rfl,?_,?_⟩
    ·rw[b4,b3,o1];rfl
    ·rw[b4,b3,lF,o2];rfl
    ·intro a ha
     simp at ha
     rw[ha,b1]
     exact Mr lq po
    ·intro a ha
     simp at ha
     rw[ha,b1]
     exact Mr lp pn
    ·rw[b1]
     exact⟨by show 0<=(c.a i).wanted;rw[fn.2.2.2];decide,fun k=>absurd (fn.1.symm.trans k) (by simp)⟩
    ·rw[b1]
     exact⟨by show 0<=(c.a (!i)).wanted;rw[fo.2.2.2];decide,fun k=>absurd (fo.1.symm.trans k) (by simp)⟩
    ·intro k
     rcases k with k|k|k|k
     ·rw[x1] at k;exact absurd k (by decide)
     ·rw[x1] at k;exact absurd k.1 (by decide)
     ·rw[y1] at k;exact absurd k (by decide)
     ·rw[y1] at k;exact absurd k.1 (by decide)
    ·exact⟨D1.ag4 x1 y1 x2 x3 x4 x5 y4 (fun k=>by rw[b1] at k;exact pn k),D1.ag4 y1 x1 y2 y3 y4 y5 x4 (fun k=>by rw[b1] at k;exact po k)⟩
theorem pK{b:Bool}{x y:Cl×List Ou}(hx:b=true->qN i B m c e x)(hy:b=false->qN i B m c e y):qN i B m c e (bif b then x else y):=by
 cases b
 ·exact hy rfl
 ·exact hx rfl
theorem V8(n:Nd)(k:Int):Nq n (iF n k):=by
 obtain⟨a,up⟩:=n
 cases up
 ·exact Nq.refl _
 ·exact⟨rfl,rfl,rfl,rfl,rfl,rfl,rfl,rfl,rfl,rfl,rfl,rfl,rfl,rfl,rfl⟩
theorem ZA(h:uE i B c m)(cx:Cx B M c m)(OA:∀j,qV (c.a j))(hn:e.node=oi i):qN i B m c e (jv c e (oi i) (c.a i)):=by
 have V9:e.ae≠5->qN i B m c e (c,[]):=fun h5=>⟨m,by rw[qc h5];rfl,rfl,Gn h (Nq.refl _) rfl rfl (fun _=>rfl)⟩
 have sc:c.ai.up=true->∃p q Q W,Sc i B M c m p q Q W:=fun lu=>by
  obtain⟨p,q,Q,W,s⟩:=h.up lu
  exact⟨p,q,Q,W,h,cx,OA,lu,s⟩
 unfold jv
 refine pK (fun k=> ?_) (fun _=>pK (fun k=> ?_) (fun _=>pK (fun k=> ?_) (fun _=>pK (fun k=> ?_) (fun _=>pK (fun k=> ?_) (fun k5=>pK (fun k=> ?_) (fun _=>pK (fun k=> ?_) (fun _=>pK (fun k=> ?_) (fun _=>pK (fun k=> ?_) (fun _=>pK (fun k=> ?_) (fun _=>pK (fun k=> ?_) (fun _=>pK (fun k=> ?_) (fun _=>pK (fun k=> ?_) (fun _=>pK (fun k=> ?_) (fun _=> ?_))))))))))))))
 ·have k:=eq_of_beq k
  cases lu:c.ai.up with
  |false=>exact OG h cx hn (by rw[k];decide) lu _
  |true=>obtain⟨p,q,Q,W,S⟩:=sc lu;exact S.Zv hn (by rw[k];decide) _
 ·have k:=eq_of_beq k
  cases lu:c.ai.up with
  |false=>exact SI h cx hn (by rw[k];decide) lu _
  |true=>obtain⟨p,q,Q,W,S⟩:=sc lu;exact S.OL hn (by rw[k];decide) (by rw[k];decide) _
 ·have k:=eq_of_beq k
  cases lu:c.ai.up with
  |false=>exact OH h cx hn (by rw[k];decide) lu _
  |true=>obtain⟨p,q,Q,W,S⟩:=sc lu;exact S.discard hn _
 ·have k:=eq_of_beq k
  have h5:e.ae≠5:=by rw[k];decide
  have e1:(js (c.a i) e.id e.block).1=c.a i:=LQ _ _ _
  have hl:∀o∈(js (c.a i) e.id e.block).2,o.ae=2:=by
   unfold js
   cases(c.a i).up<;>cases(c.a i).aN<;>intro o ho<;>simp at ho<;>rw[ho]<;>rfl
  rw[e1]
  exact same h (Nq.refl _) hl (qc h5) (zV fun o _=>CK m e o (af k))
 ·have k:=eq_of_beq k
  cases lu:c.ai.up with
  |false=>exact VS h cx hn k lu
  |true=>obtain⟨p,q,Q,W,S⟩:=sc lu;exact S.VX hn k
 ·have k:=eq_of_beq k
  exact OQ h cx (by rw[k];decide)
 ·have k:=eq_of_beq k
  have h5:e.ae≠5:=by rw[k];decide
  have wl:=(sf c (oi i) false i).2
  unfold x9
  rw[wl]
  cases lu:c.ai.up with
  |false=>exact⟨m,by rw[qc h5];rfl,rfl,Gn h (by show Nq _ ((bq c (oi i) false).a i);rw[(sf c (oi i) false i).1];exact Nq.refl _) (sf c (oi i) false (!i)).1 (by show(bq c (oi i) false).ai.up=_;rw[wl]) (fun _=>wl)⟩
  |true=>obtain⟨p,q,Q,W,S⟩:=sc lu;exact S.cut (fun j=>(sf c (oi i) false j).1) hn (by rw[k];decide) h5 (by rw[k];decide)
 ·have k:=eq_of_beq k
  have h5:e.ae≠5:=by rw[k];decide
  unfold x9
  cases lu:c.ai.up with
  |false=>exact V9 h5
  |true=>obtain⟨p,q,Q,W,S⟩:=sc lu;exact S.cut (fun j=>rfl) hn (by rw[k];decide) h5 (by rw[k];decide)
 ·have k:=eq_of_beq k
  have h5:e.ae≠5:=by rw[k];decide
  cases lu:c.ai.up with
  |true=>obtain⟨p,q,Q,W,S⟩:=sc lu;exact S.ag3 k hn
  |false=>
   cases ht:c.ai.t i with
   |nil=>rw[HE ht];exact V9 h5
   |cons x r=>
    obtain⟨c',e1,c1,c2,c3,c4,c5⟩:=Fq ht
    have er:bF (c.a i) x=(c.a i,[]):=by
     unfold bF
     rw[(h.dn lu).1]
     simp
    rw[e1,er]
    obtain⟨a1,a2,a3,a4⟩:=tf (c:=c') (c2.trans lu) i (c.a i) []
    exact⟨m,by rw[a4,qc h5];rfl,rfl,Gn h (by rw[a1];exact Nq.refl _) (a2.trans (c1 _)) (by rw[a3,c2]) (fun k=>absurd (lu.symm.trans k) (by simp))⟩
 ·have k:=eq_of_beq k
  have h5:e.ae≠5:=by rw[k];decide
  refine pK (fun _=>V9 h5) (fun hu=> ?_)
  have hu:(c.a i).up=true:=by simpa using hu
  cases lu:c.ai.up with
  |false=>exact VT h h5 lu hu
  |true=>obtain⟨p,q,Q,W,S⟩:=sc lu;exact S.ag1 hn (by rw[k];decide) h5
 ·have k:=eq_of_beq k
  exact OJ h cx (by rw[k];decide) _ _
 ·have k:=eq_of_beq k
  have h5:e.ae≠5:=by rw[k];decide
  exact same h (V8 _ _) (fun o ho=>absurd ho (by simp)) (qc h5) rfl
 ·have k:=eq_of_beq k
  have h5:e.ae≠5:=by rw[k];decide
  obtain⟨a1,a2,a3⟩:=abm c i (fd (c.a i) e.n)
  refine⟨m,by rw[qc h5];rfl,rfl,Gn h ?_ a2 (by show(bB c (oi i) (fd (c.a i) e.n)).ai.up=_;rw[a3]) (fun _=>a3)⟩
  show Nq (c.a i) ((bB c (oi i) (fd (c.a i) e.n)).a i)
  rw[a1]
  unfold fd
  cases decide (((c.a i).aQ.length:Int)<1000)
  ·exact Nq.refl _
  ·exact⟨rfl,rfl,rfl,rfl,rfl,rfl,rfl,rfl,rfl,rfl,rfl,rfl,rfl,rfl,rfl⟩
 ·have k:=eq_of_beq k
  have h5:e.ae≠5:=by rw[k];decide
  refine pK (fun _=>V9 h5) (fun hf=> ?_)
  have acZ:qN i B m c e (aW c (oi i) (c.a i) []):=same h (Nq.refl _) (fun o ho=>absurd ho (by simp)) (qc h5) rfl
  cases lu:c.ai.up with
  |false=>
   have er:bF (c.a i) e.data=(c.a i,[]):=by
    unfold bF
    rw[(h.dn lu).1]
    simp
   rw[er]
   exact acZ
  |true=>
   obtain⟨p,q,Q,W,S⟩:=sc lu
   have hs:(bw e.data (c.a i).bd).2≠0:=by rw[S.s.sn];simpa using hf
   unfold bF
   cases h1:(!(c.a i).up||(c.a i).ag==0) with
   |true=>exact acZ
   |false=>
    simp only[aJ]
    cases h2:(bw e.data (c.a i).bd).2==16 with
    |true=>exact acZ
    |false=>
     simp only[aJ]
     rw[show((bw e.data (c.a i).bd).2==0)=false by simpa using hs]
     exact S.close rfl lu hn (by rw[k];decide) h5 (fun k9=>absurd (k.symm.trans k9) (by decide))
 ·exact V9 (by intro k;rw[k] at k5;exact absurd k5 (by decide))
theorem abv{x:Int}(g7:g≠7)(hg:g∉um T)(h:Kn T x):x≠g:=by
 rcases h with h|h
 ·rw[h];exact fun k=>g7 k.symm
 ·intro k;rw[k] at h;exact hg h
theorem ac0(ht:gi T){v:Ve}(h:PV T false v)(g0:g≠0)(g7:g≠7)(hg:g∉um T):zS g v:=by
 obtain⟨_,kc,h3⟩:=h
 have h3:=(h3 rfl).1
 have key:∀x,(x=v.i4\/x=v.o0\/x=v.o1)->x≠g:=fun x hx=>by
  rcases h3 x hx with k|k
  ·rw[k];exact fun k=>g0 k.symm
  ·exact abv g7 hg (zP ht kc x k)
 exact⟨g0,abv g7 hg kc,key _ (af rfl),key _ (ab (af rfl)),key _ (ab (ab rfl))⟩
theorem ag5(hn:NI (PV T) n){v:Pv}(k:Vw n v):PV T v.s.bp v.s.v:=by
 rcases k with⟨u,l⟩|⟨_,S,⟨ks,hS⟩,hg⟩
 ·have:=hn.s u
  rw[l.su] at this
  exact this
 ·have h1:=(A4 hn.d ks).1
  rw[<-hS] at h1
  have h2:=h1 (by rw[hg.su])
  rw[hg.su] at h2
  exact h2
theorem Mt(h:CI fut T c.n0 c.n1)(j:Bool):NI (PV T) (c.a j)/\Fr T (c.a j)/\(c.a j).id=oi j:=by
 cases j
 ·exact⟨h.na,h.fa,h.ia⟩
 ·exact⟨h.nb,h.fb,h.ib⟩
variable{s:Nat}
theorem ag6{a d:Nat}(h:Inv fut T c)(w:Iw B M c m)(b:m5 (B+2) a d s c)(hB:1<=B/\B<=32)(hc:m.count<900000):Cx B M c (bW m c):=by
 obtain⟨g1,a0,a1,b0,b1⟩:=yo w.g c
 refine⟨fun j=>(Mt h.1 j).2.2,fun j g hg=> ?_,fun j g hg k v hv hi=> ?_,fun j hj=> ?_,⟨fun j=> ?_,fun j=> ?_,w.g.c,by show m.count<1000000;omega⟩,fun j hj=> ?_,fun j=> ?_,fun j=> ?_,hB,hc,fun j hj=> ?_⟩
 ·have:=(Mt h.1 j).2.1 g hg
  exact⟨this.1,this.2.2.2⟩
 ·have f:=(Mt h.1 j).2.1 g hg
  have p:=ag5 (Mt h.1 k).1 hv
  rw[hi] at p
  exact ac0 h.1.tr p f.1 f.2.1 f.2.2.1
 ·exact((Mt h.1 j).1.p hj).1
 ·cases j
  ·exact g1.v0
  ·exact g1.v1
 ·cases j
  ·exact g1.w0
  ·exact g1.w1
 ·cases j
  ·exact g1.h0 hj
  ·exact g1.h1 hj
 ·cases j
  ·exact w.w0
  ·exact w.w1
 ·cases j
  ·exact b.n0.1.1
  ·exact b.n1.1.1
 ·rw[wL,wL]
  show(bif (c.a j).ag==1||(c.a j).ag==4 then(m.a (!j)).A else(m.a j).S)=(m.a (!j)).A
  have:((c.a j).ag==1||(c.a j).ag==4)=true:=by rcases hj with k|k<;>rw[k]<;>rfl
  rw[this]
  rfl
structure Bg(B:Nat)(rX:List bg)(M a d s:Nat)(c:Cl)(m:Mm):Prop where
 inv:∃T,Inv (o6 rX) T c
 iw:Iw B M c m
 b:m5 (B+2) a d s c
 t:uE false B c m
 lo:m.cg=0
theorem uE.any(h:uE false B c m)(i:Bool):uE i B c m:=by
 cases i
 ·exact h
 ·exact h.B5
theorem uE.alC(h:uE i B c m):uE false B c m:=by
 cases i
 ·exact h
 ·exact h.B5
theorem ac1(h:uE false B c m)(cx:Cx B M c (bW m c))(OA:∀j,qV (c.a j)):uE false B (iI c e).1 (kh m c e (iI c e).1 (iI c e).2)/\(kh m c e (iI c e).1 (iI c e).2).cg=m.cg:=by
 have uB:∀i:Bool,(∃X,(iI c e).2.foldl (bG e) (bU (bW m c) c e (iI c e).2)=X/\X.cg=(bW m c).cg/\Po i B (iI c e).1 X)->uE false B (iI c e).1 (kh m c e (iI c e).1 (iI c e).2)/\(kh m c e (iI c e).1 (iI c e).2).cg=m.cg:=fun i hh=>by
  obtain⟨X,hX,hl,po⟩:=hh
  obtain⟨s1,s2,s3,s4,s5⟩:=Zo hX i po.l1 po.l2
  refine⟨uE.alC (i:=i) ?_,s5.trans hl⟩
  unfold uE
  rw[s1,s2,s3,s4]
  exact po.t
 by_cases hn:∃i,e.node=oi i
 ·obtain⟨i,hn⟩:=hn
  have e1:iI c e=jv c e (oi i) (c.a i):=by
   unfold iI
   rw[hn,vT]
   cases i<;>rfl
  have:=ZA (L_ (h.any i)) cx OA hn
  rw[<-e1] at this
  exact uB i this
 ·have n0:e.node≠0:=fun k=>hn ⟨false,k⟩
  have n1:e.node≠1:=fun k=>hn ⟨true,k⟩
  have e1:iI c e=(c,[]):=by
   unfold iI
   rw[show(e.node==0)=false by simpa using n0,show(e.node==1)=false by simpa using n1]
   rfl
  refine uB false ⟨bW m c,?_,rfl,?_⟩
  ·rw[e1,Bc (ab (af ⟨n0,n1⟩))];rfl
  ·rw[e1]
   exact Gn (L_ h) (Nq.refl _) rfl rfl (fun _=>rfl)
theorem Mu{x y:Mh}{w w':Rq}(h:TJ i B c x y w w')(hl:(c.a i).store.ao.ax.length=B+2):(!(c.a i).up||(c.a i).store.aj.bp||xu x.A (c.a i))=true:=by
 cases hu:(c.a i).up with
 |false=>rfl
 |true=>
  cases hi:(c.a i).store.aj.bp with
  |true=>simp
  |false=>
   obtain⟨p,lp⟩:=h.a.lv hu
   have hd:=h.a.hd hu
   have pi:p.s.bp=false:=by rw[<-lp.su];exact hi
   have hB:p.s.an.toNat=B:=by have:=lp.len;omega
   have f:=(h.g.f1 p (nV hu lp)).f pi
   rw[zR (hd.1.trans hi)] at f
   show(false||false||xu x.A (c.a i))=true
   simp only[rM]
   unfold xu
   rw[lG]
   intro b hb
   rw[tC,lp.su,hB] at hb
   rw[Je lp (by rw[hB];exact hb)]
   have:=f b hb
   unfold my at this
   rw[this]
   rfl
theorem SY{a d:Nat}(h:uE false B c m)(b:m5 (B+2) a d s c):IW m c=true:=by
 have h0:=Mu h b.n0.1.1
 have h1:=Mu h.B5 b.n1.1.1
 unfold IW
 rw[cY]
 exact⟨h0,h1⟩
theorem ZB{a d:Nat}(h:Bg B (e::l) M a d s c m)(hB:1<=B/\B<=32)(hc:m.count<900000):
 Bg B l (M+2) (a+4) (d+1) (s+6) (iI c e).1 (kh m c e (iI c e).1 (iI c e).2)/\IW (kh m c e (iI c e).1 (iI c e).2) (iI c e).1=true/\m.count<=(kh m c e (iI c e).1 (iI c e).2).count/\(kh m c e (iI c e).1 (iI c e).2).count<=m.count+18:=by
 obtain⟨⟨T,hi⟩,iw,b,t,lo⟩:=h
 obtain⟨d1,d2⟩:=G' b e
 have ho:=d2.1
 obtain⟨s1,s2⟩:=Y_ iw e (by omega) (by rw[lo];decide)
 have cx:=ag6 hi iw b hB hc
 obtain⟨t1,t2⟩:=ac1 (e:=e) t cx (fun j=>by cases j;exact iw.q.q0;exact iw.q.q1)
 have c1:=s2.c1
 have c2:=s2.c2
 exact⟨⟨(V5 hi).1,s1,d1,t1,t2.trans lo⟩,SY t1 d1,c1,by omega⟩
theorem QQ{s:So}(h:Lv s p):(ld s.ao).1=(List.range p.s.an.toNat).map p.x:=by
 have hl:=h.len
 have hr:∀b,b<p.s.an.toNat->aK s.ao (b:Int)=(p.x b,0):=fun b hb=>Je h hb
 unfold ld
 rw[hl,Nat.add_sub_cancel]
 have hn:(List.range p.s.an.toNat).find? (fun(i:Nat)=>!((aK s.ao (i:Int)).2==0))=none:=by
  rw[xB]
  intro b hb
  rw[hr b (tC.1 hb)]
  simp
 rw[hn]
 apply tA
 intro b hb
 rw[hr b (tC.1 hb)]
theorem ac2{n b:Nat}(hb:b<n):my (uJ ((List.range n).map p.x)) b (p.x b):=by
 unfold my IV uJ
 simp only[jq,iM,cJ hb,i6]
 rw[eX,nm,H3 hb]
 simp
theorem ac3(l0:Lv c.n0.store p)(l1:Lv c.n1.store p)(hB:p.s.an.toNat=B)(pi:p.s.bp=false)(pd:p.s.dg=false)(lu:c.ai.up=false)(h0:c.n0.up=true/\c.n0.ag=0/\c.n0.aN=false/\c.n0.bZ=false/\c.n0.bL.on=false/\c.n0.cb=false/\c.n0.cU=false/\c.n0.wanted=0)(h1:c.n1.up=true/\c.n1.ag=0/\c.n1.aN=false/\c.n1.bZ=false/\c.n1.bL.on=false/\c.n1.cb=false/\c.n1.cU=false/\c.n1.wanted=0):uE false B c (wX c):=by
 have hx:(wX c).a false=⟨uJ ((List.range B).map p.x),N8,false,false⟩:=by
  show(⟨uJ (ld c.n0.store.ao).1,N8,false,false⟩:Mh)=_
  rw[QQ l0,hB]
 have hy:(wX c).a true=⟨uJ ((List.range B).map p.x),N8,false,false⟩:=by
  show(⟨uJ (ld c.n1.store.ao).1,N8,false,false⟩:Mh)=_
  rw[QQ l1,hB]
 have tn:∀n:Nd,Lv n.store p->(n.up=true/\n.ag=0/\n.aN=false/\n.bZ=false/\n.bL.on=false/\n.cb=false/\n.cU=false/\n.wanted=0)->TN n ⟨uJ ((List.range B).map p.x),N8,false,false⟩ iE:=fun n l ⟨u,st,pr,mt,rq,ak,pp,wn⟩=>
  ⟨fun _=>⟨p,l⟩,fun _=>by rw[l.su,pi,pd];exact⟨rfl,rfl⟩,fun k=>absurd (mt.symm.trans k) (by simp),fun k=>absurd (pr.symm.trans k) (by simp),fun k=>absurd (rq.symm.trans k) (by simp),fun k=>absurd (u.symm.trans k) (by simp),fun _=>⟨rq,ak,pp,wn⟩,fun k=>absurd (u.symm.trans k) (by simp)⟩
 have f:F1 B p ⟨uJ ((List.range B).map p.x),N8,false,false⟩ (uJ ((List.range B).map p.x)):=
  ⟨fun _ b hb=>ac2 hb,fun k=>absurd k (by simp),fun k=>absurd (pi.symm.trans k) (by simp)⟩
 have g:P1 B p p ⟨uJ ((List.range B).map p.x),N8,false,false⟩ ⟨uJ ((List.range B).map p.x),N8,false,false⟩ false:=
  ⟨fun k=>absurd (pi.symm.trans k) (by simp),fun k=>absurd k (by simp),fun k=>absurd (pi.symm.trans k) (by simp),fun _ _ _ b _=>ab (ab ⟨rfl,rfl⟩),fun _ _ _ b _=>nj _,fun k=>absurd k (by simp)⟩
 unfold uE
 rw[show(!false)=true from rfl,hx,hy]
 refine⟨tn c.n0 l0 h0,tn c.n1 l1 h1,?_,fun _=>⟨h0.2.1,h1.2.1⟩,fun k=>absurd (lu.symm.trans k) (by simp)⟩
 show G2 B (Vw c.n0) (Vw c.n1) _ _ c.n0.bZ c.n1.bZ
 rw[h0.2.2.2.1,h1.2.2.2.1]
 refine⟨fun v k=> ?_,fun v k=> ?_,fun v q k k2=> ?_,fun v q k k2=> ?_⟩
 ·rw[pJ h0.1 l0 k];exact f
 ·rw[pJ h1.1 l1 k];exact f
 ·rw[pJ h0.1 l0 k,pJ h1.1 l1 k2];exact g
 ·rw[pJ h0.1 l0 k,pJ h1.1 l1 k2];exact g
end Go.Dm
