/-
  A part of the proofs over this seat: what its functions make of data, in plain terms (the file in which the theorems stand says what is proved).
-/
import Derived.KernelRfl
import Derived.Test.YtnilacbgecakcaaGreatFvM0
set_option maxRecDepth 100000
set_option maxHeartbeats 0
set_option linter.unusedSimpArgs false
set_option linter.unusedVariables false
namespace Go.Dm
open Go
open Go.IntKind (wrap)
structure Pv where
 s:Su
 m:BitVec 32
 x:Nat->ByteArray
def Rv(d:Dk)(S:List ByteArray):Prop:=∃ks,S=(ce d ks).ax
def Sub(a b:BitVec 32):Prop:=∀i,a.getLsbD i=true->b.getLsbD i=true
theorem Sub.refl(a:BitVec 32):Sub a a:=fun _ h=>h
theorem Sub.trans{a b c:BitVec 32}(h:Sub a b)(k:Sub b c):Sub a c:=fun i hi=>k i (h i hi)
def LW(b:ByteArray)(n:Int)(m:BitVec 32):Prop:=(aa b).2=0/\(aa b).1.size=4/\BitVec.ofInt 32 (gO (aa b).1.data.toList)=m/\dP m n=true
theorem Vj{n:Int}{m:BitVec 32}(h:dP m n=true):LW (cA (ee (mi m))) n m:=by
 unfold LW
 rw[uk]
 exact⟨rfl,mY _,by rw[Hr (qC m),LU],h⟩
variable{k:Int}
theorem LW.Jb{b:ByteArray}{n:Int}{m l:BitVec 32}(h:LW b n m)(h2:LW b k l):m=l:=by
 rw[<-h.2.2.1,h2.2.2.1]
structure Gd(S:List ByteArray)(p:Pv):Prop where
 len:S.length=p.s.an.toNat+2
 su:fC (S.getD 0 ⟨#[]⟩)=(p.s,0)
 ma:LW (S.getD 1 ⟨#[]⟩) p.s.an p.m
 dt:∀b,S.getD (b+2) ⟨#[]⟩=p.x b
 sz:∀b,b<p.s.an.toNat->(p.x b).size=8
variable{S:List ByteArray}{p:Pv}
theorem Gd.right(h:Gd S p):dI p.s=true/\qh p.s.v:=by
 have:=uf (b:=S.getD 0 ⟨#[]⟩) (by rw[h.su])
 rw[h.su] at this
 exact⟨this.1,this.2.1⟩
theorem Gd.bl(h:Gd S p):1<=p.s.an/\p.s.an<=32:=by
 have:=sU h.right.1
 exact⟨this.1,this.2.1⟩
variable{q:Pv}
theorem Gd.Jb(h:Gd S p)(k:Gd S q):p=q:=by
 obtain⟨s,m,x⟩:=p
 obtain⟨s',m',x'⟩:=q
 have h1:=h.su.symm.trans k.su
 simp only[aY,and_true] at h1
 subst h1
 have h2:m=m':=h.ma.Jb k.ma
 have h3:x=x':=funext fun b=>(h.dt b).symm.trans (k.dt b)
 subst h2 h3
 rfl
theorem iJ{α:Type}(S:List α)(i j:Nat)(y d:α)(h:i<S.length):(S.set i y).getD j d=if i=j then y else S.getD j d:=by
 rw[eX,eX,List.getElem?_set]
 split
 ·rfl
 ·rfl
theorem Gd.agI(h:Gd S p){b:Su}(hb:dI b=true)(hv:qh b.v)(he:b.an=p.s.an):Gd (S.set 0 (bV b).1) ⟨b,p.m,p.x⟩:=by
 have hl:0<S.length:=by rw[h.len];omega
 refine⟨?_,?_,?_,fun i=> ?_,?_⟩
 ·rw[tz,h.len,he]
 ·rw[iJ _ _ _ _ _ hl,aP rfl];exact zK hb hv
 ·rw[iJ _ _ _ _ _ hl,aR (by omega)];show LW _ b.an p.m;rw[he];exact h.ma
 ·rw[iJ _ _ _ _ _ hl,aR (by omega)];exact h.dt i
 ·show ∀i,i<b.an.toNat->_;rw[he];exact h.sz
theorem Gd.Y'(h:Gd S p){m:BitVec 32}(hm:dP m p.s.an=true):Gd (S.set 1 (cA (ee (mi m)))) ⟨p.s,m,p.x⟩:=by
 have hl:1<S.length:=by rw[h.len];have:=h.bl;omega
 refine⟨?_,?_,?_,fun i=> ?_,h.sz⟩
 ·rw[tz,h.len]
 ·rw[iJ _ _ _ _ _ hl,aR (by omega)];exact h.su
 ·rw[iJ _ _ _ _ _ hl,aP rfl];exact Vj hm
 ·rw[iJ _ _ _ _ _ hl,aR (by omega)];exact h.dt i
def iG(x:Nat->ByteArray)(i:Nat)(v:ByteArray):Nat->ByteArray:=fun b=>if b=i then v else x b
theorem Gd.agJ(h:Gd S p){i:Nat}{v:ByteArray}(hi:i<p.s.an.toNat)(hv:v.size=8):Gd (S.set (i+2) v) ⟨p.s,p.m,iG p.x i v⟩:=by
 have hl:i+2<S.length:=by rw[h.len];omega
 refine⟨?_,?_,?_,fun b=> ?_,fun b hb=> ?_⟩
 ·rw[tz,h.len]
 ·rw[iJ _ _ _ _ _ hl,aR (by omega)];exact h.su
 ·rw[iJ _ _ _ _ _ hl,aR (by omega)];exact h.ma
 ·rw[iJ _ _ _ _ _ hl]
  show _=if b=i then v else p.x b
  by_cases e:b=i
  ·rw[aP (by omega),aP e]
  ·rw[aR (by omega),aR e];exact h.dt b
 ·show(if b=i then v else p.x b).size=8
  split
  ·exact hv
  ·exact h.sz b hb
def Vk(c:List Wr)(ks:List Bool)(S:List ByteArray):List ByteArray:=(c.zip ks).foldl (fun s x=>bif x.2 then s.set x.1.nW.toNat x.1.data else s) S
theorem LX:∀(c:List Wr) (w:Wr) (ks:List Bool) (S:List ByteArray),Vk (c++[w]) ks S=Vk c ks S\/Vk (c++[w]) ks S=(Vk c ks S).set w.nW.toNat w.data
 |[],w,[],S=>af rfl
 |[],w,true::_,S=>ab (by simp[Vk])
 |[],w,false::_,S=>af (by simp[Vk])
 |a::c,w,[],S=>af (by simp[Vk])
 |a::c,w,k::ks,S=>by
  have:=LX c w ks (bif k then S.set a.nW.toNat a.data else S)
  exact this
variable{d:Dk}
theorem zL{e:Dk}(h1:e.ax=d.ax)(h2:e.ar=d.ar)(h:Rv e S):Rv d S:=by
 obtain⟨ks,rfl⟩:=h
 refine⟨ks,?_⟩
 unfold ce
 rw[h1,h2]
theorem Qp{e:Dk}{w:Wr}(h1:e.ax=d.ax)(h2:e.ar=d.ar++[w])(h:Rv e S):∃S0,Rv d S0/\(S=S0\/S=S0.set w.nW.toNat w.data):=by
 obtain⟨ks,rfl⟩:=h
 refine⟨(ce d ks).ax,⟨ks,rfl⟩,?_⟩
 show Vk e.ar ks e.ax=Vk d.ar ks d.ax\/Vk e.ar ks e.ax=(Vk d.ar ks d.ax).set _ _
 rw[h1,h2]
 exact LX _ _ _ _
theorem Oz(h:d.ar=[])(hr:Rv d S):S=d.ax:=by
 obtain⟨ks,rfl⟩:=hr
 unfold ce
 rw[h]
 rfl
theorem Hs{e:Dk}{i:Nat}{y:ByteArray}(h1:e.ax=d.ax)(h2:e.ar=d.ar++[⟨(i:Int),y⟩]):iW e=(iW d).set i y:=by
 unfold iW
 rw[h1]
 apply Dj
 ·simp
 ·intro j hj hk
  simp only[List.getElem_map,M7,List.getElem_set]
  unfold iD
  rw[h1,h2,rP]
  simp only[jp,Dl]
  by_cases e:i=j
  ·subst e;simp
  ·rw[aR e,show(((i:Nat):Int)==(j:Int))=false by simp;omega]
   rfl
theorem Ht{e:Dk}(h1:e.ax=d.ax)(h2:e.ar=d.ar):iW e=iW d:=by
 unfold iW iD
 rw[h1,h2]
theorem LY(d:Dk):(iW d).length=d.ax.length:=by simp[iW]
def Kh(d:Dk)(p:Pv):Prop:=∃S,Rv d S/\Gd S p
structure oa(p v:Pv):Prop where
 s:p.s=v.s
 x:p.x=v.x
 m:Sub v.m p.m
theorem oa.refl(p:Pv):oa p p:=⟨rfl,rfl,Sub.refl _⟩
structure Lv(s:So)(p:Pv):Prop where
 al:s.ao.gN=false
 su:s.aj=p.s
 ma:s.cr=p.m
 hd:Gd (iW s.ao) p
 rv:∀S,Rv s.ao S->∃q,Gd S q/\oa q p
variable{s:So}
theorem Lv.pot(h:Lv s p)(h1:d.ax=s.ao.ax)(h2:d.ar=s.ao.ar)(k:Kh d q):oa q p:=by
 obtain⟨S,hS,hg⟩:=k
 obtain⟨q',hq,hd⟩:=h.rv S (zL h1 h2 hS)
 rw[hg.Jb hq]
 exact hd
theorem Lv.len(h:Lv s p):s.ao.ax.length=p.s.an.toNat+2:=by rw[<-LY,h.hd.len]
theorem zM(d:Dk)(i:Nat)(y:ByteArray):((bN d i y).2≠0/\(bN d i y).1.ax=d.ax/\(bN d i y).1.ar=d.ar)\/
 ((bN d i y).2=0/\(bN d i y).1.ax=d.ax/\(bN d i y).1.ar=d.ar++[⟨(i:Int),y⟩]/\(bN d i y).1.gN=false/\i<d.ax.length):=by
 unfold bN
 cases h1:d.gN with
 |true=>exact af ⟨show(6:Int)≠0 by decide,rfl,rfl⟩
 |false=>
  cases h2:(decide ((i:Int)<0)||decide ((i:Int)>=(d.ax.length:Int))) with
  |true=>exact af ⟨show(4:Int)≠0 by decide,rfl,rfl⟩
  |false=>
   cases h3:decide ((y.size:Int)>64) with
   |true=>exact af ⟨show(5:Int)≠0 by decide,rfl,rfl⟩
   |false=>
    cases h4:(cp d).gN with
    |true=>exact af ⟨show(6:Int)≠0 by decide,rfl,rfl⟩
    |false=>exact ab ⟨rfl,rfl,rfl,h4,by simp at h2;omega⟩
theorem LZ(d:Dk):((hU d).2≠0/\(hU d).1.ax=d.ax/\(hU d).1.ar=d.ar)\/
 ((hU d).2=0/\(hU d).1.ax=iW d/\(hU d).1.ar=[]/\(hU d).1.gN=false):=by
 unfold hU
 cases h1:d.gN with
 |true=>exact af ⟨show(6:Int)≠0 by decide,rfl,rfl⟩
 |false=>
  cases h4:(cp d).gN with
  |true=>exact af ⟨show(6:Int)≠0 by decide,rfl,rfl⟩
  |false=>exact ab ⟨rfl,Ht rfl rfl,rfl,h4⟩
theorem E4{v:Pv}(h:Lv s p){i:Nat}{y:ByteArray}(agK:∀S q,Gd S q->oa q p->∃r,Gd (S.set i y) r/\oa r v)(hv:∀r,Gd ((iW s.ao).set i y) r->r=v){e:Int}(hd:(d,e)=bif !((bN s.ao i y).2==0) then bN s.ao i y else hU (bN s.ao i y).1){su:Su}{mk:BitVec 32}(hs:su=v.s)(hm:mk=v.m):
 (e=0/\Lv ⟨d,su,mk⟩ v)\/(e≠0/\∀q,Kh d q->oa q p\/oa q v):=by
 rcases zM s.ao i y with⟨h1,h2,h3⟩|⟨h1,h2,h3,h4,h5⟩
 ·rw[show((bN s.ao i y).2==0)=false by simpa using h1] at hd
  simp only[pa,bA] at hd
  refine ab ⟨?_,fun q hq=>af ?_⟩
  ·have:=cu Prod.snd hd;simp only at this;rw[this];exact h1
  ·have:=cu Prod.fst hd;simp only at this;subst this;exact h.pot h2 h3 hq
 ·rw[show((bN s.ao i y).2==0)=true by simpa using h1] at hd
  simp only[fS,aJ] at hd
  have hh:=Hs h2 h3
  rcases LZ (bN s.ao i y).1 with⟨k1,k2,k3⟩|⟨k1,k2,k3,k4⟩
  ·refine ab ⟨?_,fun q hq=> ?_⟩
   ·have:=cu Prod.snd hd;simp only at this;rw[this];exact k1
   ·have:=cu Prod.fst hd;simp only at this;subst this
    obtain⟨S,hS,hg⟩:=hq
    obtain⟨S0,hS0,e0⟩:=Qp h2 h3 (zL k2 k3 hS)
    obtain⟨q0,hq0,Za⟩:=h.rv S0 hS0
    rcases e0 with rfl|rfl
    ·rw[hg.Jb hq0];exact af Za
    ·obtain⟨r,hr,hrv⟩:=agK S0 q0 hq0 Za
     have:(S0.set ((i:Int)).toNat y)=S0.set i y:=by simp
     simp only at hg
     rw[this] at hg
     rw[hg.Jb hr];exact ab hrv
  ·refine af ⟨?_,?_⟩
   ·have:=cu Prod.snd hd;simp only at this;rw[this];exact k1
   ·have:=cu Prod.fst hd;simp only at this;subst this
    obtain⟨r,hr,_⟩:=agK (iW s.ao) p h.hd (oa.refl p)
    have hrv:=hv r hr
    subst hrv
    have Vm:iW (hU (bN s.ao i y).1).1=(iW s.ao).set i y:=by
     rw[<-hh]
     unfold iW iD
     rw[k2,k3]
     apply Dj
     ·rw[jq,iM,LY]
      simp
     ·intro j hj hk
      simp only[Dl,List.getElem_map,M7]
      have hj2:j<(iW (bN s.ao i y).1).length:=by simpa using hj
      rw[show((j:Nat):Int).toNat=j by simp,eX,cm hj2]
      simp[iW,iD]
    refine⟨k4,hs,hm,by rw[Vm];exact hr,fun S hS=>⟨r,?_,oa.refl _⟩⟩
    rw[Oz k3 hS,k2,hh]
    exact hr
theorem Zb(h:Lv s p){b:Su}(he:b.an=p.s.an):uC s.ao b=true:=by
 have hb:=h.hd.bl
 unfold uC
 rw[h.len,he,dG (by omega) (by omega)]
 simp
 omega
theorem Sr(h:Lv s p){b:Su}(hb:dI b=true)(hv:qh b.v)(he:b.an=p.s.an):
 ((dM s b).2=0/\Lv (dM s b).1 ⟨b,p.m,p.x⟩)\/((dM s b).2≠0/\∀q,Kh (dM s b).1.ao q->oa q p\/oa q ⟨b,p.m,p.x⟩):=by
 unfold dM
 cases h1:Lb b s.aj with
 |true=>
  have:=(Lc b s.aj).1 h1
  refine af ⟨rfl,?_⟩
  have e:(⟨b,p.m,p.x⟩:Pv)=p:=by rw[this,h.su]
  rw[e]
  exact h
 |false=>
  have hw:((eG s.ao b).1,(eG s.ao b).2)=bif !((bN s.ao (0:Nat) (bV b).1).2==0) then bN s.ao (0:Nat) (bV b).1 else hU (bN s.ao (0:Nat) (bV b).1).1:=by
   unfold eG
   rw[show(bV b).2=0 by unfold bV;rw[hb];rfl,Zb h he]
   rfl
  have key:=E4 h (v:=⟨b,p.m,p.x⟩) (fun S q hg hd=>⟨⟨b,q.m,q.x⟩,hg.agI hb hv (he.trans (by rw[hd.s])),⟨rfl,hd.x,hd.m⟩⟩) (fun r hr=>hr.Jb (h.hd.agI hb hv he)) hw (su:=b) (mk:=s.cr) rfl h.ma
  rcases key with⟨k1,k2⟩|⟨k1,k2⟩
  ·rw[k1]
   exact af ⟨rfl,k2⟩
  ·rw[show((eG s.ao b).2==0)=false by simpa using k1]
   exact ab ⟨k1,k2⟩
theorem Qq(h:Lv s p){m:BitVec 32}(hm:dP m p.s.an=true):jk s.ao m=bN s.ao (1:Nat) (cA (ee (mi m))):=by
 have hb:=h.hd.bl
 have e:wrap .i64 ((s.ao.ax.length:Int)-2)=p.s.an:=by
  rw[h.len,dG (by omega) (by omega)]
  omega
 unfold jk
 rw[e,hm]
 rfl
theorem Qr(h:Lv s p){m:BitVec 32}(hm:dP m p.s.an=true):
 ((n8 s m).2=0/\Lv (n8 s m).1 ⟨p.s,m,p.x⟩)\/((n8 s m).2≠0/\∀q,Kh (n8 s m).1.ao q->oa q p\/oa q ⟨p.s,m,p.x⟩):=by
 unfold n8
 rw[UE]
 cases h1:m==s.cr with
 |true=>
  have:=eq_of_beq h1
  refine af ⟨rfl,?_⟩
  have e:(⟨p.s,m,p.x⟩:Pv)=p:=by rw[this,h.ma]
  rw[e]
  exact h
 |false=>
  have hw:((me s.ao m).1,(me s.ao m).2)=bif !((bN s.ao (1:Nat) (cA (ee (mi m)))).2==0) then bN s.ao (1:Nat) (cA (ee (mi m))) else hU (bN s.ao (1:Nat) (cA (ee (mi m)))).1:=by
   unfold me
   rw[Qq h hm]
  have key:=E4 h (v:=⟨p.s,m,p.x⟩) (fun S q hg hd=>⟨⟨q.s,m,q.x⟩,hg.Y' (by rw[hd.s];exact hm),⟨hd.s,hd.x,Sub.refl _⟩⟩) (fun r hr=>hr.Jb (h.hd.Y' hm)) hw (su:=s.aj) (mk:=m) h.su rfl
  rcases key with⟨k1,k2⟩|⟨k1,k2⟩
  ·rw[k1]
   exact af ⟨rfl,k2⟩
  ·rw[show((me s.ao m).2==0)=false by simpa using k1]
   exact ab ⟨k1,k2⟩
theorem Jc(m:BitVec 32)(i:Int):Sub (ik m [i]) m:=by
 intro j hj
 simp only[ik,jp,Dl,qm,cY] at hj
 exact hj.1
theorem Ss{a b:BitVec 32}{n:Int}(h:Sub a b)(hb:dP b n=true):dP a n=true:=by
 unfold dP at hb ⊢
 simp only[cY,ij,jF] at hb ⊢
 refine⟨hb.1,?_⟩
 apply ql
 intro i hi
 have:=cu (fun z=>z.getLsbD i) hb.2
 simp only[qm,tt,hi,oH,i6,xx,M0,ni] at this ⊢
 rcases this with t|t
 ·cases ha:a.getLsbD i with
  |false=>exact af rfl
  |true=>rw[h i ha] at t;exact absurd t (by decide)
 ·exact ab t
theorem Gd.rm(h:Gd S p):dP p.m p.s.an=true:=h.ma.2.2.2
theorem Jd(h:Lv s p){i:Nat}(hi:i<p.s.an.toNat):Ch s (i:Int)=false:=by
 have hb:=h.hd.bl
 unfold Ch
 rw[h.su]
 simp
 omega
theorem Zc(h:Lv s p){i:Nat}(hi:i<p.s.an.toNat):
 ((jm s i).2=0/\Lv (jm s i).1 ⟨p.s,ik p.m [(i:Int)],p.x⟩)\/((jm s i).2≠0/\∀q,Kh (jm s i).1.ao q->oa q p):=by
 have hm:dP (ik p.m [(i:Int)]) p.s.an=true:=Ss (Jc _ _) h.hd.rm
 unfold jm
 rw[Jd h hi,UE,h.ma]
 simp only[aJ]
 cases h1:ik p.m [(i:Int)]==p.m with
 |true=>
  refine af ⟨rfl,?_⟩
  rw[eq_of_beq h1]
  exact h
 |false=>
  simp only[aJ]
  rw[Qq h hm]
  rcases zM s.ao 1 (cA (ee (mi (ik p.m [(i:Int)])))) with⟨k1,k2,k3⟩|⟨k1,k2,k3,k4,k5⟩
  ·rw[show((bN s.ao (1:Nat) (cA (ee (mi (ik p.m [(i:Int)]))))).2==0)=false by simpa using k1]
   exact ab ⟨k1,fun q hq=>h.pot k2 k3 hq⟩
  ·rw[k1]
   refine af ⟨rfl,k4,h.su,rfl,?_,fun S hS=> ?_⟩
   ·show Gd (iW (bN s.ao (1:Nat) _).1) _
    rw[Hs k2 k3]
    exact h.hd.Y' hm
   ·obtain⟨S0,hS0,e0⟩:=Qp k2 k3 hS
    obtain⟨q0,hq0,Za⟩:=h.rv S0 hS0
    rcases e0 with rfl|rfl
    ·exact⟨q0,hq0,Za.s,Za.x,(Jc _ _).trans Za.m⟩
    ·exact⟨_,hq0.Y' (by rw[Za.s];exact hm),Za.s,Za.x,Sub.refl _⟩
theorem acA(h:Lv s p){i:Nat}(hi:i<p.s.an.toNat){v:ByteArray}(hv:v.size=8):
 ((jn s i v).2=0/\Lv (jn s i v).1 ⟨p.s,p.m,iG p.x i v⟩)\/((jn s i v).2≠0/\∀q,Kh (jn s i v).1.ao q->oa q p\/oa q ⟨p.s,p.m,iG p.x i v⟩):=by
 have hb:=h.hd.bl
 have e:wrap .i64 ((s.ao.ax.length:Int)-2)=p.s.an:=by
  rw[h.len,dG (by omega) (by omega)]
  omega
 have hw:((nL s.ao i v).1,(nL s.ao i v).2)=bif !((bN s.ao ((i+2:Nat):Int) v).2==0) then bN s.ao ((i+2:Nat):Int) v else hU (bN s.ao ((i+2:Nat):Int) v).1:=by
  unfold nL
  have e1:jS s.ao (i:Int)=true:=by
   unfold jS
   rw[e]
   simp
   omega
  rw[e1,hv,dG (by omega) (by omega)]
  rfl
 have key:=E4 h (v:=⟨p.s,p.m,iG p.x i v⟩) (fun S q hg hd=>⟨⟨q.s,q.m,iG q.x i v⟩,hg.agJ (by rw[hd.s];exact hi) hv,⟨hd.s,by show iG q.x i v=_;rw[hd.x],hd.m⟩⟩) (fun r hr=>hr.Jb (h.hd.agJ hi hv)) hw (su:=s.aj) (mk:=s.cr) h.su h.ma
 exact key
theorem Qu{t:So}(h:Lv s p)(h1:t.ao.ax=s.ao.ax)(h2:t.ao.ar=s.ao.ar)(h3:t.ao.gN=s.ao.gN)(h4:t.aj=s.aj)(h5:t.cr=s.cr):Lv t p:=
 ⟨h3.trans h.al,h4.trans h.su,h5.trans h.ma,by rw[Ht h1 h2];exact h.hd,fun S hS=>h.rv S (zL h1 h2 hS)⟩
theorem Je(h:Lv s p){i:Nat}(hi:i<p.s.an.toNat):aK s.ao (i:Int)=(p.x i,0):=by
 have hb:=h.hd.bl
 have e:wrap .i64 ((s.ao.ax.length:Int)-2)=p.s.an:=by
  rw[h.len,dG (by omega) (by omega)]
  omega
 have e1:jS s.ao (i:Int)=true:=by
  unfold jS
  rw[e]
  simp
  omega
 have hx:=h.hd.dt i
 have hl:=h.len
 have e2:bR s.ao (wrap .i64 ((i:Int)+2))=(p.x i,0):=by
  rw[dG (by omega) (by omega)]
  unfold bR
  rw[h.al,show(decide ((i:Int)+2<0)||decide ((i:Int)+2>=(s.ao.ax.length:Int)))=false by simp;omega]
  show(iD s.ao ((i:Int)+2),(0:Int))=_
  rw[<-hx]
  unfold iW
  rw[eX,nm,H3 (by omega)]
  rfl
 unfold aK
 rw[e1,e2]
 have hz:=h.hd.sz i hi
 simp only[fS,aJ,pO]
 rw[hz]
 rfl
inductive Pq where
 |aw (h:He)
 |data (b:Nat) (x:ByteArray)
 |Jf (b:Nat)
 |m7 (b:Nat)
 |m_ (b:Nat)
 |n6 (b:Nat) (x:ByteArray)
 |zN (b:Nat)
 |uB|done|ask|sY|Ci|vQ
structure Sn where
 st:Int
 cH:Bool
 ask:Bool
 A8:Bool
 on:Bool
 rb:Nat
 rx:ByteArray
 X7:Nat
 eQ:He
 p:Pv
def eq:Pq->Bool| .aw _=>true|_=>false
def fw:Pq->Bool| .data _ _=>true|_=>false
def kE:Pq->Bool| .Jf _=>true|_=>false
def ic:Pq->Bool| .uB=>true|_=>false
def fx:Pq->Bool| .done=>true|_=>false
def kq:Pq->Bool| .ask=>true|_=>false
def oZ:Pq->Bool| .sY=>true| .Ci=>true|_=>false
def iH:Pq->Bool| .m_ _=>true|_=>false
def fM:Pq->Bool| .n6 _ _=>true|_=>false
def iK:Pq->Bool| .zN _=>true|_=>false
def eJ:Pq->Bool| .m7 _=>true|_=>false
def fW:Pq->Bool| .vQ=>true|_=>false
def fc:Pq->Bool| .sY=>true|_=>false
def num(f:Pq->Bool):List Pq->Nat
 |[]=>0
 |q::r=>(if f q then 1 else 0)+num f r
theorem gR(f:Pq->Bool):num f []=0:=rfl
theorem du(f:Pq->Bool)(q:Pq)(r:List Pq):num f (q::r)=(if f q then 1 else 0)+num f r:=rfl
theorem fD(f:Pq->Bool):∀(l r:List Pq),num f (l++r)=num f l+num f r
 |[],r=>by simp[num]
 |q::l,r=>by simp[num,fD f l r];omega
theorem rF{f:Pq->Bool}{q:Pq}:∀{l:List Pq},q∈l->f q=true->0<num f l
 |a::l,h,hf=>by
  rcases cM.1 h with rfl|h
  ·simp[num,hf];omega
  ·have:=rF h hf;simp[num];omega
variable{b:Nat}
theorem iU{x:ByteArray}{l:List Pq}(h: .data b x∈l):0<num fw l:=rF h rfl
theorem mg{l:List Pq}(h: .Jf b∈l):0<num kE l:=rF h rfl
theorem gS{l:List Pq}(h: .m7 b∈l):0<num eJ l:=rF h rfl
theorem jw{l:List Pq}(h: .m_ b∈l):0<num iH l:=rF h rfl
theorem jc{x:ByteArray}{l:List Pq}(h: .n6 b x∈l):0<num fM l:=rF h rfl
theorem mh{l:List Pq}(h: .zN b∈l):0<num iK l:=rF h rfl
theorem gD:∀(l:List Pq),num fc l<=num oZ l
 |[]=>aL _
 |q::l=>by
  have:=gD l
  cases q<;>simp[num,fc,oZ]<;>omega
def Vn:List Pq->He
 | .aw h::_=>h
 |_=>fQ
def Vo:List Pq->Bool
 | .aw _::_=>true
 |_=>false
theorem mj(h:He)(r:List Pq):Vo (.aw h::r)=true:=rfl
theorem lw(h:He)(r:List Pq):Vn (.aw h::r)=h:=rfl
theorem lR(q:Pq)(r:List Pq)(h:eq q=false):Vo (q::r)=false:=by
 cases q<;>first|rfl|simp[eq] at h
theorem jx{l:List Pq}{q:Pq}(h:Vo l=true):Vo (l++[q])=true:=by
 cases l with
 |nil=>simp[Vo] at h
 |cons a l=>cases a<;>first|rfl|simp[Vo] at h
theorem jy{l:List Pq}{q:Pq}(h:Vo l=true):Vn (l++[q])=Vn l:=by
 cases l with
 |nil=>simp[Vo] at h
 |cons a l=>cases a<;>first|rfl|simp[Vo] at h
def valOf(b:Nat):Pq->Option ByteArray
 | .data c x=>if c=b then some x else none
 | .n6 c x=>if c=b then some x else none
 |_=>none
def it(b:Nat):List Pq->Option ByteArray
 |[]=>none
 |q::r=>(it b r).or (valOf b q)
theorem d8(b:Nat):it b []=none:=rfl
theorem yp(b:Nat)(q:Pq)(r:List Pq):it b (q::r)=(it b r).or (valOf b q):=rfl
theorem yq{b:Nat}{x:ByteArray}:∀{l:List Pq},it b l=some x-> .data b x∈l\/ .n6 b x∈l
 |[],h=>by simp[it] at h
 |q::l,h=>by
  rw[yp] at h
  cases hl:it b l with
  |some y=>
   rw[hl] at h
   have ih:=yq hl
   simp at h
   subst h
   exact ih.imp (ch _) (ch _)
  |none=>
   rw[hl] at h
   simp at h
   cases q<;>simp[valOf] at h
   ·obtain⟨rfl,rfl⟩:=h;simp
   ·obtain⟨rfl,rfl⟩:=h;simp
theorem Hu(b:Nat):∀(l r:List Pq),it b (l++r)=(it b r).or (it b l)
 |[],r=>by simp[it]
 |q::l,r=>by simp[it,Hu b l r,Option.or_assoc]
theorem E5(b:Nat)(l:List Pq)(q:Pq):it b (l++[q])=(valOf b q).or (it b l):=by simp[Hu,it]
theorem fe(c b:Nat)(x:ByteArray)(l:List Pq):it c (l++[.data b x])=if b=c then some x else it c l:=by
 rw[E5]
 show(if b=c then some x else none).or (it c l)=_
 split<;>rfl
theorem ff(c b:Nat)(x:ByteArray)(l:List Pq):it c (l++[.n6 b x])=if b=c then some x else it c l:=by
 rw[E5]
 show(if b=c then some x else none).or (it c l)=_
 split<;>rfl
theorem fg(c:Nat)(l:List Pq)(q:Pq)(h:fw q=false)(k:fM q=false):it c (l++[q])=it c l:=by
 rw[E5]
 cases q<;>simp[fw,fM,valOf] at*
variable{r:List Pq}
theorem eT{q:Pq}{x:ByteArray}(h:it b r=some x):it b (q::r)=some x:=by
 rw[yp,h]
 rfl
theorem eC{x:ByteArray}(h:it b r=none):it b (.n6 b x::r)=some x:=by
 rw[yp,h]
 simp[valOf]
def nf(b:Nat):List Pq->Bool
 |[]=>false
 | .data c _::r=>c==b||nf b r
 |_::r=>nf b r
theorem sZ{b:Nat}:∀{l:List Pq},nf b l=true->∃x, .data b x∈l
 |q::l,h=>by
  cases q
  case data c x=>
   simp only[nf,As,jF] at h
   rcases h with rfl|h
   ·exact⟨x,by simp⟩
   ·obtain⟨y,hy⟩:=sZ h
    exact⟨y,ch _ hy⟩
  all_goals
   obtain⟨y,hy⟩:=sZ (l:=l) h
   exact⟨y,ch _ hy⟩
theorem gc{b:Nat}{x:ByteArray}:∀{l:List Pq}, .data b x∈l->nf b l=true
 |q::l,h=>by
  rcases cM.1 h with rfl|h
  ·simp[nf]
  ·have:=gc h
   cases q<;>simp[nf,this]
theorem gU(b c:Nat)(x:ByteArray)(r:List Pq):nf b (.data c x::r)=(c==b||nf b r):=rfl
theorem gd(b:Nat)(q:Pq)(r:List Pq)(h:fw q=false):nf b (q::r)=nf b r:=by
 cases q<;>first|rfl|simp[fw] at h
theorem E6(b:Nat):∀(l r:List Pq),nf b (l++r)=(nf b l||nf b r)
 |[],r=>rfl
 |q::l,r=>by
  have:=E6 b l r
  cases q<;>simp[nf,this,Bool.or_assoc]
theorem gV(b c:Nat)(x:ByteArray)(l:List Pq):nf b (l++[.data c x])=(nf b l||c==b):=by simp[E6,nf]
theorem gW(b:Nat)(l:List Pq)(q:Pq)(h:fw q=false):nf b (l++[q])=nf b l:=by
 rw[E6,gd b q [] h]
 simp[nf]
theorem fh{l:List Pq}(h:nf b l=true):0<num fw l:=by
 obtain⟨x,hx⟩:=sZ h
 exact iU hx
theorem dV{x:ByteArray}{l:List Pq}(h: .n6 b x∈l)(h1:num fM l<=1)(h0:num fw l=0):it b l=some x:=by
 induction l with
 |nil=>simp at h
 |cons q l ih=>
  rw[du] at h1 h0
  rcases cM.1 h with rfl|h
  ·have e:it b l=none:=by
    cases hl:it b l with
    |none=>rfl
    |some y=>
     rcases yq hl with k|k
     ·have:=iU k;omega
     ·have:=jc k;simp[fM] at h1;omega
   exact eC e
  ·exact eT (ih h (by omega) (by omega))
theorem eV{x:ByteArray}{l:List Pq}(h:it b l=some x):nf b l=true\/0<num fM l:=by
 rcases yq h with h|h
 ·exact af (gc h)
 ·exact ab (rF h rfl)
variable{Q:List Pq}
theorem Jg{x:ByteArray}{xo:Nat->ByteArray}(la:∀c y,it c (.n6 b x::Q)=some y->y=xo c)(wg:num fM (.n6 b x::Q)<=1):x=xo b\/nf b Q=true:=by
 cases hl:it b Q with
 |none=>exact af (la b x (eC hl))
 |some y=>
  rcases eV hl with h|h
  ·exact ab h
  ·rw[du] at wg
   simp[fM] at wg
   omega
def E7:List Pq->Prop
 |[]=>True
 |q::r=>(ic q=true->num iK r=0)/\E7 r
theorem fj{q:Pq}(h:E7 (q::r)):E7 r:=h.2
theorem fk{q:Pq}(h:E7 (q::r))(hq:ic q=true):num iK r=0:=h.1 hq
theorem dW:∀{l:List Pq} {q:Pq},E7 l->(num ic l=0\/iK q=false)->E7 (l++[q])
 |[],q,_,_=>⟨fun _=>rfl,trivial⟩
 |a::l,q,h,hq=>by
  refine⟨fun ha=> ?_,dW h.2 ?_⟩
  ·show num iK (l++[q])=0
   rw[fD,h.1 ha]
   rcases hq with hq|hq
   ·rw[du,ha] at hq;simp at hq
   ·simp[num,hq]
  ·rcases hq with hq|hq
   ·left
    rw[du] at hq
    omega
   ·exact ab hq
def E8:List Pq->Prop
 |[]=>True
 |q::r=>(kq q=true->num fW r=0)/\E8 r
theorem fm{q:Pq}(h:E8 (q::r)):E8 r:=h.2
theorem fq{q:Pq}(h:E8 (q::r))(hq:kq q=true):num fW r=0:=h.1 hq
theorem dX:∀{l:List Pq} {q:Pq},E8 l->(num kq l=0\/fW q=false)->E8 (l++[q])
 |[],q,_,_=>⟨fun _=>rfl,trivial⟩
 |a::l,q,h,hq=>by
  refine⟨fun ha=> ?_,dX h.2 ?_⟩
  ·show num fW (l++[q])=0
   rw[fD,h.1 ha]
   rcases hq with hq|hq
   ·rw[du,ha] at hq;simp at hq
   ·simp[num,hq]
  ·rcases hq with hq|hq
   ·left
    rw[du] at hq
    omega
   ·exact ab hq
def yr:List Pq->Prop
 |[]=>True
 |q::r=>(fW q=true->num eJ r=0)/\yr r
theorem d9{q:Pq}(h:yr (q::r)):yr r:=h.2
theorem dY{q:Pq}(h:yr (q::r))(hq:fW q=true):num eJ r=0:=h.1 hq
theorem dv:∀{l:List Pq} {q:Pq},yr l->(num fW l=0\/eJ q=false)->yr (l++[q])
 |[],q,_,_=>⟨fun _=>rfl,trivial⟩
 |a::l,q,h,hq=>by
  refine⟨fun ha=> ?_,dv h.2 ?_⟩
  ·show num eJ (l++[q])=0
   rw[fD,h.1 ha]
   rcases hq with hq|hq
   ·rw[du,ha] at hq;simp at hq
   ·simp[num,hq]
  ·rcases hq with hq|hq
   ·left
    rw[du] at hq
    omega
   ·exact ab hq
theorem gX(x:Nat->ByteArray)(i:Nat)(v:ByteArray)(c:Nat):iG x i v c=if c=i then v else x c:=rfl
def Sn.cX(n:Sn):He:=Gi n.p.s n.cH n.p.m
theorem ml(n:Sn):n.cX.v=n.p.s.v:=rfl
theorem gY(n:Sn):n.cX.bp=n.p.s.bp:=rfl
theorem gZ(n:Sn):n.cX.cH=n.cH:=rfl
theorem mm(n:Sn):n.cX.cr=n.p.m:=rfl
def vR(i:Bool)(x y:He):Vd:=if i then aI y x else aI x y
def qK(i:Bool)(x y:He):BitVec 32:=if i then uD (vR i x y) y x else uD (vR i x y) x y
def rl(i:Bool)(x y:He):Nat:=if(vR i x y).ae=4 then 0 else if(vR i x y).ae=1 then 1 else if(vR i x y).iY=(if i then 1 else 0) then 2 else 3
theorem E9(k s:Int)(t:He):(bc k s t).ae=4\/((bc k s t).ae=k/\(bc k s t).iY=s):=by
 unfold bc
 cases t.cH||k==4
 ·exact ab ⟨rfl,rfl⟩
 ·exact af rfl
theorem Qv(x y:He):(aI x y).ae=4\/(aI x y).ae=1\/(aI x y).iY=0\/(aI x y).iY=1:=by
 have o0:∀k t,(bc k 0 t).ae=4\/(bc k 0 t).ae=1\/(bc k 0 t).iY=0\/(bc k 0 t).iY=1:=fun k t=>(E9 k 0 t).imp id fun h=>ab (af h.2)
 have o1:∀k t,(bc k 1 t).ae=4\/(bc k 1 t).ae=1\/(bc k 1 t).iY=0\/(bc k 1 t).iY=1:=fun k t=>(E9 k 1 t).imp id fun h=>ab (ab h.2)
 unfold aI
 repeat' (with_reducible apply az (p:=fun(v:Vd)=>v.ae=4\/v.ae=1\/v.iY=0\/v.iY=1))
 all_goals first|exact o0 _ _|exact o1 _ _|exact af rfl|exact ab (af rfl)
theorem Zd(i:Bool)(x y:He):vR (!i) y x=vR i x y:=by
 cases i<;>rfl
theorem g8(i:Bool)(x y:He):qK (!i) y x=qK i x y:=by
 cases i<;>rfl
theorem jz(i:Bool)(x y:He):(rl (!i) y x=0↔rl i x y=0)/\(rl (!i) y x=1↔rl i x y=1)/\(rl (!i) y x=2↔rl i x y=3)/\(rl (!i) y x=3↔rl i x y=2):=by
 have hs:(vR i x y).ae=4\/(vR i x y).ae=1\/(vR i x y).iY=0\/(vR i x y).iY=1:=by
  cases i
  ·exact Qv x y
  ·exact Qv y x
 unfold rl
 rw[Zd]
 generalize (vR i x y).ae=k at*
 generalize (vR i x y).iY=s at*
 cases i<;>grind
theorem g9(v:Ve):bP (bP v)=bP v:=by
 obtain⟨c,b,o,q⟩:=v
 unfold bP
 cases h:b==0 with
 |true=>simp only[bA];rw[h];rfl
 |false=>rfl
structure D1(B:Nat)(i:Bool)(n o:Sn)(Q W:List Pq)(mo bn bo:Nat->ByteArray->Prop):Prop where
 st:n.st=1\/n.st=2\/n.st=3\/n.st=4
 h1:n.st=1->Vo Q=true/\num eq Q=1/\(o.st=1->Q.length=1/\Vn Q=o.cX)/\
  (o.st≠1->W=[]/\((o.st=2/\rl i n.cX (Vn Q)=1)\/(o.st=3/\rl i n.cX (Vn Q)=3/\(Vn Q).v=o.p.s.v/\(Vn Q).bp=o.p.s.bp)\/(o.st=4/\rl i n.cX (Vn Q)=2)))/\
  (o.cH=true->(Vn Q).cH=true)
 hi:n.st=1->o.st=3->∀b,b<B->n.p.m.getLsbD b=true\/(qK i n.cX (Vn Q)).getLsbD b=true\/mo b (n.p.x b)
 h2:n.st≠1->num eq Q=0
 g0:n.st=1->n.X7=0/\n.ask=false/\n.on=false/\n.A8=false
 iE:n.on=false->num kE Q=0/\num fw W=0
 X8:n.on=true->num kE Q+num fw W=1/\n.cH=true/\(n.st=2\/n.st=3)/\n.p.x n.rb=n.rx/\n.p.m.getLsbD n.rb=true/\n.rb<B/\n.rx.size=8
 OA:∀b x, .data b x∈W->n.on=true/\b=n.rb/\x=n.rx
 rq3:∀b, .Jf b∈Q->n.on=true/\b=n.rb
 dd:∀b x, .data b x∈Q->bn b x/\bo b x
 Aq:n.cH=true->n.ask=false/\n.st≠4/\n.p.s.bp=false
 pr2:n.cH=true->(n.st≠1\/o.st≠1)->o.cH=false
 pp:n.A8=true->n.ask=false/\n.cH=false
 ak:n.ask=true->(n.st=2\/n.st=3)/\n.p.s.bp=false
 la:∀b x,it b Q=some x->x=o.p.x b
 cl:∀b, .m7 b∈Q->n.p.x b=o.p.x b\/nf b Q=true
 ga:∀b, .zN b∈Q->b<B/\(n.p.x b=o.p.x b\/o.p.m.getLsbD b=true\/nf b W=true)
 ac:∀b, .Jf b∈Q->n.p.x b=o.p.x b
 r0:(o.cH=true\/0<num fc W)->num fW Q=0/\(n.st≠1->n.A8=true)
 r2:0<num fc Q->o.cH=false/\o.ask=false/\o.st≠1
 r3:num kq W+num oZ Q=if n.ask then 1 else 0
 r4:E8 Q
 ro:yr Q
 cs:∀b, .m7 b∈Q->(o.st=2\/o.st=3)/\(n.st=2\/n.st=4)/\n.A8=true/\b<B
 gv:∀b x, .n6 b x∈Q->n.st=4/\n.p.s.bp=true/\n.X7=b+1/\mo b x/\x.size=8/\b<B
 wv:∀b, .m_ b∈W->n.st=4/\n.p.s.bp=true/\n.X7=b+1/\b<B
 w0:(n.st≠4\/n.p.s.bp=false)->n.X7=0
 wz:n.X7=0->num iH W+num fM Q=0
 wg:num iH W+num fM Q<=1
 p2:n.st=4->n.p.s.bp=true->(o.st=1\/o.st=3)/\num ic W=0/\num fx Q=0
 p3:n.st=4->n.p.s.bp=false->((o.st=1\/o.st=3)/\num ic W=1/\num fx Q=0)\/(o.st=2/\num fx Q=1/\num ic W=0/\num iK W=0)
 fo:E7 W
 pv:n.st=4->bP n.eQ.v=bP o.p.s.v
 p0:n.st≠4->num ic W=0/\num fx Q=0/\num iK W=0
 p1:n.st=2->o.st≠3
 p5:n.st=3->o.st=1\/o.st=4
 i5:n.st=4->n.p.s.bp=true->∀b,b<B->n.p.m.getLsbD b=true\/mo b (n.p.x b)
 c2:n.st=4->n.p.s.bp=true->∀b, .m7 b∈Q->mo b (n.p.x b)
structure D2(B:Nat)(i:Bool)(n o:Sn)(Q W:List Pq)(mn mo bn bo:Nat->ByteArray->Prop):Prop where
 a:D1 B i n o Q W mo bn bo
 b:D1 B (!i) o n W Q mn bo bn
variable{B:Nat}{i:Bool}{o:Sn}{W:List Pq}{mo bn bo mo' OB Ze:Nat->ByteArray->Prop}
theorem D1.mono{n:Sn}(h:D1 B i n o Q W mo bn bo)(e2:∀c y,mo c y->mo' c y)(e3:∀c y,bn c y->OB c y)(e4:∀c y,bo c y->Ze c y):D1 B i n o Q W mo' OB Ze:=
 {h with
  hi:=fun h1 h2 b hb=>(h.hi h1 h2 b hb).imp id fun k=>k.imp id (e2 _ _)
  dd:=fun b x k=>⟨e3 _ _ (h.dd b x k).1,e4 _ _ (h.dd b x k).2⟩
  gv:=fun b x k=>by
   have:=h.gv b x k
   exact⟨this.1,this.2.1,this.2.2.1,e2 _ _ this.2.2.2.1,this.2.2.2.2⟩
  i5:=fun h1 h2 b hb=>(h.i5 h1 h2 b hb).imp id (e2 _ _)
  c2:=fun h1 h2 b hb=>e2 _ _ (h.c2 h1 h2 b hb)}
variable{mn X9:Nat->ByteArray->Prop}
theorem D2.mono{n:Sn}(h:D2 B i n o Q W mn mo bn bo)(e1:∀c y,mn c y->X9 c y)(e2:∀c y,mo c y->mo' c y)(e3:∀c y,bn c y->OB c y)(e4:∀c y,bo c y->Ze c y):D2 B i n o Q W X9 mo' OB Ze:=
 ⟨h.a.mono e2 e3 e4,h.b.mono e1 e4 e3⟩
theorem Vp{a b:BitVec 32}{n:Int}(ha:dP a n=true)(hb:dP b n=true):dP (a|||b) n=true:=by
 unfold dP at*
 simp only[cY,ij,jF] at*
 refine⟨ha.1,?_⟩
 apply ql
 intro i hi
 have h1:=cu (fun z=>z.getLsbD i) ha.2
 have h2:=cu (fun z=>z.getLsbD i) hb.2
 simp only[qm,nh,tt,hi,oH,i6,xx] at*
 cases h3:(AV n).getLsbD i with
 |true=>simp
 |false=>
  rw[h3] at h1 h2
  simp at h1 h2
  simp[h1,h2]
theorem zO{n:Int}(h1:1<=n)(h2:n<=32)(i:Nat):(AV n).getLsbD i=decide (i<n.toNat):=by
 unfold AV
 rw[aP ⟨h1,h2⟩,BitVec.getLsbD_ofNat]
 rw[Nat.testBit_two_pow_sub_one]
 by_cases h:i<n.toNat
 ·simp[h];omega
 ·simp[h]
theorem acC{n:Int}(h1:1<=n)(h2:n<=32):dP (AV n) n=true:=by
 unfold dP
 simp[h1,h2]
theorem acD{n:Int}(h1:1<=n)(h2:n<=32){i:Nat}(hi:i<n.toNat):dP (pB (i:Int)) n=true:=by
 unfold dP
 simp only[cY,ij,jF]
 refine⟨⟨h1,h2⟩,?_⟩
 apply ql
 intro j hj
 simp only[qm,tt,hj,oH,i6,xx,zO h1 h2]
 have hb:IT (i:Int)=true:=by unfold IT;simp;omega
 unfold pB
 rw[aP hb,xw]
 simp
 intro h _
 omega
theorem L0{i:Nat}(hi:i<32)(c:Nat):(pB (i:Int)).getLsbD c=decide (c=i):=by
 have hb:IT (i:Int)=true:=by unfold IT;simp;omega
 unfold pB
 rw[aP hb,xw]
 simp
 by_cases h:c=i
 ·subst h;simp[hi]
 ·simp[h];intro h2;exact fun h3=>h h3.symm
theorem CM(m:BitVec 32){i:Nat}(hi:i<32)(c:Nat):(lA m [(i:Int)]).getLsbD c=(m.getLsbD c||decide (c=i)):=by
 show(m|||pB (i:Int)).getLsbD c=_
 rw[nh,L0 hi]
theorem ul(m:BitVec 32){i:Nat}(hi:i<32)(c:Nat):(ik m [(i:Int)]).getLsbD c=(m.getLsbD c&&decide (c≠i)):=by
 show(m&&&~~~pB (i:Int)).getLsbD c=_
 rw[qm,tt,L0 hi]
 by_cases h:c<32
 ·simp[h]
 ·have:m.getLsbD c=false:=MZ _ _ (by omega)
  simp[this]
def kV(n:Nd)(y:Nd×List Ou)(l:List Ou)(vs:List Pv):Prop:=
 ∃m:Nd,y=(dz m,l)/\m.id=n.id/\∀q,Kh m.store.ao q->∃v,v∈vs/\oa q v
variable{n:Nd}
theorem kO(h:Lv n.store p){b:Su}(hb:dI b=true)(hv:qh b.v)(he:b.an=p.s.an):
 (∃s,aH n b=({n with store:=s},true)/\Lv s ⟨b,p.m,p.x⟩)\/(∃s:So,aH n b=(dz {n with store:=s},false)/\∀q,Kh s.ao q->oa q p\/oa q ⟨b,p.m,p.x⟩):=by
 unfold aH
 rcases Sr h hb hv he with⟨h1,h2⟩|⟨h1,h2⟩
 ·rw[h1]
  exact af ⟨_,rfl,h2⟩
 ·rw[show((dM n.store b).2==0)=false by simpa using h1]
  exact ab ⟨_,rfl,h2⟩
theorem CN(n:Nd)(s:So){e:Int}(h:e≠0):gy n s e=(dz {n with store:=s},false):=by
 unfold gy
 rw[show(e==0)=false by simpa using h]
 rfl
theorem Qw(h:Lv n.store p){m:BitVec 32}(hm:dP m p.s.an=true):
 (∃s,kv n m=({n with store:=s},true)/\Lv s ⟨p.s,p.m|||m,p.x⟩)\/(∃s:So,kv n m=(dz {n with store:=s},false)/\∀q,Kh s.ao q->oa q p\/oa q ⟨p.s,p.m|||m,p.x⟩):=by
 unfold kv nN
 rw[h.ma]
 rcases Qr h (Vp h.hd.rm hm) with⟨h1,h2⟩|⟨h1,h2⟩
 ·rw[h1]
  exact af ⟨_,rfl,h2⟩
 ·rw[CN _ _ h1]
  exact ab ⟨_,rfl,h2⟩
theorem E_(h:Lv n.store p){i:Nat}(hi:i<p.s.an.toNat):
 (∃s,bi n (i:Int)=({n with store:=s},true)/\Lv s ⟨p.s,ik p.m [(i:Int)],p.x⟩)\/(∃s:So,bi n (i:Int)=(dz {n with store:=s},false)/\∀q,Kh s.ao q->oa q p):=by
 unfold bi
 rcases Zc h hi with⟨h1,h2⟩|⟨h1,h2⟩
 ·rw[h1]
  exact af ⟨_,rfl,h2⟩
 ·rw[CN _ _ h1]
  exact ab ⟨_,rfl,h2⟩
theorem Qx(h:Lv n.store p){i:Nat}(hi:i<p.s.an.toNat){v:ByteArray}(hv:v.size=8):
 (∃s,eE n (i:Int) v=({n with store:=s},true)/\Lv s ⟨p.s,p.m,iG p.x i v⟩)\/(∃s:So,eE n (i:Int) v=(dz {n with store:=s},false)/\∀q,Kh s.ao q->oa q p\/oa q ⟨p.s,p.m,iG p.x i v⟩):=by
 unfold eE
 rcases acA h hi hv with⟨h1,h2⟩|⟨h1,h2⟩
 ·rw[h1]
  exact af ⟨_,rfl,h2⟩
 ·rw[CN _ _ h1]
  exact ab ⟨_,rfl,h2⟩
theorem Zf(h:Lv n.store p){i:Nat}(hi:i<p.s.an.toNat):
 (∃s,gj n (i:Int)=({n with store:=s},true)/\Lv s ⟨p.s,lA p.m [(i:Int)],p.x⟩)\/(∃s:So,gj n (i:Int)=(dz {n with store:=s},false)/\∀q,Kh s.ao q->oa q p\/oa q ⟨p.s,lA p.m [(i:Int)],p.x⟩):=by
 have hb:=h.hd.bl
 have hm:dP (lA p.m [(i:Int)]) p.s.an=true:=Vp h.hd.rm (acD hb.1 hb.2 hi)
 unfold gj mZ
 rw[Jd h hi,h.ma]
 simp only[aJ]
 rcases Qr h hm with⟨h1,h2⟩|⟨h1,h2⟩
 ·rw[h1]
  exact af ⟨_,rfl,h2⟩
 ·rw[CN _ _ h1]
  exact ab ⟨_,rfl,h2⟩
def vS(p:Pv)(i:Nat)(v:ByteArray):List Pv:=[p,⟨p.s,lA p.m [(i:Int)],p.x⟩,⟨p.s,lA p.m [(i:Int)],iG p.x i v⟩]
theorem Vq(h:Lv n.store p){i:Nat}(hi:i<p.s.an.toNat){v:ByteArray}(hv:v.size=8):
 (∃s,im n (i:Int) v=({n with store:=s},true)/\Lv s ⟨p.s,lA p.m [(i:Int)],iG p.x i v⟩)\/(∃s:So,im n (i:Int) v=(dz {n with store:=s},false)/\∀q,Kh s.ao q->∃w,w∈vS p i v/\oa q w):=by
 unfold im
 rcases Zf h hi with⟨s,e,hl⟩|⟨s,e,hq⟩
 ·rw[e]
  have k:=Qx (n:={n with store:=s}) hl hi hv
  unfold eE at k
  rcases k with⟨t,e2,Ye⟩|⟨t,e2,Uc⟩
  ·exact af ⟨t,e2,Ye⟩
  ·refine ab ⟨t,e2,fun q hq=> ?_⟩
   rcases Uc q hq with k|k
   ·exact⟨_,by simp[vS],k⟩
   ·exact⟨_,by simp[vS],k⟩
 ·rw[e]
  refine ab ⟨s,rfl,fun q k=> ?_⟩
  rcases hq q k with k|k
  ·exact⟨_,by simp[vS],k⟩
  ·exact⟨_,by simp[vS],k⟩
abbrev BZ:=List (Int×Int)
def um(T:BZ):List Int:=T.map (·.1)
def Kn(T:BZ)(x:Int):Prop:=x=7\/x∈um T
def gi:BZ->Prop
 |[]=>True
 |(a,p)::T=>a≠0/\a≠7/\a∉um T/\Kn T p/\gi T
def fy:BZ->Int->Int
 |[],_=>0
 |(a,p)::T,x=>if x=a then p else fy T x
def chain:BZ->Int->List Int
 |[],x=>[x]
 |(a,p)::T,x=>if x=a then a::chain T p else chain T x
def OC(f:Int->Int):List Int->Prop
 |[]=>False
 |[a]=>f a=0
 |a::b::r=>f a=b/\OC f (b::r)
variable{T:BZ}
theorem Kn.wZ{x:Int}(h:Kn T x)(e:Int×Int):Kn (e::T) x:=by
 rcases h with h|h
 ·exact af h
 ·exact ab (ch _ h)
theorem Kn.nz(ht:gi T){x:Int}(h:Kn T x):x≠0:=by
 induction T with
 |nil=>rcases h with h|h
       ·omega
       ·simp[um] at h
 |cons e T ih=>
  obtain⟨a,p⟩:=e
  rcases h with h|h
  ·omega
  ·simp only[um,eY,cM] at h
   rcases h with h|h
   ·rw[h];exact ht.1
   ·exact ih ht.2.2.2.2 (ab h)
theorem s_{a p:Int}(ht:gi ((a,p)::T)){x:Int}(h:Kn T x):x≠a:=by
 rintro rfl
 rcases h with h|h
 ·exact ht.2.1 h
 ·exact ht.2.2.1 h
theorem zP(ht:gi T):∀{x:Int},Kn T x->∀g∈chain T x,Kn T g:=by
 induction T with
 |nil=>intro x h g hg;simp[chain] at hg;rw[hg];exact h
 |cons e T ih=>
  obtain⟨a,p⟩:=e
  intro x h g hg
  unfold chain at hg
  by_cases hx:x=a
  ·rw[aP hx] at hg
   rcases cM.1 hg with rfl|hg
   ·exact ab (by simp[um])
   ·exact(ih ht.2.2.2.2 ht.2.2.2.1 g hg).wZ _
  ·rw[aR hx] at hg
   have hk:Kn T x:=by
    rcases h with h|h
    ·exact af h
    ·simp only[um,eY,cM] at h
     rcases h with h|h
     ·exact absurd h hx
     ·exact ab h
   exact(ih ht.2.2.2.2 hk g hg).wZ _
theorem E'{a p:Int}(ht:gi ((a,p)::T)){x:Int}(h:Kn T x):chain ((a,p)::T) x=chain T x:=by
 rw[chain,aR (s_ ht h)]
theorem Hv(a p:Int)(T:BZ):chain ((a,p)::T) a=a::chain T p:=by
 rw[chain,aP rfl]
theorem yu(T:BZ)(x:Int):∃r,chain T x=x::r:=by
 induction T generalizing x with
 |nil=>exact⟨[],rfl⟩
 |cons e T ih=>
  obtain⟨a,p⟩:=e
  unfold chain
  by_cases hx:x=a
  ·rw[aP hx,hx];exact⟨_,rfl⟩
  ·rw[aR hx];exact ih x
theorem yv(T:BZ)(x:Int):x∈chain T x:=by
 obtain⟨r,h⟩:=yu T x
 rw[h];simp
theorem yw{f g:Int->Int}:∀{l:List Int},(∀x∈l,f x=g x)->OC f l->OC g l
 |[],_,h=>h
 |[a],he,h=>by have:=he a (by simp);unfold OC at h ⊢;omega
 |a::b::r,he,h=>⟨by have:=he a (by simp);have:=h.1;omega,yw (fun x hx=>he x (ch _ hx)) h.2⟩
theorem Vr(ht:gi T):∀{x:Int},Kn T x->OC (fy T) (chain T x)/\(chain T x).Nodup/\7∈chain T x:=by
 induction T with
 |nil=>
  intro x h
  rcases h with h|h
  ·subst h;exact⟨rfl,by simp[chain],by simp[chain]⟩
  ·simp[um] at h
 |cons e T ih=>
  obtain⟨a,p⟩:=e
  intro x h
  by_cases hx:x=a
  ·subst hx
   rw[Hv]
   obtain⟨h1,h2,h3⟩:=ih ht.2.2.2.2 ht.2.2.2.1
   have hk:=zP ht.2.2.2.2 ht.2.2.2.1
   refine⟨?_,?_,ch _ h3⟩
   ·have h4:OC (fy ((x,p)::T)) (chain T p):=yw (fun y hy=>by unfold fy;rw[aR (s_ ht (hk y hy))];cases T<;>rfl) h1
    obtain⟨r,hr⟩:=yu T p
    rw[hr] at h4 ⊢
    exact⟨by unfold fy;rw[aP rfl],h4⟩
   ·rw[List.nodup_cons]
    exact⟨fun hm=>s_ ht (hk x hm) rfl,h2⟩
  ·have hk:Kn T x:=by
    rcases h with h|h
    ·exact af h
    ·simp only[um,eY,cM] at h
     rcases h with h|h
     ·exact absurd h hx
     ·exact ab h
   rw[E' ht hk]
   obtain⟨h1,h2,h3⟩:=ih ht.2.2.2.2 hk
   exact⟨yw (fun y hy=>by unfold fy;rw[aR (s_ ht (zP ht.2.2.2.2 hk y hy))];cases T<;>rfl) h1,h2,h3⟩
theorem Jh(f:Int->Int)(g:Int):∀i,gI f g (i+1)=gI f (f g) i
 |0=>rfl
 |i+1=>by rw[gI,Jh f g i];rfl
theorem L1{f:Int->Int}:∀{l:List Int} {x:Int},OC f l->l.head? =some x->(∀i (h:i<l.length),gI f x i=l[i])/\gI f x l.length=0
 |[],_,h,_=>h.elim
 |[a],x,h,hx=>by
  simp at hx
  subst hx
  refine⟨fun i hi=> ?_,h⟩
  simp at hi
  subst hi
  rfl
 |a::b::r,x,h,hx=>by
  simp at hx
  subst hx
  have ih:=L1 (x:=b) h.2 rfl
  have e:=h.1
  refine⟨fun i hi=> ?_,?_⟩
  ·cases i with
   |zero=>rfl
   |succ i=>rw[Jh,e];exact ih.1 i (by simpa using hi)
  ·show gI f a ((b::r).length+1)=0
   rw[Jh,e]
   exact ih.2
theorem L2(ht:gi T){l:List Mi}(hp:∀x,EI l x=fy T x){x:Int}(hx:Kn T x):Qd l x=chain T x:=by
 obtain⟨h1,h2,_⟩:=Vr ht hx
 obtain⟨r,hr⟩:=yu T x
 have hf:EI l=fy T:=funext hp
 have hz:=zP ht hx
 obtain⟨g1,g2⟩:=L1 (x:=x) h1 (by rw[hr];rfl)
 obtain⟨_,s2,s3⟩:=Of l x
 rw[hf] at s2 s3
 have agM:∀i,i<=(chain T x).length->o_ (fy T) x i=(chain T x).take i:=by
  intro i hi
  apply Dj
  ·rw[I2];simp;omega
  ·intro j hj hj2
   rw[I2] at hj
   have:=g1 j (by omega)
   simpa[o_] using this
 have hns:∀i,i<(chain T x).length->lO (fy T) x i=false:=by
  intro i hi
  unfold lO
  rw[g1 i hi,agM i (by omega),eh]
  refine⟨?_,?_⟩
  ·have:=Kn.nz ht (hz _ (Dn hi))
   simpa using this
  ·have hn:(chain T x)[i]∉(chain T x).take i:=by
    intro hm
    rw[List.mem_take_iff_getElem] at hm
    obtain⟨j,hj,he⟩:=hm
    exact List.pairwise_iff_getElem.1 h2 j i (by omega) hi (by omega) he
   simpa using hn
 have abh:lO (fy T) x (chain T x).length=true:=by
  unfold lO
  rw[g2]
  rfl
 have dK:RS l x=(chain T x).length:=by
  rcases Nat.lt_trichotomy (RS l x) (chain T x).length with h|h|h
  ·rw[hns _ h] at s2;exact absurd s2 (by simp)
  ·exact h
  ·rw[s3 _ h] at abh;exact absurd abh (by simp)
 show o_ (EI l) x (RS l x)=_
 rw[dK,hf,agM _ (aL _),qX]
structure Mts(l:List Mi)(T:BZ):Prop where
 to:∀x∈l,(x.g,x.p)∈T
 of:∀y∈T,∃x∈l,(x.g,x.p)=y
theorem Vt(ht:gi T):∀{x p:Int},(x,p)∈T->fy T x=p:=by
 induction T with
 |nil=>intro x p h;simp at h
 |cons e T ih=>
  obtain⟨a,q⟩:=e
  intro x p h
  rcases cM.1 h with h|h
  ·simp at h;unfold fy;rw[aP h.1,h.2]
  ·have hx:x≠a:=s_ ht (ab (tB.2 ⟨_,h,rfl⟩))
   unfold fy
   rw[aR hx]
   exact ih ht.2.2.2.2 h
theorem Sv:∀{x:Int},x∉um T->fy T x=0:=by
 induction T with
 |nil=>intro x _;rfl
 |cons e T ih=>
  obtain⟨a,q⟩:=e
  intro x h
  simp only[um,eY,cM,not_or] at h
  unfold fy
  rw[aR h.1]
  exact ih h.2
theorem Mts.par{l:List Mi}(h:Mts l T)(ht:gi T)(x:Int):EI l x=fy T x:=by
 unfold EI
 cases hf:l.find? (·.g==x) with
 |none=>
  rw[xB] at hf
  refine(Sv fun hm=> ?_).symm
  obtain⟨y,hy,he⟩:=tB.1 hm
  obtain⟨z,hz,hzy⟩:=h.of y hy
  apply hf z hz
  rw[<-he,<-hzy]
  simp
 |some y=>
  have h1:=H5 hf
  have h2:=List.find?_some hf
  have h3:y.g=x:=by simpa using h2
  have h4:=h.to y h1
  rw[h3] at h4
  exact(Vt ht h4).symm
theorem Mts.ak3{l:List Mi}(h:Mts l T)(ht:gi T){x:Int}(hx:Kn T x):Qd l x=chain T x:=L2 ht (h.par ht) hx
theorem Zg(ht:gi T){x:Int}(h:fy T x≠0):Kn T (fy T x):=by
 induction T with
 |nil=>exact absurd rfl h
 |cons e T ih=>
  obtain⟨a,p⟩:=e
  unfold fy at h ⊢
  by_cases hx:x=a
  ·rw[aP hx];exact ht.2.2.2.1.wZ _
  ·rw[aR hx] at h ⊢;exact(ih ht.2.2.2.2 h).wZ _
theorem A9{a p:Int}(ht:gi ((a,p)::T)){x:Int}(h:Kn T x\/x=0):fy ((a,p)::T) x=fy T x:=by
 have hx:x≠a:=by
  rcases h with h|h
  ·exact s_ ht h
  ·rw[h];exact fun h0=>ht.1 h0.symm
 rw[fy,aR hx]
theorem Vu(a p:Int)(T:BZ):fy ((a,p)::T) a=p:=by rw[fy,aP rfl]
theorem acF(ht:gi T)(x:Int):Kn T (fy T x)\/fy T x=0:=by
 by_cases h:fy T x=0
 ·exact ab h
 ·exact af (Zg ht h)
def Sw(T:BZ)(v:Ve):Prop:=
 (v.i4≠0->(fy T v.bH=0\/fy T v.bH=v.i4\/fy T v.bH=v.o0)/\(fy T (fy T v.bH)=0\/fy T (fy T v.bH)=v.i4\/fy T (fy T v.bH)=v.o0\/fy T (fy T v.bH)=v.o1))/\
 (v.i4=0->fy T v.bH=0\/fy T v.bH=v.o0\/fy T v.bH=v.o1)
variable{v:Ve}
theorem Sw.wZ{a p:Int}(ht:gi ((a,p)::T))(hk:Kn T v.bH)(h:Sw T v):Sw ((a,p)::T) v:=by
 unfold Sw
 rw[A9 ht (af hk),A9 ht (acF ht.2.2.2.2 _)]
 exact h
theorem Sw.ret(h:Sw T v):Sw T (bP v):=by
 unfold bP
 cases hb:v.i4==0 with
 |true=>exact h
 |false=>
  have hb:v.i4≠0:=by simpa using hb
  exact⟨fun h0=>absurd rfl h0,fun _=>(h.1 hb).1⟩
theorem Sw.L3{g:Int}(h:Sw T v)(hk:Kn T v.bH)(ht:gi ((g,v.bH)::T)):Sw ((g,v.bH)::T) (fK v g):=by
 have e1:fy ((g,v.bH)::T) g=v.bH:=Vu _ _ _
 have e2:fy ((g,v.bH)::T) v.bH=fy T v.bH:=A9 ht (af hk)
 have hz:=Kn.nz ht.2.2.2.2 hk
 unfold fK
 cases hb:v.i4==0 with
 |true=>
  have hb:v.i4=0:=eq_of_beq hb
  refine⟨fun _=> ?_,fun h0=>absurd h0 hz⟩
  show(fy _ g=0\/fy _ g=v.bH\/fy _ g=v.o0)/\(fy _ (fy _ g)=0\/fy _ (fy _ g)=v.bH\/fy _ (fy _ g)=v.o0\/fy _ (fy _ g)=v.o1)
  rw[e1,e2]
  have:=h.2 hb
  refine⟨ab (af rfl),?_⟩
  rcases this with h5|h5|h5
  ·exact af h5
  ·exact ab (ab (af h5))
  ·exact ab (ab (ab h5))
 |false=>
  have hb:v.i4≠0:=by simpa using hb
  refine⟨fun _=> ?_,fun h0=>absurd h0 hb⟩
  show(fy _ g=0\/fy _ g=v.i4\/fy _ g=v.bH)/\(fy _ (fy _ g)=0\/fy _ (fy _ g)=v.i4\/fy _ (fy _ g)=v.bH\/fy _ (fy _ g)=v.o0)
  rw[e1,e2]
  have:=(h.1 hb).1
  refine⟨ab (ab rfl),?_⟩
  rcases this with h5|h5|h5
  ·exact af h5
  ·exact ab (af h5)
  ·exact ab (ab (ab h5))
def PV(T:BZ)(bp:Bool)(v:Ve):Prop:=qh v/\Kn T v.bH/\(bp=false->(∀g,(g=v.i4\/g=v.o0\/g=v.o1)->g=0\/g∈chain T v.bH)/\Sw T v)
theorem PV.wZ{a p:Int}(ht:gi ((a,p)::T))(h:PV T i v):PV ((a,p)::T) i v:=by
 refine⟨h.1,h.2.1.wZ _,fun hi=>⟨fun g hg=> ?_,(h.2.2 hi).2.wZ ht h.2.1⟩⟩
 rw[E' ht h.2.1]
 exact(h.2.2 hi).1 g hg
theorem PV.ret(h:PV T i v):PV T i (bP v):=by
 have hI:i=false->Sw T (bP v):=fun hi=>(h.2.2 hi).2.ret
 have hp:=h.2.2
 unfold bP at hI ⊢
 cases hb:v.i4==0 with
 |true=>exact h
 |false=>
  rw[hb] at hI
  refine⟨⟨h.1.1,by unfold jO;simp,h.1.2.1,h.1.2.2.1⟩,h.2.1,fun hi=>⟨fun g hg=> ?_,hI hi⟩⟩
  rcases hg with hg|hg|hg
  ·exact af hg
  ·exact(h.2.2 hi).1 g (af hg)
  ·exact(h.2.2 hi).1 g (ab (af hg))
theorem PV.frm(h:PV T i v){g:Int}(hg:jO g):PV T true (zu v g):=
 ⟨⟨h.1.1,hg,h.1.2.2.1,h.1.2.2.2⟩,h.2.1,fun hi=>absurd hi (by simp)⟩
theorem PV.L3(h:PV T i v){g:Int}(hg:jO g)(ht:gi ((g,v.bH)::T)):PV ((g,v.bH)::T) i (fK v g):=by
 have hI:i=false->Sw ((g,v.bH)::T) (fK v g):=fun hi=>(h.2.2 hi).2.L3 h.2.1 ht
 have hz:∀x,(x=v.bH\/x=v.i4\/x=v.o0\/x=v.o1)->i=false->x=0\/x∈chain ((g,v.bH)::T) g:=by
  intro x hx hi
  rw[Hv]
  rcases hx with hx|hx
  ·right;rw[hx];exact ch _ (yv _ _)
  ·rcases(h.2.2 hi).1 x hx with h5|h5
   ·exact af h5
   ·exact ab (ch _ h5)
 have hk:Kn ((g,v.bH)::T) g:=ab (by simp[um])
 unfold fK at hI ⊢
 cases hb:v.i4==0 with
 |true=>
  rw[hb] at hI
  refine⟨⟨hg,h.1.1,h.1.2.2.1,h.1.2.2.2⟩,hk,fun hi=>⟨fun x hx=> ?_,hI hi⟩⟩
  rcases hx with hx|hx|hx
  ·exact hz x (af hx) hi
  ·exact hz x (ab (ab (af hx))) hi
  ·exact hz x (ab (ab (ab hx))) hi
 |false=>
  rw[hb] at hI
  refine⟨⟨hg,h.1.2.1,h.1.1,h.1.2.2.1⟩,hk,fun hi=>⟨fun x hx=> ?_,hI hi⟩⟩
  rcases hx with hx|hx|hx
  ·exact hz x (ab (af hx)) hi
  ·exact hz x (af hx) hi
  ·exact hz x (ab (ab (af hx))) hi
theorem B0(T:BZ):Cp (PV T):=⟨fun _ _ h=>h.1,fun _ _ h=>h.ret,fun _ _ _ h hg=>h.frm hg⟩
theorem NI.tE{a p:Int}(ht:gi ((a,p)::T))(h:NI (PV T) n):NI (PV ((a,p)::T)) n:=h.wZ fun _ _ k=>k.wZ ht
def Fr(T:BZ)(n:Nd):Prop:=∀g∈n.aQ,g≠0/\g≠7/\g∉um T/\jO g
structure Sx(T T':BZ)(n m:Nd):Prop where
 ok:NI (PV T') m
 tr:gi T'
 id:m.id=n.id
 hi:(T'=T/\m.aQ=n.aQ/\m.bh=n.bh)\/(∃g,T'=(g,mA n)::T/\n.aQ=g::m.aQ/\m.bh=n.bh++[⟨g,mA n,n.id⟩])
theorem Sx.bec(ht:gi T){m:Nd}(h:kD (PV T) n m):Sx T T n m:=⟨h.ok,ht,h.id,af ⟨rfl,h.dr,h.mi⟩⟩
theorem Sx.vH(ht:gi T){m:Nd}(h:NI (PV T) m)(id:m.id=n.id)(dr:m.aQ=n.aQ)(mi:m.bh=n.bh):Sx T T n m:=⟨h,ht,id,af ⟨rfl,dr,mi⟩⟩
structure Mnt(T:BZ)(g:Int)(n m:Nd):Prop where
 ok:NI (PV ((g,mA n)::T)) m
 tr:gi ((g,mA n)::T)
 id:m.id=n.id
 dr:n.aQ=g::m.aQ
 mi:m.bh=n.bh++[⟨g,mA n,n.id⟩]
 st:m.ag=0
theorem Mnt.sx{g:Int}{m:Nd}(h:Mnt T g n m):Sx T ((g,mA n)::T) n m:=⟨h.ok,h.tr,h.id,ab ⟨g,rfl,h.dr,h.mi⟩⟩
theorem B1(ht:gi T)(hn:NI (PV T) n)(hu:n.up=true)(h0:n.ag=0)(hf:Fr T n):
 a9 n=(n,14)\/∃g,Mnt T g n (a9 n).1/\(((a9 n).2=6/\(a9 n).1.up=false)\/((a9 n).2=0/\(a9 n).1.up=true)):=by
 unfold a9
 cases hd:n.aQ with
 |nil=>exact af rfl
 |cons g r=>
  right
  refine⟨g,?_⟩
  obtain⟨f1,f2,f3,f4⟩:=hf g (by rw[hd];simp)
  have hk:Kn T (mA n):=(hn.s hu).2.1
  have YD:gi ((g,mA n)::T):=⟨f1,f2,f3,hk,ht⟩
  have hg:=hn.tE YD
  have hb:SV (PV ((g,mA n)::T)) (pI n g):=(hn.s hu).L3 f4 YD
  have hv:lD (SV (PV ((g,mA n)::T))) (nO n g r).store.ao:=hg.d
  show Mnt T g n (jo n g r).1/\(((jo n g r).2=6/\(jo n g r).1.up=false)\/((jo n g r).2=0/\(jo n g r).1.up=true))
  unfold jo
  have z:(g==0)=false:=by simpa using f1
  rw[z]
  simp only[aJ]
  cases MT:(aH (nO n g r) (pI n g)).2 with
  |false=>
   obtain⟨x,x1,x2,x3,x4,x5⟩:=qI (B0 _) hv hb MT
   simp only[pa,bA]
   rw[x5]
   refine⟨⟨⟨EQ x1,fun h=>absurd h (by simp[dz]),fun h=>absurd h (by simp[dz]),fun _=>rfl⟩,YD,x2,?_,x4,rfl⟩,af ⟨by trivial,by trivial⟩⟩
   show n.aQ=g::x.aQ
   rw[x3,hd];rfl
  |true=>
   obtain⟨d,hdd,he⟩:=kN (B0 _) hv hb MT
   simp only[fS,aJ]
   rw[he]
   refine⟨⟨⟨hdd,fun _=>hb,fun h4=> ?_,fun h=>absurd (hu.symm.trans h) (by simp)⟩,YD,rfl,hd,rfl,h0⟩,ab ⟨by trivial,hu⟩⟩
   have:n.ag=4:=h4
   omega
theorem L4(ht:gi T)(hn:NI (PV T) n)(hf:Fr T n)(w:Bool):(∃T',Sx T T' n (eD n w).1.1)/\(eD n w).1.1.ag=0:=by
 unfold eD
 cases hu:n.up with
 |false=>exact⟨⟨T,Sx.vH ht hn rfl rfl rfl⟩,hn.z hu⟩
 |true=>
  simp only[fS,aJ]
  have key:(∃T',Sx T T' n (aF n).1)/\(aF n).1.ag=0:=by
   have hl:NI (PV T) (ei n):=⟨hn.d,hn.s,fun h4=>absurd h4 (by simp[ei]),fun _=>rfl⟩
   unfold aF
   cases hs:n.ag==0 with
   |true=>exact⟨⟨T,Sx.vH ht hn rfl rfl rfl⟩,eq_of_beq hs⟩
   |false=>
    simp only[aJ]
    cases hr:n.bL.on with
    |false=>exact⟨⟨T,Sx.vH ht hl rfl rfl rfl⟩,rfl⟩
    |true=>
     simp only[fS,aJ]
     have hm:(∃T',Sx T T' n (a9 (ei n)).1)/\(a9 (ei n)).1.ag=0:=by
      rcases B1 ht hl hu rfl hf with h|⟨g,h,_⟩
      ·rw[h];exact⟨⟨T,Sx.vH ht hl rfl rfl rfl⟩,rfl⟩
      ·exact⟨⟨_,h.ok,h.tr,h.id,ab ⟨g,rfl,h.dr,h.mi⟩⟩,h.st⟩
     exact az (p:=fun(x:Nd×List Ou)=>(∃T',Sx T T' n x.1)/\x.1.ag=0) hm hm
  exact az (p:=fun(x:(Nd×Bool)×List Ou)=>(∃T',Sx T T' n x.1.1)/\x.1.1.ag=0) key key
theorem B2{b:Int}{x:ByteArray}(h:dk n b x=0):n.up=true/\n.ag≠1/\n.bL.on=false/\n.aN=true:=by
 unfold dk at h
 cases h1:n.up with
 |false=>rw[h1] at h;simp at h
 |true=>
  rw[h1] at h
  cases h2:n.aN with
  |false=>rw[h2] at h;simp at h
  |true=>
   rw[h2] at h
   cases h3:(decide (b<0)||decide (b>=n.store.aj.an)) with
   |true=>rw[h3] at h;simp at h
   |false=>
    rw[h3] at h
    cases h4:!((x.size:Int)==8) with
    |true=>rw[h4] at h;simp at h
    |false=>
     rw[h4] at h
     cases h5:(n.bL.on||n.ag==1) with
     |true=>rw[h5] at h;simp at h
     |false=>simp at h5;exact⟨rfl,h5.2,h5.1,rfl⟩
theorem Hw(ht:gi T)(hn:NI (PV T) n)(hf:Fr T n)(id b:Int)(x:ByteArray):
 ey (cD n id b x).2/\(kD (PV T) n (cD n id b x).1\/(n.ag=0/\(cD n id b x).1.ag=0/\∃T',Sx T T' n (cD n id b x).1)):=by
 unfold cD
 cases hb:!(dk n b x==0) with
 |true=>exact⟨ey.re _ _ _ _,af (kD.refl hn)⟩
 |false=>
  simp only[aJ]
  obtain⟨hu,h1,_,_⟩:=B2 (n:=n) (b:=b) (x:=x) (by simpa using hb)
  cases hs:(n.ag==0&&!n.bZ) with
  |false=>
   have:=Hh hn h1 id b x
   exact⟨this.2,af this.1⟩
  |true=>
   simp only[bA]
   have h0:n.ag=0:=by simp at hs;exact hs.1
   rcases B1 ht hn hu h0 hf with h|⟨g,h,h2⟩
   ·rw[h];exact⟨ey.re _ _ _ _,af (kD.refl hn)⟩
   ·rcases h2 with⟨h2,h3⟩|⟨h2,h3⟩
    ·rw[h2]
     exact⟨ey.nil,ab ⟨h0,h.st,_,h.sx⟩⟩
    ·rw[h2]
     have hw:=Hh h.ok (by rw[h.st];decide) id b x
     have Qy:=hw.1
     refine⟨hw.2,ab ⟨h0,?_,_,Qy.ok,h.tr,Qy.id.trans h.id,ab ⟨g,rfl,?_,?_⟩⟩⟩
     ·show(dL (a9 n).1 id b x).1.ag=0
      cases hu2:(dL (a9 n).1 id b x).1.up with
      |false=>exact Qy.ok.z hu2
      |true=>
       have:=Qy.st hu2
       rw[h.st] at this
       omega
     ·show n.aQ=g::(dL (a9 n).1 id b x).1.aQ
      rw[Qy.dr];exact h.dr
     ·show(dL (a9 n).1 id b x).1.bh=_
      rw[Qy.mi];exact h.mi
theorem rG(ht:gi T)(hn:NI (PV T) n)(ks:List Bool):Sx T T n (bS n ks).1/\((bS n ks).1=n\/(n.up=false/\(bS n ks).1.ag=0)):=by
 unfold bS
 cases hu:n.up with
 |true=>exact⟨Sx.vH ht hn rfl rfl rfl,af rfl⟩
 |false=>
  simp only[aJ]
  have hr:=A4 hn.d ks
  have h0:=hn.z hu
  cases ha:!((cd (ce n.store.ao ks)).2==0) with
  |true=>
   simp only[bA]
   refine⟨Sx.vH ht ⟨hr,fun h=>absurd h (by simp),fun h=> ?_,fun _=>h0⟩ rfl rfl rfl,ab ⟨by trivial,h0⟩⟩
   have:n.ag=4:=h
   omega
  |false=>
   have h1:=Hd hr (by simpa using ha)
   simp only[aJ]
   exact⟨Sx.vH ht ⟨by show lD (SV (PV T)) (cd (ce n.store.ao ks)).1.ao;rw[h1.1];exact hr,fun _=>h1.2,fun h=>absurd h (show(0:Int)≠4 by decide),fun _=>rfl⟩ rfl rfl rfl,ab ⟨by trivial,by trivial⟩⟩
abbrev one(x y:Int):Nat:=if x=y then 1 else 0
structure CI(fut:List Int)(T:BZ)(a b:Nd):Prop where
 tr:gi T
 na:NI (PV T) a
 nb:NI (PV T) b
 ia:a.id=0
 ib:b.id=1
 mt:Mts (a.bh++b.bh) T
 ga:∀x∈a.bh,x.n=0
 gb:∀x∈b.bh,x.n=1
 ct:∀x:Int,a.aQ.count x+b.aQ.count x+(um T).count x+fut.count x+one x 0+one x 7<=1
 ra:∀x∈a.aQ,jO x
 rb:∀x∈b.aQ,jO x
 rf:∀x∈fut,jO x
theorem abi{x:Int}{p q g f:List Int}(h:p.count x+q.count x+g.count x+f.count x+one x 0+one x 7<=1)(hx:x∈p):x≠0/\x≠7/\x∉g:=by
 have h1:0<p.count x:=List.count_pos_iff.2 hx
 refine⟨fun h0=> ?_,fun h7=> ?_,fun hg=> ?_⟩
 ·have:one x 0=1:=aP h0
  omega
 ·have:one x 7=1:=aP h7
  omega
 ·have:=List.count_pos_iff.2 hg
  omega
variable{fut:List Int}
theorem CI.fa{a b:Nd}(h:CI fut T a b):Fr T a:=fun g hg=>by
 obtain⟨h1,h2,h3⟩:=abi (h.ct g) hg
 exact⟨h1,h2,h3,h.ra g hg⟩
theorem CI.fb{a b:Nd}(h:CI fut T a b):Fr T b:=fun g hg=>by
 have hc:=h.ct g
 obtain⟨h1,h2,h3⟩:=abi (p:=b.aQ) (q:=a.aQ) (g:=um T) (f:=fut) (x:=g) (by omega) hg
 exact⟨h1,h2,h3,h.rb g hg⟩
theorem CI.B3{T':BZ}{a b m:Nd}(h:CI fut T a b)(hs:Sx T T' a m):CI fut T' m b:=by
 rcases hs.hi with⟨rfl,hd,hm⟩|⟨g,rfl,hd,hm⟩
 ·exact⟨hs.tr,hs.ok,h.nb,hs.id.trans h.ia,h.ib,by rw[hm];exact h.mt,by rw[hm];exact h.ga,h.gb,by rw[hd];exact h.ct,by rw[hd];exact h.ra,h.rb,h.rf⟩
 ·refine⟨hs.tr,hs.ok,h.nb.tE hs.tr,hs.id.trans h.ia,h.ib,⟨fun x hx=> ?_,fun y hy=> ?_⟩,fun x hx=> ?_,h.gb,fun x=> ?_,fun x hx=>h.ra x (by rw[hd];simp[hx]),h.rb,h.rf⟩
  ·rw[hm] at hx
   simp only[df,nr] at hx
   rcases hx with(hx|hx)|hx
   ·exact ch _ (h.mt.to x (by simp[hx]))
   ·rw[hx];simp
   ·exact ch _ (h.mt.to x (by simp[hx]))
  ·rw[hm]
   rcases cM.1 hy with hy|hy
   ·exact⟨⟨g,mA a,a.id⟩,by simp,hy.symm⟩
   ·obtain⟨z,hz,he⟩:=h.mt.of y hy
    refine⟨z,?_,he⟩
    simp only[df] at hz ⊢
    rcases hz with hz|hz
    ·exact af (af hz)
    ·exact ab hz
  ·rw[hm] at hx
   simp only[df,nr] at hx
   rcases hx with hx|hx
   ·exact h.ga x hx
   ·rw[hx];exact h.ia
  ·have hc:=h.ct x
   rw[hd,xA] at hc
   show m.aQ.count x+b.aQ.count x+(g::um T).count x+_+_+_<=1
   rw[xA]
   omega
theorem CI.B4{T':BZ}{a b m:Nd}(h:CI fut T a b)(hs:Sx T T' b m):CI fut T' a m:=by
 rcases hs.hi with⟨rfl,hd,hm⟩|⟨g,rfl,hd,hm⟩
 ·exact⟨hs.tr,h.na,hs.ok,h.ia,hs.id.trans h.ib,by rw[hm];exact h.mt,h.ga,by rw[hm];exact h.gb,by rw[hd];exact h.ct,h.ra,by rw[hd];exact h.rb,h.rf⟩
 ·refine⟨hs.tr,h.na.tE hs.tr,hs.ok,h.ia,hs.id.trans h.ib,⟨fun x hx=> ?_,fun y hy=> ?_⟩,h.ga,fun x hx=> ?_,fun x=> ?_,h.ra,fun x hx=>h.rb x (by rw[hd];simp[hx]),h.rf⟩
  ·rw[hm] at hx
   simp only[df,nr] at hx
   rcases hx with hx|hx|hx
   ·exact ch _ (h.mt.to x (by simp[hx]))
   ·exact ch _ (h.mt.to x (by simp[hx]))
   ·rw[hx];simp
  ·rw[hm]
   rcases cM.1 hy with hy|hy
   ·exact⟨⟨g,mA b,b.id⟩,by simp,hy.symm⟩
   ·obtain⟨z,hz,he⟩:=h.mt.of y hy
    refine⟨z,?_,he⟩
    simp only[df] at hz ⊢
    rcases hz with hz|hz
    ·exact af hz
    ·exact ab (af hz)
  ·rw[hm] at hx
   simp only[df,nr] at hx
   rcases hx with hx|hx
   ·exact h.gb x hx
   ·rw[hx];exact h.ib
  ·have hc:=h.ct x
   rw[hd,xA] at hc
   show a.aQ.count x+m.aQ.count x+(g::um T).count x+_+_+_<=1
   rw[xA]
   omega
theorem CI.ak4{f f':List Int}{a b:Nd}(h:CI f T a b)(hc:∀x,f'.count x<=f.count x):CI f' T a b:=
 ⟨h.tr,h.na,h.nb,h.ia,h.ib,h.mt,h.ga,h.gb,fun x=>by have:=h.ct x;have:=hc x;omega,h.ra,h.rb,fun x hx=>h.rf x (List.count_pos_iff.1 (lT (List.count_pos_iff.2 hx) (hc x)))⟩
def tq(bd:Int):Pq->Pk
 | .aw h=>⟨1,bd,h,0,⟨#[]⟩⟩
 | .data b x=>⟨2,bd,fQ,b,x⟩
 | .Jf b=>⟨3,bd,fQ,b,⟨#[]⟩⟩
 | .m7 b=>⟨4,bd,fQ,b,⟨#[]⟩⟩
 | .m_ b=>⟨5,bd,fQ,b,⟨#[]⟩⟩
 | .n6 b x=>⟨6,bd,fQ,b,x⟩
 | .zN b=>⟨7,bd,fQ,b,⟨#[]⟩⟩
 | .uB=>⟨8,bd,fQ,0,⟨#[]⟩⟩
 | .done=>⟨9,bd,fQ,0,⟨#[]⟩⟩
 | .ask=>⟨10,bd,fQ,0,⟨#[]⟩⟩
 | .sY=>⟨11,bd,fQ,0,⟨#[]⟩⟩
 | .Ci=>⟨12,bd,fQ,0,⟨#[]⟩⟩
 | .vQ=>⟨13,bd,fQ,0,⟨#[]⟩⟩
def Ji(bd:Int)(q:Pq):ByteArray:=(jl (tq bd q)).1
def o5(n:Nd)(q:Pq):Ou:=⟨1,n.id,0,0,Ji n.bd q⟩
def di(n:Nd)(p:Pv):Sn:=⟨n.ag,n.aN,n.cb,n.cU,n.bL.on,n.bL.block.toNat,n.bL.data,n.wanted.toNat,n.eQ,p⟩
theorem bt{b:Bool}(h:(!b)=false):b=true:=by simpa using h
theorem Vv{g:Int}(hv:qh v)(hg:jO g):qh (fK v g):=by
 obtain⟨h1,h2,h3,h4⟩:=hv
 unfold fK
 cases v.i4==0
 ·exact⟨hg,h2,h1,h3⟩
 ·exact⟨hg,h1,h3,h4⟩
theorem Vx(v:Ve)(g:Int):(fK v g).bH=g:=by
 unfold fK
 cases v.i4==0<;>rfl
theorem Jj{s t:Su}(h:dI s=true)(hb:t.an=s.an)(hc:t.v.bH≠0):dI t=true:=by
 unfold dI at*
 simp only[cY,ij,xz,rg] at*
 rw[hb]
 exact⟨h.1,hc⟩
theorem A_(h:Gd S p):p.s.v.bH≠0:=(sU h.right.1).2.2
theorem Fa(hu:n.up=true)(h:Lv n.store p)(id:Int):
 (∃e,e≠0/\cj n id=(n,[ap n id e ⟨#[]⟩]))\/
 (n.aN=false/\p.s.bp=false/\n.cb=false/\n.cU=false/\(n.ag=2\/n.ag=3)/\cj n id=({n with cb:=true,bM:=id},[o5 n .ask]))\/
 (n.aN=false/\p.s.bp=false/\n.ag≠1/\n.ag≠2/\n.ag≠3/\n.ag≠4/\
   ((∃s,cj n id=({n with store:=s,aN:=true},[ap {n with store:=s,aN:=true} id 0 ⟨#[]⟩])/\Lv s ⟨{p.s with cH:=true},p.m,p.x⟩)\/
    kV n (cj n id) [] [p,⟨{p.s with cH:=true},p.m,p.x⟩])):=by
 have hr:=h.hd.right
 have hc:=kO h (b:={p.s with cH:=true}) hr.1 hr.2 rfl
 have eb:({n.store.aj with cH:=true}:Su)={p.s with cH:=true}:=by rw[h.su]
 rcases mp n.aN with h1|h1
 ·exact af ⟨8,by decide,by unfold cj;rw[hu,h1];rfl⟩
 rcases mp p.s.bp with h2|h2
 ·exact af ⟨9,by decide,by unfold cj;rw[hu,h1,h.su,h2];rfl⟩
 rcases mp p.s.dg with h3|h3
 ·exact af ⟨10,by decide,by unfold cj;rw[hu,h1,h.su,h2,h3];rfl⟩
 rcases mp (n.ag==1||n.ag==4||n.cb) with h4|h4
 ·exact af ⟨11,by decide,by unfold cj;rw[hu,h1,h.su,h2,h3,h4];rfl⟩
 rcases mp n.cU with h5|h5
 ·exact af ⟨12,by decide,by unfold cj;rw[hu,h1,h.su,h2,h3,h4,h5];rfl⟩
 have h4':=h4
 simp only[eh,rg] at h4'
 rcases mp (kK n) with h6|h6
 ·refine ab (af ⟨h1,h2,h4'.2,h5,?_,?_⟩)
  ·unfold kK at h6
   simpa using h6
  ·unfold cj
   simp only[hu,h1,h.su,h2,h3,h4,h5,h6,fS,aJ,bA]
   rfl
 ·have h6':=h6
  unfold kK at h6'
  simp only[eh,rg] at h6'
  refine ab (ab ⟨h1,h2,h4'.1.1,h6'.1,h6'.2,h4'.1.2,?_⟩)
  rcases hc with⟨s,e,k⟩|⟨s,e,k⟩
  ·refine af ⟨s,?_,k⟩
   unfold cj
   rw[eb,e]
   simp only[hu,h1,h.su,h2,h3,h4,h5,h6,fS,aJ]
  ·refine ab ⟨{n with store:=s},?_,rfl,fun q hq=> ?_⟩
   ·unfold cj
    rw[eb,e]
    simp only[hu,h1,h.su,h2,h3,h4,h5,h6,fS,pa,aJ,bA]
   ·rcases k q hq with k|k
    ·exact⟨_,by simp,k⟩
    ·exact⟨_,by simp,k⟩
theorem Hx(hu:n.up=true)(h:Lv n.store p)(id:Int):
 (∃e,e≠0/\dN n id=(n,[ap n id e ⟨#[]⟩]))\/
 (n.aN=true/\n.bL.on=false/\n.ag≠1/\
   ((∃s,dN n id=({n with store:=s,aN:=false},(if n.ag=2\/n.ag=3 then[o5 n .vQ] else[])++[ap n id 0 ⟨#[]⟩])/\Lv s ⟨{p.s with cH:=false},p.m,p.x⟩)\/
    kV n (dN n id) [] [p,⟨{p.s with cH:=false},p.m,p.x⟩])):=by
 have hr:=h.hd.right
 have hc:=kO h (b:={p.s with cH:=false}) hr.1 hr.2 rfl
 have eb:({n.store.aj with cH:=false}:Su)={p.s with cH:=false}:=by rw[h.su]
 rcases mp n.aN with h1|h1
 ·rcases mp (n.bL.on||n.ag==1) with h2|h2
  ·exact af ⟨11,by decide,by unfold dN;rw[hu,h1,h2];rfl⟩
  have Yh:=h2
  simp only[eh,rg] at Yh
  refine ab ⟨h1,Yh.1,Yh.2,?_⟩
  rcases hc with⟨s,e,k⟩|⟨s,e,k⟩
  ·refine af ⟨s,?_,k⟩
   unfold dN
   rw[eb,e,hu,h1,h2]
   show(bif kK {n with store:=s,aN:=false} then _ else _)=_
   by_cases h6:n.ag=2\/n.ag=3
   ·rw[aP h6,show kK {n with store:=s,aN:=false}=true by unfold kK;simpa using h6]
    rfl
   ·rw[aR h6,show kK {n with store:=s,aN:=false}=false by unfold kK;simpa using h6]
    rfl
  ·refine ab ⟨{n with store:=s},?_,rfl,fun q hq=> ?_⟩
   ·unfold dN
    rw[eb,e,hu,h1,h2]
    rfl
   ·rcases k q hq with k|k
    ·exact⟨_,by simp,k⟩
    ·exact⟨_,by simp,k⟩
 ·exact af ⟨8,by decide,by unfold dN;rw[hu,h1];rfl⟩
theorem Fb(hu:n.up=true)(h:Lv n.store p)(id:Int):
 (∃e,e≠0/\dj n id=(n,[ap n id e ⟨#[]⟩]))\/
 (n.ag=0/\n.aN=false/\
   ((∃s,dj n id=({n with store:=s},[ap n id 0 ⟨#[]⟩])/\Lv s ⟨{p.s with dg:=true},p.m,p.x⟩)\/
    kV n (dj n id) [] [p,⟨{p.s with dg:=true},p.m,p.x⟩])):=by
 have hr:=h.hd.right
 have hc:=kO h (b:={p.s with dg:=true}) hr.1 hr.2 rfl
 have eb:({n.store.aj with dg:=true}:Su)={p.s with dg:=true}:=by rw[h.su]
 rcases mp n.aN with h1|h1
 ·exact af ⟨8,by decide,by unfold dj;rw[hu,h1];rfl⟩
 by_cases h2:n.ag=0
 ·refine ab ⟨h2,h1,?_⟩
  rcases hc with⟨s,e,k⟩|⟨s,e,k⟩
  ·refine af ⟨s,?_,k⟩
   unfold dj
   rw[eb,e,hu,show(n.ag==0)=true by simpa using h2]
   simp only[h1,fS,aJ]
   rfl
  ·refine ab ⟨{n with store:=s},?_,rfl,fun q hq=> ?_⟩
   ·unfold dj
    rw[eb,e,hu,show(n.ag==0)=true by simpa using h2]
    simp only[h1,fS,pa,aJ,bA]
   ·rcases k q hq with k|k
    ·exact⟨_,by simp,k⟩
    ·exact⟨_,by simp,k⟩
 ·exact af ⟨11,by decide,by unfold dj;rw[hu,h1,show(n.ag==0)=false by simpa using h2];rfl⟩
def nU(p:Pv)(g:Int):Pv:=⟨{p.s with v:=fK p.s.v g},p.m,p.x⟩
theorem Qz(h:Lv n.store p)(hd:∀g∈n.aQ,g≠0/\jO g):
 a9 n=(n,14)\/(∃g∈n.aQ,(∃s r l,a9 n=({n with aQ:=r,bh:=l,store:=s,bZ:=true},0)/\Lv s (nU p g))\/
  (∃m:Nd,a9 n=(dz m,6)/\m.id=n.id/\∀q,Kh m.store.ao q->oa q p\/oa q (nU p g))):=by
 cases hq:n.aQ with
 |nil=>exact af (by unfold a9;rw[hq])
 |cons g r=>
  right
  obtain⟨g0,gr⟩:=hd g (by rw[hq];simp)
  refine⟨g,by simp,?_⟩
  have em:a9 n=jo n g r:=by unfold a9;rw[hq]
  have hr:=h.hd.right
  have hm:Lv (nO n g r).store p:=h
  have e0:pI n g={p.s with v:=fK p.s.v g}:=by unfold pI;rw[h.su]
  have hs:dI {p.s with v:=fK p.s.v g}=true:=Jj hr.1 rfl (by show(fK p.s.v g).bH≠0;rw[Vx];exact g0)
  have hz:(g==0)=false:=by simpa using g0
  rcases kO hm (b:={p.s with v:=fK p.s.v g}) hs (Vv hr.2 gr) rfl with⟨s,e,k⟩|⟨s,e,k⟩
  ·refine af ⟨s,r,n.bh++[⟨g,n.store.aj.v.bH,n.id⟩],?_,k⟩
   rw[em]
   unfold jo
   rw[hz,e0,e]
   rfl
  ·refine ab ⟨{nO n g r with store:=s},?_,rfl,k⟩
   rw[em]
   unfold jo
   rw[hz,e0,e]
   rfl
theorem A'(h:Lv n.store p)(id:Int){i:Nat}(hi:i<p.s.an.toNat){x:ByteArray}(hx:x.size=8):
 (n.ag=0/\∃s,dL n id i x=({n with store:=s},[ap n id 0 ⟨#[]⟩])/\Lv s ⟨p.s,lA p.m [(i:Int)],iG p.x i x⟩)\/
 (n.ag≠0/\∃s,dL n id i x=({n with store:=s,bL:=⟨true,id,i,x⟩},[o5 n (.data i x)])/\Lv s ⟨p.s,lA p.m [(i:Int)],iG p.x i x⟩)\/
 kV n (dL n id i x) [] (vS p i x):=by
 rcases Vq h hi hx with⟨s,e,k⟩|⟨s,e,k⟩
 ·by_cases h0:n.ag=0
  ·refine af ⟨h0,s,?_,k⟩
   unfold dL
   rw[e]
   show(bif n.ag==0 then _ else _)=_
   rw[show(n.ag==0)=true by simpa using h0]
   rfl
  ·refine ab (af ⟨h0,s,?_,k⟩)
   unfold dL
   rw[e]
   show(bif n.ag==0 then _ else _)=_
   rw[show(n.ag==0)=false by simpa using h0]
   rfl
 ·refine ab (ab ⟨{n with store:=s},?_,rfl,k⟩)
  unfold dL
  rw[e]
  rfl
theorem Vy{b:Int}{x:ByteArray}(h:dk n b x=0):n.up=true/\n.aN=true/\n.bL.on=false/\n.ag≠1/\x.size=8/\0<=b/\b<n.store.aj.an:=by
 have h1:=B2 h
 refine⟨h1.1,h1.2.2.2,h1.2.2.1,h1.2.1,?_⟩
 unfold dk at h
 rw[h1.1,h1.2.2.2] at h
 simp only[fS,aJ] at h
 rcases mp (decide (b<0)||decide (b>=n.store.aj.an)) with h3|h3
 ·rw[h3] at h;simp at h
 ·rw[h3] at h
  simp only[eh,H'] at h3
  rcases mp (!((x.size:Int)==8)) with h4|h4
  ·rw[h4] at h;simp at h
  ·have h4:(x.size:Int)=8:=by simpa using h4
   omega
theorem L5(h:Lv n.store p)(hd:∀g∈n.aQ,g≠0/\jO g)(id b:Int)(x:ByteArray):
 (∃e,e≠0/\cD n id b x=(n,[ap n id e ⟨#[]⟩]))\/
 (n.up=true/\n.aN=true/\n.bL.on=false/\n.ag≠1/\x.size=8/\∃i:Nat,b=(i:Int)/\i<p.s.an.toNat/\
   ((n.ag≠0/\((∃s,cD n id b x=({n with store:=s,bL:=⟨true,id,i,x⟩},[o5 n (.data i x)])/\Lv s ⟨p.s,lA p.m [(i:Int)],iG p.x i x⟩)\/kV n (cD n id b x) [] (vS p i x)))\/
    (n.ag=0/\n.bZ=true/\((∃s,cD n id b x=({n with store:=s},[ap n id 0 ⟨#[]⟩])/\Lv s ⟨p.s,lA p.m [(i:Int)],iG p.x i x⟩)\/kV n (cD n id b x) [] (vS p i x)))\/
    (n.ag=0/\n.bZ=false/\∃g∈n.aQ,((∃s r l,cD n id b x=({n with aQ:=r,bh:=l,store:=s,bZ:=true},[ap n id 0 ⟨#[]⟩])/\Lv s ⟨(nU p g).s,lA p.m [(i:Int)],iG p.x i x⟩)\/kV n (cD n id b x) [] (p::vS (nU p g) i x))))):=by
 by_cases hb:dk n b x=0
 ·obtain⟨f1,f2,f3,f4,f5,f6,f7⟩:=Vy hb
  rw[h.su] at f7
  have hi:b.toNat<p.s.an.toNat:=by omega
  have eb:b=(b.toNat:Int):=by omega
  have qT:(!(dk n b x==0))=false:=by rw[hb];rfl
  by_cases h0:n.ag=0
  ·have Vz:(n.ag==0)=true:=by simpa using h0
   rcases mp n.bZ with h6|h6
   ·have e0:cD n id b x=dL n id b.toNat x:=by unfold cD;rw[qT,Vz,h6,<-eb];rfl
    refine ab ⟨f1,f2,f3,f4,f5,b.toNat,eb,hi,ab (af ⟨h0,h6,?_⟩)⟩
    rw[e0]
    rcases A' h id hi f5 with⟨_,s,e,k⟩|⟨h7,_⟩|k
    ·exact af ⟨s,e,k⟩
    ·exact absurd h0 h7
    ·exact ab k
   ·rcases Qz h hd with e|⟨g,hg,⟨s,r,l,e,k⟩|⟨m,e,em,k⟩⟩
    ·refine af ⟨14,by decide,?_⟩
     unfold cD
     rw[qT,Vz,h6,e]
     rfl
    ·have e0:cD n id b x=dL {n with aQ:=r,bh:=l,store:=s,bZ:=true} id b.toNat x:=by
      unfold cD
      rw[qT,Vz,h6,e,<-eb]
      rfl
     refine ab ⟨f1,f2,f3,f4,f5,b.toNat,eb,hi,ab (ab ⟨h0,h6,g,hg,?_⟩)⟩
     rw[e0]
     rcases A' (n:={n with aQ:=r,bh:=l,store:=s,bZ:=true}) (p:=nU p g) k id hi f5 with⟨_,s2,e2,k2⟩|⟨h7,_⟩|⟨m2,e2,i2,k2⟩
     ·exact af ⟨s2,r,l,e2,k2⟩
     ·exact absurd h0 h7
     ·refine ab ⟨m2,e2,i2,fun q hq=> ?_⟩
      obtain⟨v,hv,hd⟩:=k2 q hq
      exact⟨v,ch _ hv,hd⟩
    ·refine ab ⟨f1,f2,f3,f4,f5,b.toNat,eb,hi,ab (ab ⟨h0,h6,g,hg,ab ⟨m,?_,em,fun q hq=> ?_⟩⟩)⟩
     ·unfold cD
      rw[qT,Vz,h6,e]
      rfl
     ·rcases k q hq with k|k
      ·exact⟨p,by simp,k⟩
      ·exact⟨nU p g,by simp[vS],k⟩
  ·have Vz:(n.ag==0)=false:=by simpa using h0
   have e0:cD n id b x=dL n id b.toNat x:=by unfold cD;rw[qT,Vz,<-eb];rfl
   refine ab ⟨f1,f2,f3,f4,f5,b.toNat,eb,hi,af ⟨h0,?_⟩⟩
   rw[e0]
   rcases A' h id hi f5 with⟨h7,_⟩|⟨_,s,e,k⟩|k
   ·exact absurd h7 h0
   ·exact af ⟨s,e,k⟩
   ·exact ab k
 ·refine af ⟨_,hb,?_⟩
  unfold cD
  rw[show(dk n b x==0)=false by simpa using hb]
  rfl
theorem Zh(h:Lv n.store p)(hd:∀g∈n.aQ,g≠0/\jO g)(h0:n.ag≠0):
 (n.bL.on=false/\aF n=(ei n,iS n))\/
 (n.bL.on=true/\(aF n=(ei n,iS n++[ap n n.bL.id 14 ⟨#[]⟩])\/
   ∃g∈n.aQ,(∃s r l,aF n=({ei n with aQ:=r,bh:=l,store:=s,bZ:=true},iS n++[ap n n.bL.id 0 ⟨#[]⟩])/\Lv s (nU p g))\/
    kV n (aF n) (iS n) [p,nU p g])):=by
 have Vz:(n.ag==0)=false:=by simpa using h0
 rcases mp n.bL.on with h1|h1
 ·refine ab ⟨h1,?_⟩
  rcases Qz (n:=ei n) h hd with e|⟨g,hg,⟨s,r,l,e,k⟩|⟨m,e,em,k⟩⟩
  ·refine af ?_
   unfold aF
   rw[Vz,h1,e]
   rfl
  ·refine ab ⟨g,hg,af ⟨s,r,l,?_,k⟩⟩
   unfold aF
   rw[Vz,h1,e]
   rfl
  ·refine ab ⟨g,hg,ab ⟨m,?_,em,fun q hq=> ?_⟩⟩
   ·unfold aF
    rw[Vz,h1,e]
    rfl
   ·rcases k q hq with k|k
    ·exact⟨_,by simp,k⟩
    ·exact⟨_,by simp,k⟩
 ·refine af ⟨h1,?_⟩
  unfold aF
  rw[Vz,h1]
  rfl
def TQ:Pq->Prop
 | .aw h=>eZ h=true/\qh h.v
 | .data b x=>b<32/\x.size=8
 | .n6 b x=>b<32/\x.size=8
 | .Jf b=>b<32
 | .m7 b=>b<32
 | .m_ b=>b<32
 | .zN b=>b<32
 |_=>True
theorem Sy{q:Pq}(h:TQ q)(bd:Int):cN (tq bd q)=true:=by
 have he:ja fQ=true:=(Er fQ).2 rfl
 have hb:∀b:Nat,b<32->(decide ((b:Int)<0)||decide ((b:Int)>31))=false:=fun b hb=>by simp;omega
 cases q
 case aw h2=>simp[cN,tq,TQ,cT,iQ] at*;exact h.1
 case data b x=>
  have h8:((x.size:Int)==8)=true:=by have:=h.2;simp;omega
  unfold cN tq
  simp only[hb b h.1,he,cT,iQ]
  simpa using h8
 case n6 b x=>
  have h8:((x.size:Int)==8)=true:=by have:=h.2;simp;omega
  unfold cN tq
  simp only[hb b h.1,he,cT,iQ]
  simpa using h8
 case Jf b=>unfold cN tq;simp only[hb b h,he,cT,iQ];rfl
 case m7 b=>unfold cN tq;simp only[hb b h,he,cT,iQ];rfl
 case m_ b=>unfold cN tq;simp only[hb b h,he,cT,iQ];rfl
 case zN b=>unfold cN tq;simp only[hb b h,he,cT,iQ];rfl
 all_goals(unfold cN tq;simp only[he,cT,iQ];rfl)
theorem Zi{q:Pq}(h:TQ q)(bd:Int):qh (tq bd q).aw.v:=by
 have h0:qh fQ.v:=by unfold qh jO fQ;simp
 cases q<;>first|exact h0|exact h.2
theorem QA(bd:Int)(q:Pq):(tq bd q).bd=bd:=by cases q<;>rfl
theorem VA{q:Pq}(h:TQ q){bd:Int}(hs:jO bd):bw (Ji bd q) bd=(tq bd q,0):=by
 unfold bw Ji
 rw[Ja (Sy h bd) (by rw[QA];exact hs) (Zi h bd)]
 simp only[pO,fS,aJ,QA]
theorem VC{q:Pq}(h:TQ q)(hs:jO n.bd)(hu:n.up=true)(h0:n.ag≠0)(hf:bO n (tq n.bd q)=true):bF n (Ji n.bd q)=jX n (tq n.bd q):=by
 unfold bF
 rw[VA h hs,hu,show(n.ag==0)=false by simpa using h0]
 simp only[hf,fS,Bool.or_self,aJ]
 rfl
theorem VD(h:Lv n.store p){i:Nat}(hi:i<p.s.an.toNat){x:ByteArray}(hx:x.size=8):
 (∃s,jt n i x=({n with store:=s},[o5 n (.Jf i)])/\Lv s ⟨p.s,lA p.m [(i:Int)],iG p.x i x⟩)\/kV n (jt n i x) [] (vS p i x):=by
 rcases Vq h hi hx with⟨s,e,k⟩|⟨s,e,k⟩
 ·refine af ⟨s,?_,k⟩
  unfold jt
  rw[e]
  rfl
 ·refine ab ⟨{n with store:=s},?_,rfl,k⟩
  unfold jt
  rw[e]
  rfl
theorem VE(h:Lv n.store p){i:Nat}(hi:i<p.s.an.toNat)(hr:n.bL.on=true)(hb:n.bL.block=(i:Int)):
 (∃s,iR n i=({n with store:=s,bL:=iE},[ap n n.bL.id 0 ⟨#[]⟩,o5 n (.m7 i)])/\Lv s ⟨p.s,ik p.m [(i:Int)],p.x⟩)\/kV n (iR n i) [ap n n.bL.id 0 ⟨#[]⟩] [p]:=by
 have h2:(!n.bL.on||!(n.bL.block==(i:Int)))=false:=by rw[hr,hb];simp
 rcases E_ (n:={n with bL:=iE}) h hi with⟨s,e,k⟩|⟨s,e,k⟩
 ·refine af ⟨s,?_,k⟩
  unfold iR
  rw[h2,e]
  rfl
 ·refine ab ⟨{n with store:=s,bL:=iE},?_,rfl,fun q hq=>⟨p,by simp,k q hq⟩⟩
  unfold iR
  rw[h2,e]
  rfl
theorem Fc(h:Lv n.store p){i:Nat}(hi:i<p.s.an.toNat):
 (∃s,(bi n (i:Int)).1={n with store:=s}/\Lv s ⟨p.s,ik p.m [(i:Int)],p.x⟩)\/kV n ((bi n (i:Int)).1,[]) [] [p]:=by
 rcases E_ h hi with⟨s,e,k⟩|⟨s,e,k⟩
 ·rw[e]
  exact af ⟨s,rfl,k⟩
 ·rw[e]
  exact ab ⟨_,rfl,rfl,fun q hq=>⟨p,by simp,k q hq⟩⟩
theorem Zj(h:Lv n.store p){i:Nat}(hi:i<p.s.an.toNat):Eu n i=[o5 n (.n6 i (p.x i))]:=by
 unfold Eu
 rw[Je h hi]
 rfl
theorem Zk{m:BitVec 32}{n:Int}(h:dP m n=true){c:Nat}(hc:m.getLsbD c=true):c<n.toNat:=by
 unfold dP at h
 simp only[cY,ij,jF] at h
 have h1:=cu (fun z=>z.getLsbD c) h.2
 have hl:c<32:=by
  by_cases e:c<32
  ·exact e
  ·rw[MZ _ _ (by omega)] at hc;exact absurd hc (by simp)
 simp only[qm,tt,hl,oH,i6,xx,hc,zO h.1.1 h.1.2] at h1
 simpa using h1
theorem Sz{m:BitVec 32}(h:n7 m 0=none)(c:Nat):m.getLsbD c=false:=by
 by_cases hc:c<32
 ·cases hm:m.getLsbD c with
  |false=>rfl
  |true=>
   unfold n7 qD Eo at h
   rw[xB] at h
   have:=h (c:Int) (by simp;exact⟨c,⟨hc,hm⟩,rfl⟩)
   simp at this
 ·exact MZ _ _ (by omega)
theorem SA{m:BitVec 32}{c:Int}(h:n7 m 0=some c):∃k:Nat,c=(k:Int)/\k<32/\m.getLsbD k=true:=by
 unfold n7 qD Eo at h
 have:=H5 h
 simp at this
 obtain⟨k,hk,rfl⟩:=this
 exact⟨k,rfl,hk.1,hk.2⟩
def qL(n:Nd)(p:Pv):Su:=⟨p.s.an,bP n.eQ.v,false,false,false⟩
theorem QB(h:qh v):qh (bP v):=by
 unfold bP
 cases v.i4==0
 ·exact⟨h.1,by unfold jO;simp,h.2.1,h.2.2.1⟩
 ·exact h
theorem QC(v:Ve):(bP v).bH=v.bH:=by
 unfold bP
 cases v.i4==0<;>rfl
theorem QD(h:Lv n.store p)(hi:p.s.bp=true)(hw:n.wanted=0)(hv:qh n.eQ.v)(hc:n.eQ.v.bH≠0):
 (∃c:Nat,c<p.s.an.toNat/\p.m.getLsbD c=true/\fZ n=({n with wanted:=((c+1:Nat):Int)},[o5 n (.m_ c)]))\/
 ((∀c,p.m.getLsbD c=false)/\((∃s,fZ n=({n with store:=s},[o5 n .uB])/\Lv s ⟨qL n p,p.m,p.x⟩)\/kV n (fZ n) [] [p,⟨qL n p,p.m,p.x⟩])):=by
 have h1:(!n.store.aj.bp||!(n.wanted==0))=false:=by rw[h.su,hi,hw];rfl
 cases hn:n7 p.m 0 with
 |some c=>
  obtain⟨k,rfl,hk,hm⟩:=SA hn
  refine af ⟨k,Zk h.hd.rm hm,hm,?_⟩
  unfold fZ
  rw[h1,h.ma,hn]
  have e:wrap .i64 ((k:Int)+1)=((k+1:Nat):Int):=by
   rw[dG (by omega) (by omega)]
   omega
  simp only[aJ,H9,bA,q_]
  rw[e]
  rfl
 |none=>
  refine ab ⟨Sz hn,?_⟩
  have eb:n9 n=qL n p:=by unfold n9 qL;rw[h.su]
  have hr:dI (qL n p)=true:=Jj h.hd.right.1 rfl (by show(bP n.eQ.v).bH≠0;rw[QC];exact hc)
  rcases kO h (b:=qL n p) hr (QB hv) rfl with⟨s,e,k⟩|⟨s,e,k⟩
  ·refine af ⟨s,?_,k⟩
   unfold fZ
   rw[h1,h.ma,hn,eb,e]
   rfl
  ·refine ab ⟨{n with store:=s},?_,rfl,fun q hq=> ?_⟩
   ·unfold fZ
    rw[h1,h.ma,hn,eb,e]
    rfl
   ·rcases k q hq with k|k
    ·exact⟨_,by simp,k⟩
    ·exact⟨_,by simp,k⟩
def SB(n:Nd)(p:Pv)(i:Nat)(x:ByteArray):List Pv:=
 [p,⟨p.s,p.m,iG p.x i x⟩,⟨p.s,ik p.m [(i:Int)],iG p.x i x⟩,⟨qL n p,ik p.m [(i:Int)],iG p.x i x⟩]
theorem acG(h:Lv n.store p){i:Nat}(hi:i<p.s.an.toNat){x:ByteArray}(hx:x.size=8)(ak5:p.s.bp=true)(hw:n.wanted=((i+1:Nat):Int))(hv:qh n.eQ.v)(hc:n.eQ.v.bH≠0):
 (∃(c:Nat) (s:So),c<p.s.an.toNat/\(ik p.m [(i:Int)]).getLsbD c=true/\nc n i x=({n with store:=s,wanted:=((c+1:Nat):Int)},[o5 n (.zN i),o5 n (.m_ c)])/\Lv s ⟨p.s,ik p.m [(i:Int)],iG p.x i x⟩)\/
 ((∀c,(ik p.m [(i:Int)]).getLsbD c=false)/\∃s,nc n i x=({n with store:=s,wanted:=0},[o5 n (.zN i),o5 n .uB])/\Lv s ⟨qL n p,ik p.m [(i:Int)],iG p.x i x⟩)\/
 (((∀c,(ik p.m [(i:Int)]).getLsbD c=false)/\∃l,kV n (nc n i x) l (SB n p i x)/\∀o∈l,o.ae=1)\/∃l,kV n (nc n i x) l [p,⟨p.s,p.m,iG p.x i x⟩,⟨p.s,ik p.m [(i:Int)],iG p.x i x⟩]/\∀o∈l,o.ae=1):=by
 have hb:=h.hd.bl
 have e0:(!(n.wanted==wrap .i64 ((i:Int)+1)))=false:=by
  rw[hw,dG (by omega) (by omega)]
  simp
 rcases Qx h hi hx with⟨s,e,k⟩|⟨s,e,k⟩
 ·rcases E_ (n:={n with store:=s}) k hi with⟨t,e2,k2⟩|⟨t,e2,k2⟩
  ·have eg:nc n i x=((fZ {n with store:=t,wanted:=0}).1,o5 n (.zN i)::(fZ {n with store:=t,wanted:=0}).2):=by
    unfold nc nP
    rw[e0,e]
    simp only[aJ]
    rw[e2]
    rfl
   rcases QD (n:={n with store:=t,wanted:=0}) k2 ak5 rfl hv hc with⟨c,ly,hcm,e3⟩|⟨hz,⟨u',e3,k3⟩|⟨m,e3,i3,k3⟩⟩
   ·exact af ⟨c,t,ly,hcm,by rw[eg,e3];rfl,k2⟩
   ·exact ab (af ⟨hz,u',by rw[eg,e3];rfl,k3⟩)
   ·refine ab (ab (af ⟨hz,[o5 n (.zN i)],⟨m,by rw[eg,e3],i3,fun q hq=> ?_⟩,fun o ho=>by simp at ho;rw[ho];rfl⟩))
    obtain⟨v,hv1,Ed⟩:=k3 q hq
    refine⟨v,?_,Ed⟩
    simp only[cM,mM,lV] at hv1
    rcases hv1 with rfl|rfl
    ·simp[SB]
    ·simp[SB,qL]
  ·refine ab (ab (ab ⟨[],⟨{n with store:=t},?_,rfl,fun q hq=>⟨_,?_,k2 q hq⟩⟩,by simp⟩))
   ·unfold nc
    rw[e0,e]
    simp only[aJ]
    rw[e2]
    rfl
   ·simp
 ·refine ab (ab (ab ⟨[],⟨{n with store:=s},?_,rfl,fun q hq=> ?_⟩,by simp⟩))
  ·unfold nc
   rw[e0,e]
   rfl
  ·rcases k q hq with k|k
   ·exact⟨_,by simp,k⟩
   ·exact⟨_,by simp,k⟩
theorem SC(h:Lv n.store p){i:Nat}(hi:i<p.s.an.toNat):
 (n.bL.on=true/\n.bL.block=(i:Int)/\io n i=n)\/((n.bL.on=true->n.bL.block≠(i:Int))/\
 ((∃s,io n i={n with store:=s}/\Lv s ⟨p.s,ik p.m [(i:Int)],p.x⟩)\/kV n (io n i,[]) [] [p])):=by
 rcases mp (n.bL.on&&n.bL.block==(i:Int)) with h1|h1
 ·refine af ?_
  have h2:=h1
  simp only[cY,jF] at h2
  refine⟨h2.1,h2.2,?_⟩
  unfold io
  rw[h1]
  rfl
 ·refine ab ⟨fun ho hb=> ?_,?_⟩
  ·rw[ho,hb] at h1;simp at h1
  ·have e:io n i=(bi n (i:Int)).1:=by unfold io;rw[h1];rfl
   rw[e]
   exact Fc h hi
def yx(n:Nd)(p:Pv):Su:={p.s with v:=bP p.s.v,cH:=n.aN}
theorem VF(h:Lv n.store p):hZ n=yx n p/\dI (yx n p)=true/\qh (yx n p).v/\(yx n p).an=p.s.an:=by
 refine⟨by unfold hZ yx;rw[h.su],Jj h.hd.right.1 rfl (by show(bP p.s.v).bH≠0;rw[QC];exact A_ h.hd),QB h.hd.right.2,rfl⟩
theorem VG(h:Lv n.store p):
 (∃s,ju n=({n with store:=s,ag:=2},[o5 n .done])/\Lv s ⟨yx n p,p.m,p.x⟩)\/kV n (ju n) [] [p,⟨yx n p,p.m,p.x⟩]:=by
 obtain⟨h1,h2,h3,h4⟩:=VF h
 rcases kO h h2 h3 h4 with⟨s,e,k⟩|⟨s,e,k⟩
 ·refine af ⟨s,?_,k⟩
  unfold ju
  rw[h1,e]
  rfl
 ·refine ab ⟨{n with store:=s},?_,rfl,fun q hq=> ?_⟩
  ·unfold ju
   rw[h1,e]
   rfl
  ·rcases k q hq with k|k
   ·exact⟨_,by simp,k⟩
   ·exact⟨_,by simp,k⟩
theorem acH(n:Nd):((n.aN=true\/n.cb=true)/\ed n 10=(n,[o5 n .Ci]))\/(n.aN=false/\n.cb=false/\ed n 10=({n with cU:=true},[o5 n .sY])):=by
 rcases mp (n.aN||n.cb) with h|h
 ·refine af ⟨by simpa using h,?_⟩
  unfold ed
  rw[h]
  rfl
 ·refine ab ?_
  have h2:=h
  simp only[eh] at h2
  refine⟨h2.1,h2.2,?_⟩
  unfold ed
  rw[h]
  rfl
theorem VH(h:Lv n.store p):
 (∃s,ed n 11=({n with store:=s,aN:=true,cb:=false,bM:=0},[ap n n.bM 0 ⟨#[]⟩])/\Lv s ⟨{p.s with cH:=true},p.m,p.x⟩)\/kV n (ed n 11) [] [p,⟨{p.s with cH:=true},p.m,p.x⟩]:=by
 have hr:=h.hd.right
 have eb:lM n={p.s with cH:=true}:=by unfold lM;rw[h.su]
 rcases kO h (b:={p.s with cH:=true}) hr.1 hr.2 rfl with⟨s,e,k⟩|⟨s,e,k⟩
 ·refine af ⟨s,?_,k⟩
  unfold ed
  rw[eb,e]
  rfl
 ·refine ab ⟨{n with store:=s},?_,rfl,fun q hq=> ?_⟩
  ·unfold ed
   rw[eb,e]
   rfl
  ·rcases k q hq with k|k
   ·exact⟨_,by simp,k⟩
   ·exact⟨_,by simp,k⟩
def uL(p:Pv)(h:He):Su:={p.s with bp:=true,cH:=false,v:=zu p.s.v h.v.bH}
def zQ(p:Pv)(h:He)(m:BitVec 32):List Pv:=[p,⟨p.s,p.m|||m,p.x⟩,⟨uL p h,p.m|||m,p.x⟩]
def Jk(p:Pv)(h:He):Su:=⟨p.s.an,bP h.v,false,false,false⟩
variable{H:He}
theorem VI(h:Lv n.store p){v:Vd}{m:BitVec 32}(h4:v.ae≠4)(h1:v.ae=1):
 (∃s,lB n H v m=({n with store:=s,ag:=2,cU:=H.cH,eQ:=H},[])/\Lv s ⟨yx n p,p.m,p.x⟩)\/kV n (lB n H v m) [] [p,⟨yx n p,p.m,p.x⟩]:=by
 obtain⟨g1,g2,g3,g4⟩:=VF h
 have e4:(v.ae==4)=false:=by simpa using h4
 have e1:(v.ae==1)=true:=by simpa using h1
 rcases kO h g2 g3 g4 with⟨s,e,k⟩|⟨s,e,k⟩
 ·refine af ⟨s,?_,k⟩
  unfold lB
  rw[e4,e1,g1,e]
  rfl
 ·refine ab ⟨{n with store:=s},?_,rfl,fun q hq=> ?_⟩
  ·unfold lB
   rw[e4,e1,g1,e]
   rfl
  ·rcases k q hq with k|k
   ·exact⟨_,by simp,k⟩
   ·exact⟨_,by simp,k⟩
theorem OD(h:Lv n.store p){v:Vd}{m:BitVec 32}(h4:v.ae≠4)(h1:v.ae≠1)(hs:v.iY=n.id)(hm:dP m p.s.an=true):
 (∃s,lB n H v m=({n with store:=s,ag:=3,cU:=H.cH,eQ:=H},[])/\Lv s ⟨p.s,p.m|||m,p.x⟩)\/kV n (lB n H v m) [] [p,⟨p.s,p.m|||m,p.x⟩]:=by
 have e4:(v.ae==4)=false:=by simpa using h4
 have e1:(v.ae==1)=false:=by simpa using h1
 have es:(v.iY==n.id)=true:=by simpa using hs
 rcases Qw h hm with⟨s,e,k⟩|⟨s,e,k⟩
 ·refine af ⟨s,?_,k⟩
  unfold lB
  rw[e4,e1,e,es]
  rfl
 ·refine ab ⟨{n with store:=s},?_,rfl,fun q hq=> ?_⟩
  ·unfold lB
   rw[e4,e1,e]
   rfl
  ·rcases k q hq with k|k
   ·exact⟨_,by simp,k⟩
   ·exact⟨_,by simp,k⟩
theorem OE(h:Lv n.store p){v:Vd}{m:BitVec 32}(h4:v.ae≠4)(h1:v.ae≠1)(hs:v.iY≠n.id)(hm:dP m p.s.an=true)(hv:qh H.v)(hc:H.v.bH≠0)(hw:n.wanted=0):
 (∃(c:Nat) (s:So),c<p.s.an.toNat/\(p.m|||m).getLsbD c=true/\lB n H v m=({n with store:=s,ag:=4,cU:=H.cH,eQ:=H,wanted:=((c+1:Nat):Int)},[o5 n (.m_ c)])/\Lv s ⟨uL p H,p.m|||m,p.x⟩)\/
 ((∀c,(p.m|||m).getLsbD c=false)/\∃s,lB n H v m=({n with store:=s,ag:=4,cU:=H.cH,eQ:=H},[o5 n .uB])/\Lv s ⟨Jk p H,p.m|||m,p.x⟩)\/
 (((∀c,(p.m|||m).getLsbD c=false)/\kV n (lB n H v m) [] (zQ p H m++[⟨Jk p H,p.m|||m,p.x⟩]))\/kV n (lB n H v m) [] (zQ p H m)):=by
 have e4:(v.ae==4)=false:=by simpa using h4
 have e1:(v.ae==1)=false:=by simpa using h1
 have es:(v.iY==n.id)=false:=by simpa using hs
 rcases Qw h hm with⟨s,e,k⟩|⟨s,e,k⟩
 ·have eb:p7 n H=uL p H:=by unfold p7 uL;rw[h.su]
  have hr:dI (uL p H)=true:=Jj h.hd.right.1 rfl (A_ h.hd)
  have hcr:jO H.v.bH:=hv.1
  have hvv:qh (uL p H).v:=⟨h.hd.right.2.1,hcr,h.hd.right.2.2.2⟩
  rcases kO (n:={n with store:=s}) k (b:=uL p H) hr hvv rfl with⟨t,e2,k2⟩|⟨t,e2,k2⟩
  ·have em:lB n H v m=fZ (qG {n with store:=t} H 4):=by
    unfold lB
    rw[e4,e1,e,es]
    simp only[aJ,fS]
    rw[eb,e2]
    rfl
   rw[em]
   rcases QD (n:=qG {n with store:=t} H 4) k2 rfl hw hv hc with⟨c,ly,hcm,e3⟩|⟨hz,⟨u',e3,k3⟩|⟨m3,e3,i3,k3⟩⟩
   ·exact af ⟨c,t,ly,hcm,by rw[e3];rfl,k2⟩
   ·exact ab (af ⟨hz,u',by rw[e3];rfl,k3⟩)
   ·refine ab (ab (af ⟨hz,m3,e3,i3,fun q hq=> ?_⟩))
    obtain⟨w,Qy,hw2⟩:=k3 q hq
    refine⟨w,?_,hw2⟩
    simp only[cM,mM,lV] at Qy
    rcases Qy with rfl|rfl
    ·simp[zQ]
    ·exact List.mem_append_right _ (nr.2 rfl)
  ·refine ab (ab (ab ⟨{n with store:=t},?_,rfl,fun q hq=> ?_⟩))
   ·unfold lB
    rw[e4,e1,e,es]
    simp only[aJ,fS]
    rw[eb,e2]
    rfl
   ·rcases k2 q hq with k|k
    ·exact⟨_,by simp[zQ],k⟩
    ·exact⟨_,by simp[zQ],k⟩
 ·refine ab (ab (ab ⟨{n with store:=s},?_,rfl,fun q hq=> ?_⟩))
  ·unfold lB
   rw[e4,e1,e]
   rfl
  ·rcases k q hq with k|k
   ·exact⟨_,by simp[zQ],k⟩
   ·exact⟨_,by simp[zQ],k⟩
structure Mh where
 A:Vl
 S:Vl
 H:Bool
 D:Bool
def Mh.e(x:Mh):Vl:=bif x.H then x.S else x.A
variable{x:Mh}
theorem e_t(h:x.H=true):x.e=x.S:=by unfold Mh.e;rw[h];rfl
theorem zR(h:x.H=false):x.e=x.A:=by unfold Mh.e;rw[h];rfl
def l9(v:Vl)(b:Nat):Int:=v.aB.getD b 0
def my(v:Vl)(b:Nat)(y:ByteArray):Prop:=IV v b y=true
def TR(v:Ve)(g:Int):Prop:=g≠0/\(v.bH=g\/v.i4=g\/v.o0=g\/v.o1=g)
def Rl(v w:Ve):Prop:=v.bH=w.bH\/(v.i4=w.bH/\w.bH≠0)
structure F1(B:Nat)(v:Pv)(x:Mh)(Ao:Vl):Prop where
 f:v.s.bp=false->∀b,b<B->my x.e b (v.x b)
 hs:x.H=true->v.s.bp=false->x.D=true\/∀b,b<B->l9 x.A b<=l9 x.S b
 lh:v.s.bp=true->v.s.dg=true\/∀b,b<B->l9 x.A b<=l9 Ao b
structure P1(B:Nat)(v q:Pv)(x y:Mh)(mt:Bool):Prop where
 ii:v.s.bp=true->q.s.bp=false
 hx:x.H=true->q.s.bp=false
 ri:v.s.bp=true->∀b,b<B->v.m.getLsbD b=true\/q.m.getLsbD b=true\/v.x b=q.x b
 rw:v.s.bp=false->q.s.bp=false->Rl v.s.v q.s.v->∀b,b<B->v.m.getLsbD b=true\/q.m.getLsbD b=true\/(v.x b=q.x b/\l9 x.e b=l9 y.e b)
 la:v.s.bp=false->q.s.bp=false->TR q.s.v v.s.v.bH->∀b,b<B->l9 x.e b<=l9 y.e b
 ex:mt=true->q.s.bp=false->¬TR q.s.v v.s.v.bH
structure G2(B:Nat)(V W:Pv->Prop)(x y:Mh)(mt mu:Bool):Prop where
 f1:∀v,V v->F1 B v x y.A
 f2:∀q,W q->F1 B q y x.A
 p1:∀v q,V v->W q->P1 B v q x y mt
 p2:∀v q,V v->W q->P1 B q v y x mu
variable{V:Pv->Prop}{y:Mh}{mu:Bool}
theorem G2.B5{W:Pv->Prop}{mt:Bool}(h:G2 B V W x y mt mu):G2 B W V y x mu mt:=
 ⟨h.f2,h.f1,fun v q k l=>h.p2 q v l k,fun v q k l=>h.p1 q v l k⟩
theorem F1.MU{v w:Pv}{Ao:Vl}(h:F1 B v x Ao)(d:oa w v):F1 B w x Ao:=by
 obtain⟨ds,dx,dm⟩:=d
 exact⟨by rw[ds,dx];exact h.f,by rw[ds];exact h.hs,by rw[ds];exact h.lh⟩
theorem P1.MU{v w r:Pv}{mt:Bool}(h:P1 B v q x y mt)(d:oa w v)(e:oa r q):P1 B w r x y mt:=by
 obtain⟨ds,dx,dm⟩:=d
 obtain⟨es,ex,em⟩:=e
 refine⟨by rw[ds,es];exact h.ii,by rw[es];exact h.hx,?_,?_,by rw[ds,es];exact h.la,by rw[ds,es];exact h.ex⟩
 ·rw[ds,dx,ex]
  intro a b hb
  rcases h.ri a b hb with k|k|k
  ·exact af (dm b k)
  ·exact ab (af (em b k))
  ·exact ab (ab k)
 ·rw[ds,dx,ex,es]
  intro a a2 a3 b hb
  rcases h.rw a a2 a3 b hb with k|k|k
  ·exact af (dm b k)
  ·exact ab (af (em b k))
  ·exact ab (ab k)
theorem G2.MU{W V' W':Pv->Prop}{mt:Bool}(h:G2 B V W x y mt mu)(hv:∀v,V' v->∃w,V w/\oa v w)(hw:∀v,W' v->∃w,W w/\oa v w):G2 B V' W' x y mt mu:=by
 refine⟨fun v k=> ?_,fun v k=> ?_,fun v q k l=> ?_,fun v q k l=> ?_⟩
 ·obtain⟨w,w1,w2⟩:=hv v k
  exact(h.f1 w w1).MU w2
 ·obtain⟨w,w1,w2⟩:=hw v k
  exact(h.f2 w w1).MU w2
 ·obtain⟨w,w1,w2⟩:=hv v k
  obtain⟨r,r1,r2⟩:=hw q l
  exact(h.p1 w r w1 r1).MU w2 r2
 ·obtain⟨w,w1,w2⟩:=hv v k
  obtain⟨r,r1,r2⟩:=hw q l
  exact(h.p2 w r w1 r1).MU r2 w2
theorem G2.sub{W V' W':Pv->Prop}{mt:Bool}(h:G2 B V W x y mt mu)(hv:∀v,V' v->V v)(hw:∀v,W' v->W v):G2 B V' W' x y mt mu:=
 h.MU (fun v k=>⟨v,hv v k,oa.refl v⟩) (fun v k=>⟨v,hw v k,oa.refl v⟩)
variable{mt':Bool}
theorem P1.mt{v:Pv}{mt:Bool}(h:P1 B v q x y mt)(k:mt'=true->mt=true):P1 B v q x y mt':=
 {h with ex:=fun a=>h.ex (k a)}
theorem G2.mt{W:Pv->Prop}{mt mu':Bool}(h:G2 B V W x y mt mu)(k:mt'=true->mt=true)(l:mu'=true->mu=true):G2 B V W x y mt' mu':=
 {h with p1:=fun v q a b=>(h.p1 v q a b).mt k,p2:=fun v q a b=>(h.p2 v q a b).mt l}
theorem G2.sh{W:Pv->Prop}{mt:Bool}(h:G2 B V W x y mt mu)(hv:∀v,V v->v.s.bp=x.H)(S:Vl)(D:Bool):G2 B V W ⟨x.A,S,x.H,D⟩ y mt mu:=by
 have e0:x.H=false->Mh.e ⟨x.A,S,x.H,D⟩=x.e:=fun k=>by rw[zR k];exact zR k
 refine⟨fun v k=> ?_,fun v k=> ?_,fun v q k l=> ?_,fun v q k l=> ?_⟩
 ·have i:=hv v k
  have a:=h.f1 v k
  exact⟨fun c=>by rw[e0 (by rw[<-i];exact c)];exact a.f c,fun c d=>by rw[i] at d;exact absurd (d.symm.trans c) (by simp),a.lh⟩
 ·exact⟨(h.f2 v k).f,(h.f2 v k).hs,(h.f2 v k).lh⟩
 ·have i:=hv v k
  have a:=h.p1 v q k l
  exact⟨a.ii,a.hx,a.ri,fun c=>by rw[e0 (by rw[<-i];exact c)];exact a.rw c,fun c=>by rw[e0 (by rw[<-i];exact c)];exact a.la c,a.ex⟩
 ·have i:=hv v k
  have a:=h.p2 v q k l
  exact⟨a.ii,a.hx,a.ri,fun c d=>by rw[e0 (by rw[<-i];exact d)];exact a.rw c d,fun c d=>by rw[e0 (by rw[<-i];exact d)];exact a.la c d,a.ex⟩
structure Gw(a b:Vl):Prop where
 m:∀c z,my a c z->my b c z
 l:∀c,l9 b c=l9 a c
theorem Gw.refl(a:Vl):Gw a a:=⟨fun _ _ h=>h,fun _=>rfl⟩
theorem G2.tE{W:Pv->Prop}{mt:Bool}(h:G2 B V W x y mt mu){a b:Vl}(ha:Gw x.A a)(hb:Gw y.A b):G2 B V W ⟨a,x.S,x.H,x.D⟩ ⟨b,y.S,y.H,y.D⟩ mt mu:=by
 have ea:(∀c z,my x.e c z->my (Mh.e ⟨a,x.S,x.H,x.D⟩) c z)/\∀c,l9 (Mh.e ⟨a,x.S,x.H,x.D⟩) c=l9 x.e c:=by
  unfold Mh.e
  cases x.H
  ·exact⟨ha.m,ha.l⟩
  ·exact⟨fun _ _ k=>k,fun _=>rfl⟩
 have eb:(∀c z,my y.e c z->my (Mh.e ⟨b,y.S,y.H,y.D⟩) c z)/\∀c,l9 (Mh.e ⟨b,y.S,y.H,y.D⟩) c=l9 y.e c:=by
  unfold Mh.e
  cases y.H
  ·exact⟨hb.m,hb.l⟩
  ·exact⟨fun _ _ k=>k,fun _=>rfl⟩
 refine⟨fun v k=> ?_,fun v k=> ?_,fun v q k l=> ?_,fun v q k l=> ?_⟩
 ·have t:=h.f1 v k
  refine⟨fun c i hi=>ea.1 _ _ (t.f c i hi),fun c d=>(t.hs c d).imp id fun z i hi=> ?_,fun c=>(t.lh c).imp id fun z i hi=> ?_⟩
  ·rw[ha.l];exact z i hi
  ·rw[ha.l,hb.l];exact z i hi
 ·have t:=h.f2 v k
  refine⟨fun c i hi=>eb.1 _ _ (t.f c i hi),fun c d=>(t.hs c d).imp id fun z i hi=> ?_,fun c=>(t.lh c).imp id fun z i hi=> ?_⟩
  ·rw[hb.l];exact z i hi
  ·rw[ha.l,hb.l];exact z i hi
 ·have t:=h.p1 v q k l
  exact⟨t.ii,t.hx,t.ri,fun c d e i hi=>by rw[ea.2,eb.2];exact t.rw c d e i hi,fun c d e i hi=>by rw[ea.2,eb.2];exact t.la c d e i hi,t.ex⟩
 ·have t:=h.p2 v q k l
  exact⟨t.ii,t.hx,t.ri,fun c d e i hi=>by rw[ea.2,eb.2];exact t.rw c d e i hi,fun c d e i hi=>by rw[ea.2,eb.2];exact t.la c d e i hi,t.ex⟩
variable{p':Pv}
theorem G2.add{W:Pv->Prop}{mt:Bool}(h:G2 B (· =p) W x y mt mu)(f:F1 B p' x y.A)(g:∀q,W q->P1 B p' q x y mt/\P1 B q p' y x mu):G2 B (fun v=>v=p\/v=p') W x y mt mu:=by
 refine⟨fun v k=> ?_,h.f2,fun v q k l=> ?_,fun v q k l=> ?_⟩
 ·rcases k with rfl|rfl
  ·exact h.f1 _ rfl
  ·exact f
 ·rcases k with rfl|rfl
  ·exact h.p1 _ _ rfl l
  ·exact(g q l).1
 ·rcases k with rfl|rfl
  ·exact h.p2 _ _ rfl l
  ·exact(g q l).2
theorem G2.one{W:Pv->Prop}{mt:Bool}(f:F1 B p x y.A)(f2:∀q,W q->F1 B q y x.A)(g:∀q,W q->P1 B p q x y mt/\P1 B q p y x mu):G2 B (· =p) W x y mt mu:=
 ⟨fun v k=>k▸f,f2,fun v q k l=>k▸(g q l).1,fun v q k l=>k▸(g q l).2⟩
variable{L:List Pv}
theorem G2.VJ{W:Pv->Prop}{mt:Bool}(f2:∀q,W q->F1 B q y x.A)(h:∀v,v∈L->F1 B v x y.A/\∀q,W q->P1 B v q x y mt/\P1 B q v y x mu):G2 B (· ∈L) W x y mt mu:=
 ⟨fun v k=>(h v k).1,f2,fun v q k l=>((h v k).2 q l).1,fun v q k l=>((h v k).2 q l).2⟩
abbrev One(p:Pv):Pv->Prop:=fun v=>v=p
theorem rI(x:Nat->ByteArray)(i:Nat)(v:ByteArray)(c:Nat):iG x i v c=if c=i then v else x c:=rfl
theorem qM(v:Ve):(bP v).bH=v.bH:=by
 unfold bP
 cases v.i4==0<;>rfl
theorem acI{w:Ve}(h:Rl (bP v) w):Rl v w:=by
 unfold bP at h
 cases e:v.i4==0 with
 |true=>rw[e] at h;exact h
 |false=>
  rw[e] at h
  rcases h with h|⟨h,h2⟩
  ·exact af h
  ·exact absurd h.symm h2
theorem Zl{g:Int}(h:TR (bP v) g):TR v g:=by
 unfold bP at h
 cases e:v.i4==0 with
 |true=>rw[e] at h;exact h
 |false=>
  rw[e] at h
  obtain⟨h0,h⟩:=h
  refine⟨h0,?_⟩
  rcases h with h|h|h|h
  ·exact af h
  ·exact absurd h.symm h0
  ·exact ab (af h)
  ·exact ab (ab (af h))
def zS(g:Int)(v:Ve):Prop:=g≠0/\v.bH≠g/\v.i4≠g/\v.o0≠g/\v.o1≠g
theorem QE{g:Int}(h:zS g v):¬TR v g:=by
 unfold zS TR at*
 grind
theorem Jl{g:Int}(h:zS g v):zS g (bP v):=by
 unfold bP
 cases v.i4==0
 ·obtain⟨h0,h1,h2,h3,h4⟩:=h
  exact⟨h0,h1,fun e=>h0 e.symm,h2,h3⟩
 ·exact h
theorem Zm{w:Ve}{g:Int}(h:Rl (fK v g) w)(hw:zS g w):Rl v w:=by
 unfold fK at h
 unfold Rl zS at*
 cases e:v.i4==0<;>rw[e] at h<;>simp only[bA,aJ] at h<;>grind
theorem VK{w:Ve}{g:Int}(h:Rl w (fK v g))(hw:zS g w):False:=by
 unfold Rl zS at*
 have:(fK v g).bH=g:=by unfold fK;cases v.i4==0<;>rfl
 rw[this] at h
 grind
theorem Hy(v:Ve)(g:Int):(fK v g).bH=g:=by unfold fK;cases v.i4==0<;>rfl
theorem L6{w:Ve}{g:Int}(h:TR (fK v g) w.bH)(hw:zS g w):TR v w.bH:=by
 unfold fK at h
 unfold TR zS at*
 cases e:v.i4==0<;>rw[e] at h<;>simp only[bA,aJ] at h<;>grind
structure Mkd(i:Nat)(p p':Pv):Prop where
 s:p'.s=p.s
 m:∀c,p.m.getLsbD c=true->p'.m.getLsbD c=true
 mi:p'.m.getLsbD i=true
 x:∀c,c≠i->p'.x c=p.x c
theorem P1.mkd{i:Nat}{mt:Bool}(h:P1 B p q x y mt)(k:Mkd i p p'):P1 B p' q x y mt:=by
 obtain⟨ks,km,ki,kx⟩:=k
 obtain⟨ii,hx,ri,rw,la,ex⟩:=h
 constructor<;>grind
theorem P1.ak7{i:Nat}{mt:Bool}(h:P1 B q p x y mt)(k:Mkd i p p'):P1 B q p' x y mt:=by
 obtain⟨ks,km,ki,kx⟩:=k
 obtain⟨ii,hx,ri,rw,la,ex⟩:=h
 constructor<;>grind
theorem Jm(p:Pv){i:Nat}(hi:i<32)(d:ByteArray):Mkd i p ⟨p.s,lA p.m [(i:Int)],iG p.x i d⟩:=by
 refine⟨rfl,fun c hc=> ?_,?_,fun c hc=> ?_⟩
 ·show(lA p.m [(i:Int)]).getLsbD c=true
  rw[CM _ hi,hc];rfl
 ·show(lA p.m [(i:Int)]).getLsbD i=true
  rw[CM _ hi];simp
 ·show iG p.x i d c=p.x c
  rw[rI,aR hc]
theorem G2.lay{i:Nat}{W:Pv->Prop}{mt:Bool}{d:ByteArray}(h:G2 B (One p) W x y mt mu)(hi:i<32)(hd:p.s.bp=false->my x.e i d):G2 B (· ∈vS p i d) W x y mt mu:=by
 have k:=Jm p hi d
 have fp:=h.f1 p rfl
 have f3:F1 B ⟨p.s,lA p.m [(i:Int)],iG p.x i d⟩ x y.A:=by
  refine⟨fun c b hb=> ?_,fp.hs,fp.lh⟩
  show my x.e b (iG p.x i d b)
  rw[rI]
  split
  ·next e=>rw[e];exact hd c
  ·exact fp.f c b hb
 have h2:G2 B (· ∈[p,⟨p.s,lA p.m [(i:Int)],iG p.x i d⟩]) W x y mt mu:=by
  refine G2.VJ h.f2 fun v hv=> ?_
  simp only[cM,mM,lV] at hv
  rcases hv with rfl|rfl
  ·exact⟨fp,fun q hq=>⟨h.p1 _ q rfl hq,h.p2 _ q rfl hq⟩⟩
  ·exact⟨f3,fun q hq=>⟨(h.p1 _ q rfl hq).mkd k,(h.p2 _ q rfl hq).ak7 k⟩⟩
 refine h2.MU (fun v hv=> ?_) (fun v hv=>⟨v,hv,oa.refl v⟩)
 simp only[vS,cM,mM,lV] at hv
 rcases hv with rfl|rfl|rfl
 ·exact⟨_,gQ ..,oa.refl _⟩
 ·refine⟨p,gQ ..,rfl,rfl,fun c hc=> ?_⟩
  exact k.m c hc
 ·exact⟨_,by simp,oa.refl _⟩
theorem P1.L3{mt:Bool}{g:Int}(h:P1 B p q x y mt)(hf:q.s.bp=false->zS g q.s.v):P1 B (nU p g) q x y mt':=by
 obtain⟨ii,hx,ri,rw,la,ex⟩:=h
 refine⟨ii,hx,ri,fun a b c=>rw a b (Zm c (hf b)),fun a b c=> ?_,fun a b c=> ?_⟩
 ·have:(nU p g).s.v.bH=g:=Hy _ _
  rw[this] at c
  exact absurd c (QE (hf b))
 ·have:(nU p g).s.v.bH=g:=Hy _ _
  rw[this] at c
  exact absurd c (QE (hf b))
theorem P1.abj{mt:Bool}{g:Int}(h:P1 B q p x y mt)(hf:q.s.bp=false->zS g q.s.v)(hm:mt=true->q.s.bp=false):P1 B q (nU p g) x y mt:=by
 obtain⟨ii,hx,ri,rw,la,ex⟩:=h
 refine⟨ii,hx,ri,fun a b c=>absurd c (fun k=>VK k (hf a)),fun a b c=>la a b (L6 c (hf a)),fun a b c=>ex a b (L6 c (hf (hm a)))⟩
theorem G2.L3{W:Pv->Prop}{mt:Bool}{g:Int}(h:G2 B (One p) W x y mt mu)(hf:∀q,W q->q.s.bp=false->zS g q.s.v)(hm:mu=true->∀q,W q->q.s.bp=false):G2 B (fun v=>v=p\/v=nU p g) W x y mt mu:=
 h.add ⟨(h.f1 p rfl).f,(h.f1 p rfl).hs,(h.f1 p rfl).lh⟩ fun q hq=>⟨(h.p1 p q rfl hq).L3 (hf q hq),(h.p2 p q rfl hq).abj (hf q hq) fun k=>hm k q hq⟩
theorem G2.bZ{W:Pv->Prop}{mt:Bool}{g:Int}(h:G2 B (One p) W x y mt mu)(hf:∀q,W q->q.s.bp=false->zS g q.s.v)(hm:mu=true->∀q,W q->q.s.bp=false):G2 B (One (nU p g)) W x y true mu:=
 G2.one ⟨(h.f1 p rfl).f,(h.f1 p rfl).hs,(h.f1 p rfl).lh⟩ h.f2 fun q hq=>⟨(h.p1 p q rfl hq).L3 (hf q hq),(h.p2 p q rfl hq).abj (hf q hq) fun k=>hm k q hq⟩
structure SD(s s':Su):Prop where
 i:s'.bp=s.bp
 v:s'.v=s.v\/s'.v=bP s.v
 d:s.dg=true->s'.dg=true
variable{s':Su}
theorem SD.bH{s:Su}(h:SD s s'):s'.v.bH=s.v.bH:=by
 rcases h.v with e|e
 ·rw[e]
 ·rw[e,qM]
theorem F1.su{a:Vl}(h:F1 B p x a)(k:SD p.s s'):F1 B ⟨s',p.m,p.x⟩ x a:=
 ⟨fun c=>h.f (k.i▸c),fun c d=>h.hs c (k.i▸d),fun c=>(h.lh (k.i▸c)).imp k.d id⟩
theorem P1.su{mt:Bool}(h:P1 B p q x y mt)(k:SD p.s s'):P1 B ⟨s',p.m,p.x⟩ q x y mt:=by
 have hc:=k.bH
 refine⟨fun c=>h.ii (k.i▸c),h.hx,fun c=>h.ri (k.i▸c),fun c d e=>h.rw (k.i▸c) d ?_,fun c d e=>h.la (k.i▸c) d (by rw[<-hc];exact e),fun c d e=>h.ex c d (by rw[<-hc];exact e)⟩
 rcases k.v with e1|e1
 ·rw[<-e1];exact e
 ·exact acI (by rw[<-e1];exact e)
theorem P1.su2{mt:Bool}(h:P1 B q p x y mt)(k:SD p.s s'):P1 B q ⟨s',p.m,p.x⟩ x y mt:=by
 have hc:=k.bH
 have hp:∀g,TR s'.v g->TR p.s.v g:=fun g e=>by
  rcases k.v with e1|e1
  ·rw[<-e1];exact e
  ·exact Zl (by rw[<-e1];exact e)
 refine⟨fun c=>k.i.trans (h.ii c),fun c=>k.i.trans (h.hx c),h.ri,fun c d e=>h.rw c (k.i▸d) ?_,fun c d e=>h.la c (k.i▸d) (hp _ e),fun c d e=>h.ex c (k.i▸d) (hp _ e)⟩
 unfold Rl at*
 rw[<-hc]
 exact e
theorem G2.su{W:Pv->Prop}{mt:Bool}(h:G2 B (One p) W x y mt mu)(k:SD p.s s'):G2 B (fun v=>v=p\/v=⟨s',p.m,p.x⟩) W x y mt mu:=
 h.add ((h.f1 p rfl).su k) fun q hq=>⟨(h.p1 p q rfl hq).su k,(h.p2 p q rfl hq).su2 k⟩
structure Akd(i:Nat)(d:ByteArray)(k:Int)(a b:Vl):Prop where
 m:∀c z,my b c z↔(c≠i/\my a c z)\/(c=i/\z=d)
 l:∀c,l9 b c=if c=i then k else l9 a c
 k:∀c,l9 a c<=k
theorem G2.agP{i:Nat}{W:Pv->Prop}{d:ByteArray}{a:Vl}(h:G2 B (One p) W x y true mu)(hp:p.s.bp=false)(hH:x.H=false)(hm:p.m.getLsbD i=true)(hd:p.x i=d)(ha:Akd i d k x.A a):G2 B (One p) W ⟨a,x.S,x.H,x.D⟩ y true mu:=by
 have e1:Mh.e ⟨a,x.S,x.H,x.D⟩=a:=zR hH
 have e2:x.e=x.A:=zR hH
 have fp:=h.f1 p rfl
 have up:∀c,l9 x.A c<=l9 a c:=fun c=>by
  rw[ha.l]
  split
  ·exact ha.k c
  ·exact nj _
 refine G2.one ⟨fun c b hb=> ?_,fun c=>absurd (hH.symm.trans c) (by simp),fun c=>absurd (hp.symm.trans c) (by simp)⟩ (fun q hq=> ?_) fun q hq=>⟨?_,?_⟩
 ·rw[e1,ha.m]
  by_cases e:b=i
  ·exact ab ⟨e,by rw[e];exact hd⟩
  ·exact af ⟨e,by have:=fp.f c b hb;rw[e2] at this;exact this⟩
 ·have t:=h.f2 q hq
  exact⟨t.f,t.hs,fun c=>(t.lh c).imp id fun z b hb=>Df (z b hb) (up b)⟩
 ·have t:=h.p1 p q rfl hq
  refine⟨t.ii,t.hx,t.ri,fun c d2 r b hb=> ?_,fun c d2 r=>absurd r (t.ex rfl d2),t.ex⟩
  by_cases e:b=i
  ·left;rw[e];exact hm
  ·have:=t.rw c d2 r b hb
   rw[e1,ha.l,aR e,<-e2]
   exact this
 ·have t:=h.p2 p q rfl hq
  refine⟨t.ii,t.hx,t.ri,fun c d2 r b hb=> ?_,fun c d2 r b hb=> ?_,t.ex⟩
  ·by_cases e:b=i
   ·right;left;rw[e];exact hm
   ·have:=t.rw c d2 r b hb
    rw[e1,ha.l,aR e,<-e2]
    exact this
  ·have:=t.la c d2 r b hb
   rw[e1]
   rw[e2] at this
   exact Df this (up b)
theorem G2.ak8{i:Nat}{mt:Bool}{d:ByteArray}{a b:Vl}(h:G2 B (One p) (One q) x y mt mu)(hp:p.s.bp=false)(hH:x.H=false)(hHo:y.H=q.s.bp)(hi:i<32)(hd:p.x i=d)(KV:q.x i=d)(ha:Akd i d k x.A a)(hb:Akd i d k y.A b):
 G2 B (One ⟨p.s,ik p.m [(i:Int)],p.x⟩) (One q) ⟨a,x.S,x.H,x.D⟩ ⟨b,y.S,y.H,y.D⟩ mt mu:=by
 have e1:Mh.e ⟨a,x.S,x.H,x.D⟩=a:=zR hH
 have e2:x.e=x.A:=zR hH
 have hc:=ul p.m hi
 obtain⟨f1f,f1s,f1l⟩:=h.f1 p rfl
 obtain⟨f2f,f2s,f2l⟩:=h.f2 q rfl
 obtain⟨pi1,ph1,Aq,pw1,pl1,pe1⟩:=h.p1 p q rfl rfl
 obtain⟨pi2,ph2,pr2,pw2,pl2,pe2⟩:=h.p2 p q rfl rfl
 obtain⟨am,al,ak⟩:=ha
 obtain⟨bm,bl,bk⟩:=hb
 have e3:q.s.bp=false->Mh.e ⟨b,y.S,y.H,y.D⟩=b/\y.e=y.A:=fun c=>⟨zR (hHo.trans c),zR (hHo.trans c)⟩
 rw[e2] at*
 refine⟨?_,?_,?_,?_⟩
 ·rintro v rfl
  constructor<;>simp only[e1]<;>grind
 ·rintro v rfl
  constructor
  ·intro c
   rw[(e3 c).1]
   rw[(e3 c).2] at f2f
   grind
  ·grind
  ·grind
 ·rintro v r rfl rfl
  constructor
  ·exact pi1
  ·exact ph1
  ·grind
  ·intro c1 c2 c3
   rw[e1,(e3 c2).1]
   rw[(e3 c2).2] at pw1
   grind
  ·intro c1 c2 c3
   rw[e1,(e3 c2).1]
   rw[(e3 c2).2] at pl1
   grind
  ·exact pe1
 ·rintro v r rfl rfl
  constructor
  ·exact pi2
  ·exact ph2
  ·intro c1 b2 Is
   have:=pr2 c1 b2 Is
   simp only[hc]
   grind
  ·intro c1 c2 c3
   rw[e1,(e3 c1).1]
   rw[(e3 c1).2] at pw2
   grind
  ·intro c1 c2 c3
   rw[e1,(e3 c1).1]
   rw[(e3 c1).2] at pl2
   grind
  ·exact pe2
theorem G2.clr{i:Nat}{mt:Bool}(h:G2 B (One p) (One q) x y mt mu)(hi:i<32)(he:p.x i=q.x i\/q.m.getLsbD i=true)(hl:p.s.bp=false->q.s.bp=false->q.m.getLsbD i=true\/l9 x.e i=l9 y.e i):
 G2 B (One ⟨p.s,ik p.m [(i:Int)],p.x⟩) (One q) x y mt mu:=by
 have hc:=ul p.m hi
 obtain⟨f1f,f1s,f1l⟩:=h.f1 p rfl
 obtain⟨pi1,ph1,Aq,pw1,pl1,pe1⟩:=h.p1 p q rfl rfl
 obtain⟨pi2,ph2,pr2,pw2,pl2,pe2⟩:=h.p2 p q rfl rfl
 refine G2.one ⟨f1f,f1s,f1l⟩ h.f2 ?_
 rintro r rfl
 refine⟨⟨pi1,ph1,?_,?_,pl1,pe1⟩,⟨pi2,ph2,?_,?_,pl2,pe2⟩⟩
 ·simp only[hc];grind
 ·simp only[hc];grind
 ·simp only[hc];grind
 ·simp only[hc];grind
theorem G2.zN{i:Nat}{mt:Bool}{d:ByteArray}(h:G2 B (One p) (One q) x y mt mu)(hi:i<32)(hp:p.s.bp=true)(he:d=q.x i\/q.m.getLsbD i=true):
 G2 B (· ∈[p,⟨p.s,p.m,iG p.x i d⟩,⟨p.s,ik p.m [(i:Int)],iG p.x i d⟩]) (One q) x y mt mu:=by
 have hc:=ul p.m hi
 obtain⟨f1f,f1s,f1l⟩:=h.f1 p rfl
 obtain⟨pi1,ph1,Aq,pw1,pl1,pe1⟩:=h.p1 p q rfl rfl
 obtain⟨pi2,ph2,pr2,pw2,pl2,pe2⟩:=h.p2 p q rfl rfl
 have hq:q.s.bp=false:=pi1 hp
 refine G2.VJ h.f2 fun v hv=> ?_
 simp only[cM,mM,lV] at hv
 rcases hv with rfl|rfl|rfl
 ·exact⟨h.f1 _ rfl,fun r hr=>⟨h.p1 _ r rfl hr,h.p2 _ r rfl hr⟩⟩
 ·refine⟨⟨fun c=>absurd (hp.symm.trans c) (by simp),f1s,f1l⟩,?_⟩
  rintro r rfl
  refine⟨⟨pi1,ph1,?_,fun c=>absurd (hp.symm.trans c) (by simp),pl1,pe1⟩,⟨pi2,ph2,fun c=>absurd (hq.symm.trans c) (by simp),fun _ c=>absurd (hp.symm.trans c) (by simp),pl2,pe2⟩⟩
  simp only[rI];grind
 ·refine⟨⟨fun c=>absurd (hp.symm.trans c) (by simp),f1s,f1l⟩,?_⟩
  rintro r rfl
  refine⟨⟨pi1,ph1,?_,fun c=>absurd (hp.symm.trans c) (by simp),pl1,pe1⟩,⟨pi2,ph2,fun c=>absurd (hq.symm.trans c) (by simp),fun _ c=>absurd (hp.symm.trans c) (by simp),pl2,pe2⟩⟩
  simp only[rI,hc];grind
theorem G2.tgt{m:BitVec 32}(h:G2 B (One p) (One q) x y false mu)(hq:q.s.bp=false)(hy:y.H=false)(hmu:mu=false)(hl:p.s.dg=true\/∀b,b<B->l9 x.A b<=l9 y.A b)(hr:∀b,b<B->(p.m|||m).getLsbD b=true\/q.m.getLsbD b=true\/p.x b=q.x b):G2 B (· ∈zQ p H m) (One q) x y false mu:=by
 have f1:=h.f1 p rfl
 have g1:=h.p1 p q rfl rfl
 have g2:=h.p2 p q rfl rfl
 have d1:oa ⟨p.s,p.m|||m,p.x⟩ p:=⟨rfl,rfl,fun c hc=>by show(p.m|||m).getLsbD c=true;simp[hc]⟩
 refine G2.VJ h.f2 fun v hv=> ?_
 simp only[zQ,cM,mM,lV] at hv
 rcases hv with rfl|rfl|rfl
 ·exact⟨f1,fun r hr=>⟨h.p1 _ r rfl hr,h.p2 _ r rfl hr⟩⟩
 ·exact⟨f1.MU d1,fun r hr=>⟨(h.p1 _ r rfl hr).MU d1 (oa.refl _),(h.p2 _ r rfl hr).MU (oa.refl _) d1⟩⟩
 ·refine⟨⟨fun c=>absurd c (by simp[uL]),fun _ c=>absurd c (by simp[uL]),fun _=>hl⟩,?_⟩
  rintro r rfl
  exact⟨⟨fun _=>hq,fun _=>hq,fun _=>hr,fun c=>absurd c (by simp[uL]),fun c=>absurd c (by simp[uL]),fun c=>absurd c (by simp)⟩,
   ⟨fun c=>absurd (hq.symm.trans c) (by simp),fun c=>absurd (hy.symm.trans c) (by simp),fun c=>absurd (hq.symm.trans c) (by simp),fun _ c=>absurd c (by simp[uL]),fun _ c=>absurd c (by simp[uL]),fun c=>absurd (hmu.symm.trans c) (by simp)⟩⟩
theorem G2.ald{S:Vl}{D:Bool}(h:G2 B (One p) (One q) x y false mu)(hp:p.s.bp=true)(hy:y.H=false):G2 B (One p) (One q) ⟨x.A,S,true,D⟩ y false mu:=by
 have f1:=h.f1 p rfl
 have f2:=h.f2 q rfl
 have g1:=h.p1 p q rfl rfl
 have g2:=h.p2 p q rfl rfl
 have nq:q.s.bp=false:=g1.ii hp
 refine G2.one ⟨fun c=>absurd (hp.symm.trans c) (by simp),fun _ c=>absurd (hp.symm.trans c) (by simp),f1.lh⟩ ?_ ?_
 ·rintro r rfl
  exact⟨f2.f,f2.hs,f2.lh⟩
 ·rintro r rfl
  exact⟨⟨g1.ii,fun _=>nq,g1.ri,fun c=>absurd (hp.symm.trans c) (by simp),fun c=>absurd (hp.symm.trans c) (by simp),fun c=>absurd c (by simp)⟩,
   ⟨g2.ii,g2.hx,g2.ri,fun _ c=>absurd (hp.symm.trans c) (by simp),fun _ c=>absurd (hp.symm.trans c) (by simp),g2.ex⟩⟩
structure OF(B:Nat)(v q:Pv)(V:Vl)(y:Mh):Prop where
 i:v.s.bp=false
 ve:v.s.v=bP q.s.v
 d:∀b,b<B->q.m.getLsbD b=true\/v.x b=q.x b
 m:∀b,b<B->my V b (v.x b)
 l:∀b,b<B->l9 V b=l9 y.A b
theorem OF.p1{v:Pv}(h:OF B v q x.e y)(hq:q.s.bp=false)(hy:y.H=false):P1 B v q x y false:=by
 have e2:y.e=y.A:=zR hy
 refine⟨fun c=>absurd (h.i.symm.trans c) (by simp),fun _=>hq,fun c=>absurd (h.i.symm.trans c) (by simp),fun _ _ _ b hb=> ?_,fun _ _ _ b hb=> ?_,fun c=>absurd c (by simp)⟩
 ·right
  rw[e2]
  exact(h.d b hb).imp id fun k=>⟨k,h.l b hb⟩
 ·rw[e2];exact Int.le_of_eq (h.l b hb)
theorem OF.p2{v:Pv}(h:OF B v q x.e y)(hq:q.s.bp=false)(hy:y.H=false):P1 B q v y x false:=by
 have e2:y.e=y.A:=zR hy
 refine⟨fun _=>h.i,fun _=>h.i,fun c=>absurd (hq.symm.trans c) (by simp),fun _ _ _ b hb=> ?_,fun _ _ _ b hb=> ?_,fun c=>absurd c (by simp)⟩
 ·rcases h.d b hb with k|k
  ·exact af k
  ·right;right
   rw[e2]
   exact⟨k.symm,(h.l b hb).symm⟩
 ·rw[e2];exact Int.le_of_eq (h.l b hb).symm
theorem G2.uB{v:Pv}(h:G2 B (· ∈L) (One q) x y false false)(hf:OF B v q x.e y)(hq:q.s.bp=false)(hy:y.H=false)(hs:x.H=true->x.S=y.A/\(x.D=true\/∀b,b<B->l9 x.A b<=l9 y.A b)):G2 B (· ∈L++[v]) (One q) x y false false:=by
 refine G2.VJ h.f2 fun w hw=> ?_
 rcases df.1 hw with hw|hw
 ·exact⟨h.f1 w hw,fun r hr=>⟨h.p1 w r hw hr,h.p2 w r hw hr⟩⟩
 ·simp only[nr] at hw
  subst hw
  refine⟨⟨fun _=>hf.m,fun c _=> ?_,fun c=>absurd (hf.i.symm.trans c) (by simp)⟩,?_⟩
  ·rw[(hs c).1];exact(hs c).2
  ·rintro r rfl
   exact⟨hf.p1 hq hy,hf.p2 hq hy⟩
def p_(x:Mh)(u i d:Bool):Mh:=bif u then(bif i then⟨x.A,x.S,true,d⟩ else bif x.H then⟨x.S,x.S,false,d⟩ else⟨x.A,x.S,x.H,d⟩) else x
theorem Jn(x:Mh)(d:Bool):p_ x true true d=⟨x.A,x.S,true,d⟩:=rfl
theorem zT(x:Mh)(d:Bool):p_ x true false d=⟨x.e,x.S,false,d⟩:=by
 unfold p_ Mh.e
 cases x.H<;>rfl
theorem ta{d:Bool}(hi:x.H=i)(hd:x.D=d)(u:Bool):p_ x u i d=x:=by
 subst hi hd
 unfold p_
 cases u
 ·rfl
 ·cases h:x.H
  ·obtain⟨a,s,hh,dd⟩:=x;simp at h;subst h;rfl
  ·obtain⟨a,s,hh,dd⟩:=x;simp at h;subst h;rfl
theorem G2.att{W:Pv->Prop}{mt:Bool}{d:Bool}(h:G2 B (One p) W x y mt mu)(hmt:mt=true->p.s.bp=false):G2 B (One p) W (p_ x true p.s.bp d) y mt mu:=by
 have f1:=h.f1 p rfl
 cases hp:p.s.bp with
 |true=>
  rw[Jn]
  refine G2.one ⟨fun c=>absurd (hp.symm.trans c) (by simp),fun _ c=>absurd (hp.symm.trans c) (by simp),f1.lh⟩ (fun q hq=> ?_) fun q hq=>⟨?_,?_⟩
  ·have f2:=h.f2 q hq
   exact⟨f2.f,f2.hs,f2.lh⟩
  ·have g1:=h.p1 p q rfl hq
   exact⟨g1.ii,fun _=>g1.ii hp,g1.ri,fun c=>absurd (hp.symm.trans c) (by simp),fun c=>absurd (hp.symm.trans c) (by simp),fun c=>absurd ((hmt c).symm.trans hp) (by simp)⟩
  ·have g2:=h.p2 p q rfl hq
   exact⟨g2.ii,g2.hx,g2.ri,fun _ c=>absurd (hp.symm.trans c) (by simp),fun _ c=>absurd (hp.symm.trans c) (by simp),fun c e=>absurd (hp.symm.trans e) (by simp)⟩
 |false=>
  rw[zT]
  have e1:Mh.e ⟨x.e,x.S,false,d⟩=x.e:=rfl
  refine G2.one ⟨fun c=>by rw[e1];exact f1.f c,fun c=>absurd c (by simp),fun c=>absurd (hp.symm.trans c) (by simp)⟩ (fun q hq=> ?_) fun q hq=>⟨?_,?_⟩
  ·have f2:=h.f2 q hq
   have g1:=h.p1 p q rfl hq
   refine⟨f2.f,f2.hs,fun c=> ?_⟩
   cases e:x.H with
   |true=>exact absurd ((g1.hx e).symm.trans c) (by simp)
   |false=>show q.s.dg=true\/∀b,b<B->l9 y.A b<=l9 x.e b;rw[zR e];exact f2.lh c
  ·have g1:=h.p1 p q rfl hq
   exact⟨g1.ii,fun c=>absurd c (by simp),g1.ri,fun c a b=>by rw[e1];exact g1.rw c a b,fun c a b=>by rw[e1];exact g1.la c a b,g1.ex⟩
  ·have g2:=h.p2 p q rfl hq
   exact⟨g2.ii,g2.hx,g2.ri,fun c a b=>by rw[e1];exact g2.rw c a b,fun c a b=>by rw[e1];exact g2.la c a b,g2.ex⟩
theorem SE(v:Ve)(g:Int):(bD v g= -1)\/(g≠0/\((bD v g=0/\v.bH=g)\/(bD v g=1/\v.i4=g)\/(bD v g=2/\v.o0=g)\/(bD v g=3/\v.o1=g))):=by
 unfold bD
 cases h0:g==0 with
 |true=>exact af rfl
 |false=>
  have g0:g≠0:=by simpa using h0
  cases h1:v.bH==g with
  |true=>exact ab ⟨g0,af ⟨rfl,eq_of_beq h1⟩⟩
  |false=>
   cases h2:v.i4==g with
   |true=>exact ab ⟨g0,ab (af ⟨rfl,eq_of_beq h2⟩)⟩
   |false=>
    cases h3:v.o0==g with
    |true=>exact ab ⟨g0,ab (ab (af ⟨rfl,eq_of_beq h3⟩))⟩
    |false=>
     cases h4:v.o1==g with
     |true=>exact ab ⟨g0,ab (ab (ab ⟨rfl,eq_of_beq h4⟩))⟩
     |false=>exact af rfl
structure Ba(s t:He)(k:Int):Prop where
 bl:s.an=t.an
 si:s.bp=false
 sd:s.dg=false
 tp:t.cH=false
 kk:k=2\/k=3
 rel:t.bp=true\/t.dg=true\/TR s.v t.v.bH
 two:k=2->t.bp=true\/(t.dg=false/\Rl s.v t.v)
theorem L7(s t:He)(ht:t.v.bH≠0):jM s t=4\/(s.dg=false/\(jM s t=2\/jM s t=3)):=by
 unfold jM
 cases h1:s.dg with
 |true=>exact af rfl
 |false=>
  cases decide (bD s.v t.v.i4>=0)
  ·cases t.dg
   ·cases decide (bD s.v t.v.bH<0)
    ·cases decide (bD s.v t.v.bH<=1)
     ·exact ab ⟨rfl,ab rfl⟩
     ·exact ab ⟨rfl,af rfl⟩
    ·exact af rfl
   ·exact ab ⟨rfl,ab rfl⟩
  ·exact ab ⟨rfl,af rfl⟩
theorem L8(k s:Int)(t:He):(bc k s t).ae=4\/(t.cH=false/\k≠4/\(bc k s t).ae=k/\(bc k s t).iY=s):=by
 unfold bc
 cases h1:t.cH with
 |true=>exact af rfl
 |false=>
  cases h2:k==4 with
  |true=>exact af rfl
  |false=>exact ab ⟨rfl,by simpa using h2,rfl,rfl⟩
def acK(x y:He)(v:Vd):Prop:=
 v.ae=4\/(v.ae=1/\x.an=y.an/\x.bp=false/\y.bp=false/\x.v.bH=y.v.bH/\mi x.cr=0/\mi y.cr=0/\(x.cH=true->y.cH=true->False))\/(v.iY=0/\Ba x y v.ae)\/(v.iY=1/\Ba y x v.ae)
theorem agS(x y:He)(hx:x.v.bH≠0)(hy:y.v.bH≠0):acK x y (aI x y):=by
 unfold aI
 cases h0:(!(x.an==y.an)||x.cH&&y.cH||x.bp&&y.bp||x.dg&&y.dg) with
 |true=>exact af rfl
 |false=>
  simp only[eh,ni] at h0
  obtain⟨⟨⟨b0,b1⟩,b2⟩,b3⟩:=h0
  have hb:x.an=y.an:=eq_of_beq b0
  have o0:∀k:Int,k=4\/(y.cH=false->k≠4->Ba x y k)->acK x y (bc k 0 y):=fun k hk=>by
   rcases L8 k 0 y with h|⟨h1,h2,h3,h4⟩
   ·exact af h
   ·rcases hk with hk|hk
    ·exact absurd hk h2
    ·exact ab (ab (af ⟨h4,by rw[h3];exact hk h1 h2⟩))
  have o1:∀k:Int,k=4\/(x.cH=false->k≠4->Ba y x k)->acK x y (bc k 1 x):=fun k hk=>by
   rcases L8 k 1 x with h|⟨h1,h2,h3,h4⟩
   ·exact af h
   ·rcases hk with hk|hk
    ·exact absurd hk h2
    ·exact ab (ab (ab ⟨h4,by rw[h3];exact hk h1 h2⟩))
  simp only[aJ]
  cases xi:x.bp with
  |true=>
   have yi:y.bp=false:=by rw[xi] at b2;simpa using b2
   simp only[bA]
   apply o1
   rcases L7 y x hx with h|⟨h1,h2⟩
   ·exact af h
   ·exact ab fun hp _=>⟨hb.symm,yi,h1,hp,h2,af xi,fun _=>af xi⟩
  |false=>
   simp only[aJ]
   cases yi:y.bp with
   |true=>
    simp only[bA]
    apply o0
    rcases L7 x y hy with h|⟨h1,h2⟩
    ·exact af h
    ·exact ab fun hp _=>⟨hb,xi,h1,hp,h2,af yi,fun _=>af yi⟩
   |false=>
    simp only[aJ]
    cases xd:x.dg with
    |true=>
     have yd:y.dg=false:=by rw[xd] at b3;simpa using b3
     simp only[bA]
     exact o1 3 (ab fun hp _=>⟨hb.symm,yi,yd,hp,ab rfl,ab (af xd),fun h=>absurd h (by decide)⟩)
    |false=>
     simp only[aJ]
     cases yd:y.dg with
     |true=>
      simp only[bA]
      exact o0 3 (ab fun hp _=>⟨hb,xi,xd,hp,ab rfl,ab (af yd),fun h=>absurd h (by decide)⟩)
     |false=>
      simp only[aJ]
      cases hc:x.v.bH==y.v.bH with
      |true=>
       have hc:=eq_of_beq hc
       simp only[bA]
       cases hm:(mi x.cr==0&&mi y.cr==0) with
       |true=>
        simp only[cY,jF] at hm
        refine ab (af ⟨rfl,hb,xi,yi,hc,hm.1,hm.2,fun h1 h2=> ?_⟩)
        rw[h1,h2] at b1
        simp at b1
       |false=>
        simp only[aJ]
        cases(y.cH||!x.cH&&y.sN&&!x.sN)
        ·exact o0 2 (ab fun hp _=>⟨hb,xi,xd,hp,af rfl,ab (ab ⟨hy,af hc⟩),fun _=>ab ⟨yd,af hc⟩⟩)
        ·exact o1 2 (ab fun hp _=>⟨hb.symm,yi,yd,hp,af rfl,ab (ab ⟨hx,af hc.symm⟩),fun _=>ab ⟨xd,af hc.symm⟩⟩)
      |false=>
       simp only[aJ]
       have kk:∀(s t:He),s.an=t.an->s.bp=false->s.dg=false->t.bp=false->t.dg=false->t.v.bH≠0->bD s.v t.v.bH>0->t.cH=false->gP (bD s.v t.v.bH)≠4->Ba s t (gP (bD s.v t.v.bH)):=by
        intro s t e1 e2 e3 e4 e5 e6 e7 e8 _
        rcases SE s.v t.v.bH with h|⟨h0,h|h|h|h⟩
        ·omega
        ·omega
        ·rw[h.1]
         exact⟨e1,e2,e3,e8,af rfl,ab (ab ⟨h0,ab (af h.2)⟩),fun _=>ab ⟨e5,ab ⟨h.2,h0⟩⟩⟩
        ·rw[h.1]
         exact⟨e1,e2,e3,e8,ab rfl,ab (ab ⟨h0,ab (ab (af h.2))⟩),fun hk=>absurd hk (by decide)⟩
        ·rw[h.1]
         exact⟨e1,e2,e3,e8,ab rfl,ab (ab ⟨h0,ab (ab (ab h.2))⟩),fun hk=>absurd hk (by decide)⟩
       cases h1:(decide (bD x.v y.v.bH>0)&&decide (bD y.v x.v.bH<0)) with
       |true=>
        simp only[cY,ij] at h1
        exact o0 _ (ab fun hp h4=>kk x y hb xi xd yi yd hy h1.1 hp h4)
       |false=>
        simp only[aJ]
        cases h2:(decide (bD y.v x.v.bH>0)&&decide (bD x.v y.v.bH<0)) with
        |true=>
         simp only[cY,ij] at h2
         exact o1 _ (ab fun hp h4=>kk y x hb.symm yi yd xi xd hx h2.1 hp h4)
        |false=>exact af rfl
theorem QF{x y:He}(h:(vR i x y).ae=2)(c:Nat):(qK i x y).getLsbD c=(x.cr.getLsbD c||y.cr.getLsbD c):=by
 unfold qK
 cases i with
 |false=>
  simp only[ft,br]
  unfold uD
  rw[h]
  show(x.cr|||y.cr).getLsbD c=_
  rw[nh]
 |true=>
  simp only[bu]
  unfold uD
  rw[h]
  show(y.cr|||x.cr).getLsbD c=_
  rw[nh,Bool.or_comm]
theorem Bb{x y:He}(h:(vR i x y).ae=3)(hb:x.an=y.an)(b1:1<=x.an)(b2:x.an<=32)(c:Nat):(qK i x y).getLsbD c=decide (c<x.an.toNat):=by
 unfold qK
 cases i with
 |false=>
  simp only[ft,br]
  unfold uD
  rw[h]
  show(AV x.an).getLsbD c=_
  exact zO b1 b2 c
 |true=>
  simp only[bu]
  unfold uD
  rw[h]
  show(AV y.an).getLsbD c=_
  rw[<-hb]
  exact zO b1 b2 c
theorem VM(i:Bool)(x y:He)(hx:x.v.bH≠0)(hy:y.v.bH≠0):
 (rl i x y=0/\(vR i x y).ae=4)\/(rl i x y=1/\(vR i x y).ae=1/\x.an=y.an/\x.bp=false/\y.bp=false/\x.v.bH=y.v.bH/\mi x.cr=0/\mi y.cr=0/\(x.cH=true->y.cH=true->False))\/
 (rl i x y=2/\(vR i x y).iY=(if i then 1 else 0)/\Ba x y (vR i x y).ae)\/(rl i x y=3/\(vR i x y).iY=(if i then 0 else 1)/\Ba y x (vR i x y).ae):=by
 have k4:∀{s t:He} {k:Int},Ba s t k->k≠4/\k≠1:=fun h=>by
  rcases h.kk with e|e<;>rw[e]<;>decide
 unfold rl
 cases i with
 |false=>
  have h:=agS x y hx hy
  have e:vR false x y=aI x y:=rfl
  rw[e]
  rcases h with h|h|h|h
  ·rw[aP h];exact af ⟨rfl,h⟩
  ·rw[aR (by rw[h.1];decide),aP h.1]
   exact ab (af ⟨rfl,h⟩)
  ·have k:=k4 h.2
   rw[aR k.1,aR k.2,aP (by rw[h.1];rfl)]
   exact ab (ab (af ⟨rfl,by rw[h.1];rfl,h.2⟩))
  ·have k:=k4 h.2
   rw[aR k.1,aR k.2,aR (by rw[h.1];decide)]
   exact ab (ab (ab ⟨rfl,by rw[h.1];rfl,h.2⟩))
 |true=>
  have h:=agS y x hy hx
  have e:vR true x y=aI y x:=rfl
  rw[e]
  rcases h with h|h|h|h
  ·rw[aP h];exact af ⟨rfl,h⟩
  ·rw[aR (by rw[h.1];decide),aP h.1]
   exact ab (af ⟨rfl,h.1,h.2.1.symm,h.2.2.2.1,h.2.2.1,h.2.2.2.2.1.symm,h.2.2.2.2.2.2.1,h.2.2.2.2.2.1,fun a b=>h.2.2.2.2.2.2.2 b a⟩)
  ·have k:=k4 h.2
   rw[aR k.1,aR k.2,aR (by rw[h.1];decide)]
   exact ab (ab (ab ⟨rfl,by rw[h.1];rfl,h.2⟩))
  ·have k:=k4 h.2
   rw[aR k.1,aR k.2,aP (by rw[h.1];rfl)]
   exact ab (ab (af ⟨rfl,by rw[h.1];rfl,h.2⟩))
def MV(x y:Mh)(b:Nat)(z:ByteArray):Prop:=my y.A b z/\(x.H=false->l9 y.A b=l9 x.A b)
theorem agT{mt:Bool}{s t:He}(h:G2 B (One p) (One q) x y mt mu)(d:Ba s t k)(sv:s.v=q.s.v)(si:s.bp=q.s.bp)(ti:t.bp=p.s.bp)(td:t.dg=p.s.dg)(tv:t.v=p.s.v)(hx:x.H=p.s.bp)(hy:y.H=q.s.bp):
 p.s.dg=true\/∀b,b<B->l9 x.A b<=l9 y.A b:=by
 have g:=h.p1 p q rfl rfl
 have nq:q.s.bp=false:=by rw[<-si];exact d.si
 cases hp:p.s.bp with
 |true=>exact(h.f1 p rfl).lh hp
 |false=>
  rcases d.rel with r|r|r
  ·rw[ti,hp] at r;exact absurd r (by simp)
  ·rw[td] at r;exact af r
  ·rw[sv,tv] at r
   have:=g.la hp nq r
   rw[zR (hx.trans hp),zR (hy.trans nq)] at this
   exact ab this
theorem abk{mt:Bool}{s t:He}(h:G2 B (One p) (One q) x y mt mu)(d:Ba s t k)(sv:s.v=q.s.v)(si:s.bp=q.s.bp)(ti:t.bp=p.s.bp)(tv:t.v=p.s.v)(hx:x.H=p.s.bp)(hy:y.H=q.s.bp)(k2:k=2)(b:Nat)(hb:b<B):
 p.m.getLsbD b=true\/q.m.getLsbD b=true\/(p.x b=q.x b/\(x.H=false->l9 y.A b=l9 x.A b)):=by
 have g:=h.p1 p q rfl rfl
 have g2:=h.p2 p q rfl rfl
 have nq:q.s.bp=false:=by rw[<-si];exact d.si
 cases hp:p.s.bp with
 |true=>
  rcases g.ri hp b hb with r|r|r
  ·exact af r
  ·exact ab (af r)
  ·exact ab (ab ⟨r,fun c=>absurd ((hx.trans hp).symm.trans c) (by simp)⟩)
 |false=>
  rcases d.two k2 with r|⟨_,r⟩
  ·rw[ti,hp] at r;exact absurd r (by simp)
  ·rw[sv,tv] at r
   rcases g2.rw nq hp r b hb with r|r|r
   ·exact ab (af r)
   ·exact af r
   ·rw[zR (hx.trans hp),zR (hy.trans nq)] at r
    exact ab (ab ⟨r.1.symm,fun _=>r.2⟩)
theorem abl{mt:Bool}{s t:He}{a c:He}(h:G2 B (One p) (One q) x y mt mu)(d:Ba s t (vR i a c).ae)(sv:s.v=q.s.v)(si:s.bp=q.s.bp)(ti:t.bp=p.s.bp)(tv:t.v=p.s.v)(hx:x.H=p.s.bp)(hy:y.H=q.s.bp)(st:(a=s/\c=t)\/(a=t/\c=s))(sm:s.cr=q.m)(bl:t.an.toNat=B)(b1:1<=t.an/\t.an<=32)(b:Nat)(hb:b<B):
 p.m.getLsbD b=true\/(qK i a c).getLsbD b=true\/MV x y b (p.x b):=by
 have nq:q.s.bp=false:=by rw[<-si];exact d.si
 have hac:a.an=c.an:=by
  rcases st with⟨rfl,rfl⟩|⟨rfl,rfl⟩
  ·exact d.bl
  ·exact d.bl.symm
 have hbt:a.an=t.an:=by
  rcases st with⟨rfl,rfl⟩|⟨rfl,rfl⟩
  ·exact d.bl
  ·rfl
 rcases d.kk with e|e
 ·rcases abk h d sv si ti tv hx hy e b hb with r|r|r
  ·exact af r
  ·right;left
   rw[QF e]
   rw[<-sm] at r
   rcases st with⟨rfl,rfl⟩|⟨rfl,rfl⟩
   ·rw[r];rfl
   ·rw[r];simp
  ·right;right
   refine⟨?_,r.2⟩
   have:=(h.f2 q rfl).f nq b hb
   rw[zR (hy.trans nq)] at this
   rw[r.1]
   exact this
 ·right;left
  rw[Bb e hac (by rw[hbt];exact b1.1) (by rw[hbt];exact b1.2),hbt,bl]
  exact cJ hb
theorem agU{mt:Bool}{s t:He}{a c:He}(h:G2 B (One p) (One q) x y mt mu)(d:Ba s t (vR i a c).ae)(sv:s.v=q.s.v)(si:s.bp=q.s.bp)(ti:t.bp=p.s.bp)(tv:t.v=p.s.v)(hx:x.H=p.s.bp)(hy:y.H=q.s.bp)(st:(a=s/\c=t)\/(a=t/\c=s))(bl:t.an.toNat=B)(b1:1<=t.an/\t.an<=32)(b:Nat)(hb:b<B):
 (p.m|||qK i a c).getLsbD b=true\/q.m.getLsbD b=true\/p.x b=q.x b:=by
 have hac:a.an=c.an:=by
  rcases st with⟨rfl,rfl⟩|⟨rfl,rfl⟩
  ·exact d.bl
  ·exact d.bl.symm
 have hbt:a.an=t.an:=by
  rcases st with⟨rfl,rfl⟩|⟨rfl,rfl⟩
  ·exact d.bl
  ·rfl
 rw[nh]
 rcases d.kk with e|e
 ·rcases abk h d sv si ti tv hx hy e b hb with r|r|r
  ·rw[r];exact af rfl
  ·exact ab (af r)
  ·exact ab (ab r.1)
 ·left
  rw[Bb e hac (by rw[hbt];exact b1.1) (by rw[hbt];exact b1.2),hbt,bl,cJ hb]
  simp
def oi(i:Bool):Int:=bif i then 1 else 0
def Cl.a(c:Cl)(i:Bool):Nd:=bif i then c.n1 else c.n0
def Lk.t(l:Lk)(i:Bool):List ByteArray:=bif i then l.lJ else l.lI
def Mm.a(m:Mm)(i:Bool):Mh:=bif i then⟨m.n1,m.s1,m.h1,m.d1⟩ else⟨m.n0,m.s0,m.h0,m.d0⟩
def Mm.w(m:Mm)(i:Bool):Rq:=bif i then m.w1 else m.w0
theorem vT(c:Cl)(i:Bool):fL c (oi i)=c.a i:=by cases i<;>rfl
theorem VN(i:Bool):1-oi i=oi (!i):=by cases i<;>rfl
theorem Zn(i:Bool):wrap .i64 (1-oi i)=oi (!i):=by cases i<;>rfl
def rJ(l:List Ou):List ByteArray:=(l.filter fun o=>o.ae==1).map (·.data)
theorem te(i:Bool):∀(l:List Ou) (k:Lk),(cw (oi i) k l).up=k.up/\(cw (oi i) k l).bd=k.bd/\(cw (oi i) k l).t i=k.t i/\(cw (oi i) k l).t (!i)=(bif k.up then k.t (!i)++rJ l else k.t (!i))
 |[],k=>⟨rfl,rfl,rfl,by show k.t (!i)=bif k.up then k.t (!i)++[] else k.t (!i);cases k.up<;>simp⟩
 |o::l,k=>by
  have hs:cw (oi i) k (o::l)=cw (oi i) (bif o.ae==1&&k.up then(dQ k (wrap .i64 (1-oi i)) [o.data]).1 else k) l:=rfl
  rw[hs]
  cases h1:o.ae==1 with
  |false=>
   simp only[rL,aJ]
   have ih:=te i l k
   have e:rJ (o::l)=rJ l:=by unfold rJ;rw[HZ,h1];rfl
   rw[e]
   exact ih
  |true=>
   have e:rJ (o::l)=o.data::rJ l:=by unfold rJ;rw[HZ,h1];rfl
   rw[e]
   cases h2:k.up with
   |false=>
    simp only[Dc,aJ]
    have ih:=te i l k
    rw[h2] at ih
    exact ih
   |true=>
    simp only[HR,bA]
    rw[Zn]
    have ih:=te i l (dQ k (oi (!i)) [o.data]).1
    have k1:(dQ k (oi (!i)) [o.data]).1.up=true/\(dQ k (oi (!i)) [o.data]).1.bd=k.bd/\(dQ k (oi (!i)) [o.data]).1.t i=k.t i/\(dQ k (oi (!i)) [o.data]).1.t (!i)=k.t (!i)++[o.data]:=by
     unfold dQ
     rw[h2]
     cases i
     ·exact⟨rfl,rfl,rfl,rfl⟩
     ·exact⟨rfl,rfl,rfl,rfl⟩
    rw[k1.1,k1.2.1,k1.2.2.1,k1.2.2.2] at ih
    refine⟨ih.1,ih.2.1,ih.2.2.1,?_⟩
    rw[ih.2.2.2]
    simp
theorem Fd(i:Int):∀(l:List Ou) (k:Lk),k.up=false->cw i k l=k
 |[],k,_=>rfl
 |o::l,k,h=>by
  show cw i (bif o.ae==1&&k.up then(dQ k (wrap .i64 (1-i)) [o.data]).1 else k) l=k
  rw[h,Dc]
  exact Fd i l k h
def sA(n:Nd):Nd×List Ou:=bif !n.up then(n,[]) else aF n
theorem Hz(n:Nd)(w:Bool):(eD n w).1.1=(sA n).1/\(eD n w).2=(sA n).2:=by
 unfold eD sA
 cases n.up with
 |false=>exact⟨rfl,rfl⟩
 |true=>
  cases h:(aF n).1.up<;>simp
def Gm(i:Bool)(a b:List Ou):List Ou:=bif i then b++a else a++b
theorem Jo(c:Cl)(i:Bool):(f9 c).1.a i=(sA (c.a i)).1/\(f9 c).1.ai=cO c.ai/\(f9 c).2=Gm i (sA (c.a i)).2 (sA (c.a (!i))).2:=by
 have h0:=Hz c.n0 c.w0
 have h1:=Hz c.n1 c.w1
 unfold f9
 cases i
 ·refine⟨h0.1,rfl,?_⟩
  show(eD c.n0 c.w0).2++(eD c.n1 c.w1).2=_
  rw[h0.2,h1.2]
  rfl
 ·refine⟨h1.1,rfl,?_⟩
  show(eD c.n0 c.w0).2++(eD c.n1 c.w1).2=_
  rw[h0.2,h1.2]
  rfl
theorem abm(c:Cl)(i:Bool)(n:Nd):(bB c (oi i) n).a i=n/\(bB c (oi i) n).a (!i)=c.a (!i)/\(bB c (oi i) n).ai=c.ai:=by
 cases i<;>exact⟨rfl,rfl,rfl⟩
theorem sf(c:Cl)(i:Int)(w:Bool)(j:Bool):(bq c i w).a j=c.a j/\(bq c i w).ai=c.ai:=by
 unfold bq
 cases h:i==0<;>cases j<;>exact⟨rfl,rfl⟩
theorem Fe(c:Cl)(i:Bool)(n:Nd)(l:List Ou):(cW c (oi i) n l).a i=n/\(cW c (oi i) n l).a (!i)=c.a (!i)/\(cW c (oi i) n l).ai=cw (oi i) c.ai l:=by
 unfold cW
 cases n.up
 ·simp only[pa,bA]
  rw[(sf _ _ _ _).1,(sf _ _ _ _).1,(sf _ _ _ false).2]
  cases i<;>exact⟨rfl,rfl,rfl⟩
 ·simp only[fS,aJ]
  cases i<;>(refine⟨?_,?_,?_⟩<;>first|rfl|trivial)
variable{c:Cl}
theorem tf(h:c.ai.up=false)(i:Bool)(n:Nd)(l:List Ou):(aW c (oi i) n l).1.a i=n/\(aW c (oi i) n l).1.a (!i)=c.a (!i)/\(aW c (oi i) n l).1.ai=c.ai/\(aW c (oi i) n l).2=a_ l:=by
 obtain⟨h1,h2,h3⟩:=Fe c i n l
 rw[Fd _ _ _ h] at h3
 unfold aW
 rw[h3,h]
 exact⟨h1,h2,h3,rfl⟩
variable{l:List Ou}
theorem Ff(h:c.ai.up=true)(i:Bool)(hn:n.up=true)(hc:d6 l=false):
 (aW c (oi i) n l).1.a i=n/\(aW c (oi i) n l).1.a (!i)=c.a (!i)/\(aW c (oi i) n l).1.ai.up=true/\(aW c (oi i) n l).1.ai.bd=c.ai.bd/\(aW c (oi i) n l).1.ai.t i=c.ai.t i/\(aW c (oi i) n l).1.ai.t (!i)=c.ai.t (!i)++rJ l/\(aW c (oi i) n l).2=a_ l:=by
 obtain⟨h1,h2,h3⟩:=Fe c i n l
 obtain⟨s1,s2,s3,s4⟩:=te i l c.ai
 have e:aW c (oi i) n l=(cW c (oi i) n l,a_ l):=by
  unfold aW
  rw[hn,hc]
  simp
 rw[e]
 refine⟨h1,h2,?_,?_,?_,?_,rfl⟩
 ·show(cW c (oi i) n l).ai.up=true
  rw[h3,s1,h]
 ·show(cW c (oi i) n l).ai.bd=_
  rw[h3,s2]
 ·show(cW c (oi i) n l).ai.t i=_
  rw[h3,s3]
 ·show(cW c (oi i) n l).ai.t (!i)=_
  rw[h3,s4,h]
  rfl
theorem HA(h:c.ai.up=true)(i:Bool)(hn:n.up=false\/d6 l=true):
 (aW c (oi i) n l).1.a i=(sA n).1/\(aW c (oi i) n l).1.a (!i)=(sA (c.a (!i))).1/\(aW c (oi i) n l).1.ai.up=false/\(aW c (oi i) n l).2=a_ l++Gm i (sA n).2 (sA (c.a (!i))).2:=by
 obtain⟨h1,h2,h3⟩:=Fe c i n l
 obtain⟨s1,s2,s3,s4⟩:=te i l c.ai
 have hu:(cW c (oi i) n l).ai.up=true:=by rw[h3,s1,h]
 have key:∀d:Cl,d.a i=n->d.a (!i)=c.a (!i)->(f9 d).1.a i=(sA n).1/\(f9 d).1.a (!i)=(sA (c.a (!i))).1/\(f9 d).1.ai.up=false/\(f9 d).2=Gm i (sA n).2 (sA (c.a (!i))).2:=fun d e1 e2=>by
  have a1:=Jo d i
  have a2:=Jo d (!i)
  rw[e1,e2] at a1
  rw[e2] at a2
  exact⟨a1.1,a2.1,by rw[a1.2.1];rfl,a1.2.2⟩
 have hx:(!(cW c (oi i) n l).ai.up||n.up&&!d6 l)=false:=by
  rw[hu]
  rcases hn with e|e<;>rw[e]<;>simp
 unfold aW
 rw[hx]
 simp only[aJ]
 cases hc:d6 l with
 |true=>
  obtain⟨k1,k2,k3,k4⟩:=key {cW c (oi i) n l with w0:=false,w1:=false} ((show _=(cW c (oi i) n l).a i by cases i<;>rfl).trans h1) ((show _=(cW c (oi i) n l).a (!i) by cases i<;>rfl).trans h2)
  exact⟨k1,k2,k3,by simp only[bA];rw[k4]⟩
 |false=>
  obtain⟨k1,k2,k3,k4⟩:=key (cW c (oi i) n l) h1 h2
  exact⟨k1,k2,k3,by simp only[aJ];rw[k4]⟩
def shd(x y:Mh)(st:Int):Mh:=⟨x.A,bif st==1||st==4 then y.A else x.S,x.H,x.D⟩
theorem wL(m:Mm)(c:Cl)(i:Bool):(bW m c).a i=shd (m.a i) (m.a (!i)) (c.a i).ag:=by
 cases i<;>rfl
structure Ms(m x:Mm)(f:Bool->Vl->Vl):Prop where
 a:∀j,x.a j=⟨f j (m.a j).A,(m.a j).S,(m.a j).H,(m.a j).D⟩
 l:x.cg=m.cg
theorem agV(m:Mm)(i:Bool):vof m (oi i)=(m.a i).A:=by cases i<;>rfl
theorem zU(m:Mm)(i:Bool):zD m (oi i)=m.w i:=by cases i<;>rfl
theorem acM(m:Mm)(i:Bool)(v:Vl):Ms m (wY m (oi i) v) (fun j a=>bif j==i then v else a)/\∀j,(wY m (oi i) v).w j=m.w j:=by
 refine⟨⟨fun j=> ?_,?_⟩,fun j=> ?_⟩
 ·cases i<;>cases j<;>rfl
 ·cases i<;>rfl
 ·cases i<;>cases j<;>rfl
theorem acN(m:Mm)(i:Bool)(r:Rq):(∀j,(p8 m (oi i) r).a j=m.a j)/\(p8 m (oi i) r).w i=r/\(p8 m (oi i) r).w (!i)=m.w (!i)/\(p8 m (oi i) r).cg=m.cg/\(p8 m (oi i) r).count=m.count:=by
 cases i<;>exact⟨fun j=>by cases j<;>rfl,rfl,rfl,rfl,rfl⟩
variable{m:Mm}
theorem Fg{e:bg}(hk:e.ae=5)(hn:e.node=oi i)(hr:dC l (oi i)=false):
 (bU m c e l).a i=⟨gC (m.a i).A e.block e.data,(m.a i).S,(m.a i).H,(m.a i).D⟩/\
 (bU m c e l).a (!i)=⟨bif c.ai.up then gC (m.a (!i)).A e.block e.data else(m.a (!i)).A,(m.a (!i)).S,(m.a (!i)).H,(m.a (!i)).D⟩/\
 (bU m c e l).w i=⟨true,e.id,e.block,e.data⟩/\(bU m c e l).w (!i)=m.w (!i)/\(bU m c e l).cg=m.cg/\(bU m c e l).count=m.count:=by
 have e0:bU m c e l=p8 (kL m c e) (oi i) ⟨true,e.id,e.block,e.data⟩:=by
  unfold bU
  rw[hk,hn,hr]
  cases i<;>rfl
 rw[e0]
 obtain⟨w1,w2,w3,w4,w5⟩:=acN (kL m c e) i ⟨true,e.id,e.block,e.data⟩
 have e1:kL m c e=bif c.ai.up then gg (gg m (oi i) e) (1-oi i) e else gg m (oi i) e:=by unfold kL;rw[hn]
 have b1:∀(m:Mm) (i:Bool),gg m (oi i) e=wY m (oi i) (gC (m.a i).A e.block e.data):=fun m i=>by unfold gg;rw[agV]
 rw[w1,w1,w2,w3,w4,w5,e1,VN]
 cases c.ai.up
 ·simp only[aJ]
  rw[b1]
  obtain⟨⟨v1,v2⟩,v3⟩:=acM m i (gC (m.a i).A e.block e.data)
  rw[v1,v1,v3,v2]
  cases i<;>(refine⟨?_,?_,?_,?_,?_,?_⟩<;>first|rfl|trivial)
 ·simp only[bA]
  rw[b1,b1]
  cases i<;>(refine⟨?_,?_,?_,?_,?_,?_⟩<;>first|rfl|trivial)
theorem Bc{e:bg}(h:e.ae≠5\/(e.node≠0/\e.node≠1)\/dC l e.node=true):bU m c e l=m:=by
 unfold bU
 have:(!(e.ae==5)||!(e.node==0)&&!(e.node==1)||dC l e.node)=true:=by
  rcases h with h|⟨h,k⟩|h
  ·rw[show(e.ae==5)=false by simpa using h];rfl
  ·rw[show(e.node==0)=false by simpa using h,show(e.node==1)=false by simpa using k];simp
  ·rw[h];simp
 rw[this]
 rfl
theorem zV{e:bg}:∀{l:List Ou} {m:Mm},(∀o∈l,mH m e o=false)->l.foldl (bG e) m=m
 |[],m,_=>rfl
 |o::l,m,h=>by
  rw[jp]
  have:bG e m o=m:=by
   unfold bG
   rw[h o (gQ ..)]
   rfl
  rw[this]
  exact zV fun x hx=>h x (ch _ hx)
def CO(l:List Ou):Prop:=∀o∈l,¬(o.ae=2/\o.j2=0)
theorem CO.nil:CO []:=fun o h=>absurd h (by simp)
theorem CO.app{a b:List Ou}(h:CO a)(k:CO b):CO (a++b):=fun o ho=>(df.1 ho).elim (h o) (k o)
theorem CO.one{o:Ou}(h:¬(o.ae=2/\o.j2=0)):CO [o]:=fun x hx=>by simp at hx;rw[hx];exact h
theorem qa{e:bg}(h:CO l):l.foldl (bG e) m=m:=
 zV fun o ho=>CK m e o (ab (h o ho))
theorem tg(n:Nd):CO (iS n):=by
 unfold iS
 cases n.cb
 ·exact CO.nil
 ·exact CO.one (fun h=>absurd h.2 (by simp[ap]))
theorem Jp{e:bg}{o:Ou}(hn:o.node=oi i)(h:mH m e o=true)(hc:0<=m.count/\m.count<1000000):
 ∃x,bG e m o=x/\x.a i=⟨pD (m.a i).A (m.w i) (m.count+1),(m.a i).S,(m.a i).H,(m.a i).D⟩/\
  x.a (!i)=⟨bif e.ae==9&&e.node==oi i then pD (m.a (!i)).A (m.w i) (m.count+1) else(m.a (!i)).A,(m.a (!i)).S,(m.a (!i)).H,(m.a (!i)).D⟩/\
  x.w i=iE/\x.w (!i)=m.w (!i)/\x.cg=m.cg:=by
 refine⟨_,rfl,?_⟩
 have ec:wrap .i64 (m.count+1)=m.count+1:=dG (by omega) (by omega)
 unfold bG
 rw[h,hn]
 simp only[fS,aJ]
 cases(e.ae==9&&e.node==oi i)
 ·simp only[aJ]
  unfold mG jb
  rw[zU,ec]
  cases i<;>exact⟨rfl,rfl,rfl,rfl,rfl⟩
 ·simp only[bA]
  unfold mG jb
  rw[zU,ec]
  cases i<;>(refine⟨?_,?_,?_,?_,?_⟩<;>first|rfl|trivial)
def Lo(x:Mh)(u i:Bool):Prop:=u=true->i=false->x.H=true->x.D=true\/lN x.A x.S=false
theorem VO(m:Mm)(n:Nd)(h:Lo (m.a false) n.up n.store.aj.bp):(oA m n).a false=p_ (m.a false) n.up n.store.aj.bp n.store.aj.dg/\(oA m n).a true=m.a true/\(oA m n).w false=(bif n.bL.on then m.w false else iE)/\(oA m n).w true=m.w true/\(oA m n).cg=m.cg:=by
 unfold oA e_ jU
 have h':n.up=true->n.store.aj.bp=false->m.h0=true->(!m.d0&&lN m.n0 m.s0)=false:=fun a b c=>by
  rcases h a b c with k|k
  ·have:m.d0=true:=k
   rw[this];rfl
  ·have:lN m.n0 m.s0=false:=k
   rw[this];simp
 cases hr:n.bL.on<;>cases hu:n.up<;>simp only[bA,aJ]
 ·refine⟨?_,?_,?_,?_,?_⟩<;>first|rfl|trivial
 ·cases hi:n.store.aj.bp
  ·simp only[aJ]
   cases hh:m.h0
   ·simp only[aJ]
    refine⟨?_,by first|rfl|trivial,by first|rfl|trivial,by first|rfl|trivial,by first|rfl|trivial⟩
    unfold p_ Mm.a
    simp only[aJ,bA,hh]
   ·simp only[bA,h' hu hi hh,aJ]
    refine⟨?_,by first|rfl|trivial,by first|rfl|trivial,by first|rfl|trivial,by first|rfl|trivial⟩
    unfold p_ Mm.a
    simp only[aJ,bA,hh]
  ·refine⟨?_,?_,?_,?_,?_⟩<;>first|rfl|trivial
 ·refine⟨?_,?_,?_,?_,?_⟩<;>first|rfl|trivial
 ·cases hi:n.store.aj.bp
  ·simp only[aJ]
   cases hh:m.h0
   ·simp only[aJ]
    refine⟨?_,by first|rfl|trivial,by first|rfl|trivial,by first|rfl|trivial,by first|rfl|trivial⟩
    unfold p_ Mm.a
    simp only[aJ,bA,hh]
   ·simp only[bA,h' hu hi hh,aJ]
    refine⟨?_,by first|rfl|trivial,by first|rfl|trivial,by first|rfl|trivial,by first|rfl|trivial⟩
    unfold p_ Mm.a
    simp only[aJ,bA,hh]
  ·refine⟨?_,?_,?_,?_,?_⟩<;>first|rfl|trivial
theorem VP(m:Mm)(n:Nd)(h:Lo (m.a true) n.up n.store.aj.bp):(qU m n).a true=p_ (m.a true) n.up n.store.aj.bp n.store.aj.dg/\(qU m n).a false=m.a false/\(qU m n).w true=(bif n.bL.on then m.w true else iE)/\(qU m n).w false=m.w false/\(qU m n).cg=m.cg:=by
 unfold qU fV kM
 have h':n.up=true->n.store.aj.bp=false->m.h1=true->(!m.d1&&lN m.n1 m.s1)=false:=fun a b c=>by
  rcases h a b c with k|k
  ·have:m.d1=true:=k
   rw[this];rfl
  ·have:lN m.n1 m.s1=false:=k
   rw[this];simp
 cases hr:n.bL.on<;>cases hu:n.up<;>simp only[bA,aJ]
 ·refine⟨?_,?_,?_,?_,?_⟩<;>first|rfl|trivial
 ·cases hi:n.store.aj.bp
  ·simp only[aJ]
   cases hh:m.h1
   ·simp only[aJ]
    refine⟨?_,by first|rfl|trivial,by first|rfl|trivial,by first|rfl|trivial,by first|rfl|trivial⟩
    unfold p_ Mm.a
    simp only[bA,aJ,hh]
   ·simp only[bA,h' hu hi hh,aJ]
    refine⟨?_,by first|rfl|trivial,by first|rfl|trivial,by first|rfl|trivial,by first|rfl|trivial⟩
    unfold p_ Mm.a
    simp only[bA,aJ,hh]
  ·refine⟨?_,?_,?_,?_,?_⟩<;>first|rfl|trivial
 ·refine⟨?_,?_,?_,?_,?_⟩<;>first|rfl|trivial
 ·cases hi:n.store.aj.bp
  ·simp only[aJ]
   cases hh:m.h1
   ·simp only[aJ]
    refine⟨?_,by first|rfl|trivial,by first|rfl|trivial,by first|rfl|trivial,by first|rfl|trivial⟩
    unfold p_ Mm.a
    simp only[bA,aJ,hh]
   ·simp only[bA,h' hu hi hh,aJ]
    refine⟨?_,by first|rfl|trivial,by first|rfl|trivial,by first|rfl|trivial,by first|rfl|trivial⟩
    unfold p_ Mm.a
    simp only[bA,aJ,hh]
  ·refine⟨?_,?_,?_,?_,?_⟩<;>first|rfl|trivial
variable{X:Mm}
theorem Zo{d:Cl}{e:bg}(hX:l.foldl (bG e) (bU (bW m c) c e l)=X)(i:Bool)(h:Lo (X.a i) (d.a i).up (d.a i).store.aj.bp)(k:Lo (X.a (!i)) (d.a (!i)).up (d.a (!i)).store.aj.bp):
 (kh m c e d l).a i=p_ (X.a i) (d.a i).up (d.a i).store.aj.bp (d.a i).store.aj.dg/\(kh m c e d l).a (!i)=p_ (X.a (!i)) (d.a (!i)).up (d.a (!i)).store.aj.bp (d.a (!i)).store.aj.dg/\
 (kh m c e d l).w i=(bif (d.a i).bL.on then X.w i else iE)/\(kh m c e d l).w (!i)=(bif (d.a (!i)).bL.on then X.w (!i) else iE)/\(kh m c e d l).cg=X.cg:=by
 unfold kh
 rw[hX]
 cases i
 ·obtain⟨a1,a2,a3,a4,a5⟩:=VO X d.n0 h
  obtain⟨b1,b2,b3,b4,b5⟩:=VP (oA X d.n0) d.n1 (by rw[a2];exact k)
  rw[a2] at b1
  rw[a1] at b2
  rw[a4] at b3
  rw[a3] at b4
  exact⟨b2,b1,b4,b3,b5.trans a5⟩
 ·obtain⟨a1,a2,a3,a4,a5⟩:=VO X d.n0 k
  obtain⟨b1,b2,b3,b4,b5⟩:=VP (oA X d.n0) d.n1 (by rw[a2];exact h)
  rw[a2] at b1
  rw[a1] at b2
  rw[a4] at b3
  rw[a3] at b4
  exact⟨b1,b2,b3,b4,b5.trans a5⟩
def Vw(n:Nd)(v:Pv):Prop:=(n.up=true/\Lv n.store v)\/(n.up=false/\Kh n.store.ao v)
theorem pJ{v:Pv}(hu:n.up=true)(h:Lv n.store p)(k:Vw n v):v=p:=by
 rcases k with⟨_,k⟩|⟨k,_⟩
 ·exact k.hd.Jb h.hd
 ·rw[hu] at k;exact absurd k (by simp)
theorem nV(hu:n.up=true)(h:Lv n.store p):Vw n p:=af ⟨hu,h⟩
theorem Jq{m:Nd}{v:Pv}(k:Vw (dz m) v):Kh m.store.ao v:=by
 rcases k with⟨k,_⟩|⟨_,S,hS,hg⟩
 ·exact absurd k (by simp[dz])
 ·exact⟨S,zL rfl rfl hS,hg⟩
structure TN(n:Nd)(x:Mh)(w:Rq):Prop where
 lv:n.up=true->∃p,Lv n.store p
 hd:n.up=true->x.H=n.store.aj.bp/\x.D=n.store.aj.dg
 mt:n.bZ=true->n.up=true/\n.ag=0/\n.store.aj.bp=false
 pr:n.aN=true->n.up=true/\n.store.aj.bp=false
 wt:n.bL.on=true->w=n.bL
 dn:n.up=false->n.ag=0
 off:n.ag=0->n.bL.on=false/\n.cb=false/\n.cU=false/\n.wanted=0
 sb:n.up=false->n.store.aj.an=0
theorem TN.down(m:Nd)(x:Mh)(w:Rq):TN (dz m) x w:=
 ⟨fun h=>absurd h (by simp[dz]),fun h=>absurd h (by simp[dz]),fun h=>absurd h (by simp[dz]),fun h=>absurd h (by simp[dz]),fun h=>absurd h (by simp[dz,iE]),fun _=>rfl,fun _=>⟨rfl,rfl,rfl,rfl⟩,fun _=>rfl⟩
structure Sd(B:Nat)(n:Nd)(p:Pv)(x:Mh)(w:Rq):Prop where
 up:n.up=true
 st:n.ag≠0
 lv:Lv n.store p
 hd:x.H=p.s.bp/\x.D=p.s.dg
 pr:n.aN=true->p.s.bp=false
 rq:n.bL.on=true->w=n.bL/\n.aN=true/\∃b:Nat,n.bL.block=(b:Int)/\b<B/\p.m.getLsbD b=true/\p.x b=n.bL.data
inductive Lor(n:Nd)(p:Pv)(x:Nd×List Ou):Prop
 |xv (h:x.1=ei n) (q:CO x.2)
 |bZ (g:Int) (hg:g∈n.aQ) (s:So) (r:List Int) (l:List Mi) (a:List Ou) (h:x.1={ei n with aQ:=r,bh:=l,store:=s,bZ:=true}) (lv:Lv s (nU p g)) (o:x.2=a++[ap n n.bL.id 0 ⟨#[]⟩]) (q:CO a) (on:n.bL.on=true)
 |w7 (g:Int) (hg:g∈n.aQ) (m:Nd) (h:x.1=dz m) (q:CO x.2) (hp:∀q,Kh m.store.ao q->oa q p\/oa q (nU p g)) (on:n.bL.on=true)
theorem VQ{w:Rq}(h:Sd B n p x w)(hd:∀g∈n.aQ,g≠0/\jO g):Lor n p (sA n)/\(n.bL.on=false->(sA n).1=ei n/\CO (sA n).2):=by
 have e:sA n=aF n:=by unfold sA;rw[h.up];rfl
 rw[e]
 rcases Zh h.lv hd h.st with⟨h1,h2⟩|⟨h1,h2|⟨g,hg,⟨s,r,l,h2,k⟩|⟨m,h2,_,k⟩⟩⟩
 ·rw[h2]
  exact⟨.xv rfl (tg n),fun _=>⟨rfl,tg n⟩⟩
 ·rw[h2]
  exact⟨.xv rfl ((tg n).app (CO.one fun k=>absurd k.2 (by simp[ap]))),fun k=>absurd (h1.symm.trans k) (by simp)⟩
 ·rw[h2]
  exact⟨.bZ g hg s r l _ rfl k rfl (tg n) h1,fun k=>absurd (h1.symm.trans k) (by simp)⟩
 ·refine⟨.w7 g hg m (by rw[h2]) (by rw[h2];exact tg n) (fun q hq=> ?_) h1,fun k=>absurd (h1.symm.trans k) (by simp)⟩
  obtain⟨v,v1,v2⟩:=k q hq
  simp only[cM,mM,lV] at v1
  rcases v1 with rfl|rfl
  ·exact af v2
  ·exact ab v2
variable{N M:Nat}
theorem zW{a:Vl}{C:Int}(h:VL N a)(w:VW C M a)(hC:0<=C)(hk:C<k){r:Rq}{i:Nat}(hr:r.block=(i:Int))(hi:i<N):Akd i r.data k a (pD a r k):=by
 have hv:j3 a r.block=true:=by unfold j3;rw[hr,h.a];simp;omega
 rw[zF hv hr]
 have lk:∀c,l9 a c<=k:=fun c=>by
  unfold l9
  rw[eX]
  cases e:a.aB[c]? with
  |none=>simp only[Option.getD_none];omega
  |some z=>have:=w.l z (jD e);simp only[q_];omega
 refine⟨fun c z=> ?_,fun c=> ?_,lk⟩
 ·unfold my IV
  simp only[tz]
  by_cases e:c=i
  ·subst e
   have h1:c<a.ay.length:=by rw[h.a];exact hi
   have h2:c<a.begun.length:=by rw[h.b];exact hi
   rw[iJ _ _ _ _ _ h1,iJ _ _ _ _ _ h2]
   simp[h1]
  ·have e':¬i=c:=fun k=>e k.symm
   have h1:i<a.ay.length:=by rw[h.a];exact hi
   have h2:i<a.begun.length:=by rw[h.b];exact hi
   rw[iJ _ _ _ _ _ h1,iJ _ _ _ _ _ h2,aR e',aR e']
   simp[e]
 ·unfold l9
  have h1:i<a.aB.length:=by rw[h.l];exact hi
  rw[iJ _ _ _ _ _ h1]
  by_cases e:c=i
  ·rw[aP e,aP e.symm]
  ·rw[aR e,aR fun k=>e k.symm]
theorem VR(h:Lv s p)(hd:x.H=p.s.bp/\x.D=p.s.dg)(u:Bool):p_ x u s.aj.bp s.aj.dg=x:=
 ta (by rw[h.su];exact hd.1) (by rw[h.su];exact hd.2) u
theorem uq{u:Bool}(h:x.H=i):Lo x u i:=fun _ b c=>absurd (h.symm.trans c) (by rw[b];simp)
theorem Jr:Lo x false i:=fun a=>absurd a (by simp)
theorem L9{e:bg}{a b:List Ou}(h:CO a):(Gm i a b).foldl (bG e) m=b.foldl (bG e) m:=by
 unfold Gm
 cases i
 ·show(a++b).foldl _ m=_
  rw[rP,qa h]
 ·show(b++a).foldl _ m=_
  rw[rP]
  exact qa h
structure Shp(N M:Nat)(m:Mm):Prop where
 v:∀j,VL N (m.a j).A
 w:∀j,VW m.count M (m.a j).A
 c:0<=m.count
 u:m.count<1000000
structure Ldn(B:Nat)(V:Pv->Prop)(n2:Nd)(m M:Mm)(i:Bool):Prop where
 g:G2 B V (Vw n2) (M.a (!i)) (p_ (M.a i) n2.up n2.store.aj.bp n2.store.aj.dg) false n2.bZ
 o:M.a (!i)=m.a (!i)
 t:∀w,TN n2 (p_ (M.a i) n2.up n2.store.aj.bp n2.store.aj.dg) w
 l:Lo (M.a i) n2.up n2.store.aj.bp
 lo:M.cg=m.cg
 st:n2.ag=0
theorem Js{w:Rq}{r:List Int}{l:List Mi}{b:Bool}(hu:n.up=true)(h:Lv s p)(hd:x.H=p.s.bp/\x.D=p.s.dg)(hp:n.aN=true->p.s.bp=false)(hb:b=true->p.s.bp=false):TN {ei n with aQ:=r,bh:=l,store:=s,bZ:=b} x w:=
 ⟨fun _=>⟨p,h⟩,fun _=>by rw[show _=s.aj from rfl,h.su];exact hd,fun k=>⟨hu,rfl,by rw[show _=s.aj from rfl,h.su];exact hb k⟩,fun k=>⟨hu,by rw[show _=s.aj from rfl,h.su];exact hp k⟩,fun k=>absurd k (by simp[ei,iE]),fun k=>absurd (hu.symm.trans k) (by simp),fun _=>⟨rfl,rfl,rfl,rfl⟩,fun k=>absurd (hu.symm.trans k) (by simp)⟩
theorem Zp{e:bg}(h:G2 B V (One p) (m.a (!i)) (m.a i) false false)(s:Sd B n p (m.a i) (m.w i))(gm:n.id=oi i)(hd:∀g∈n.aQ,g≠0/\jO g)(hf:∀g∈n.aQ,∀v,V v->v.s.bp=false->zS g v.s.v)(hs:Shp B M m)(he:e.ae≠4)(h9:e.ae=9->e.node≠oi i\/n.bL.on=false):Ldn B V (sA n).1 m ((sA n).2.foldl (bG e) m) i:=by
 obtain⟨hl,_⟩:=VQ s hd
 cases hl with
 |xv h1 q=>
  rw[qa q,h1]
  have lv:Lv (ei n).store p:=s.lv
  have hu:(ei n).up=true:=s.up
  have eu:=VR s.lv s.hd (ei n).up
  refine⟨?_,rfl,fun w=> ?_,uq (by rw[s.hd.1];exact(cu Su.bp lv.su).symm),rfl,rfl⟩
  ·show G2 B V (Vw (ei n)) _ (p_ (m.a i) (ei n).up n.store.aj.bp n.store.aj.dg) false false
   rw[eu]
   exact h.sub (fun _ k=>k) fun v k=>pJ hu lv k
  ·show TN (ei n) (p_ (m.a i) (ei n).up n.store.aj.bp n.store.aj.dg) w
   rw[eu]
   exact Js (r:=n.aQ) (l:=n.bh) (b:=false) s.up s.lv s.hd s.pr (fun k=>absurd k (by simp))
 |bZ g hg st r l a h1 lv ho q on=>
  obtain⟨hw,alg,b,hb,MW,hbm,hbx⟩:=s.rq on
  have hi:=s.pr alg
  have Ds:e.ae≠9\/e.node≠oi i:=by
   by_cases k:e.ae=9
   ·rcases h9 k with h9|h9
    ·exact ab h9
    ·exact absurd (h9.symm.trans on) (by simp)
   ·exact af k
  have SF:mH m e (ap n n.bL.id 0 ⟨#[]⟩)=true:=by
   unfold mH
   have:zD m (ap n n.bL.id 0 ⟨#[]⟩).node=n.bL:=by show zD m n.id=_;rw[gm,zU,hw]
   rw[this,on,show(e.ae==4)=false by simpa using he]
   simp[ap]
  obtain⟨X,hX,x1,x2,x3,x4,x5⟩:=Jp (i:=i) gm SF ⟨hs.c,hs.u⟩
  have h9':(e.ae==9&&e.node==oi i)=false:=by
   rcases Ds with k|k
   ·rw[show(e.ae==9)=false by simpa using k];rfl
   ·rw[show(e.node==oi i)=false by simpa using k];simp
  rw[h9',aJ] at x2
  have eM:(sA n).2.foldl (bG e) m=X:=by rw[ho,rP,qa q];exact hX
  rw[eM,h1]
  have ak:=zW (hs.v i) (hs.w i) hs.c (show m.count<m.count+1 by omega) (r:=m.w i) (i:=b) (by rw[hw];exact hb) MW
  have g1:=h.B5.bZ (g:=g) (mu:=false) (fun v hv hvi=>hf g hg v hv hvi) (fun k=>absurd k (by simp))
  have g2:=g1.agP (i:=b) (d:=(m.w i).data) (a:=pD (m.a i).A (m.w i) (m.count+1)) hi (s.hd.1.trans hi) hbm (by rw[hw];exact hbx) ak
  have lv':Lv ({ei n with aQ:=r,bh:=l,store:=st,bZ:=true}:Nd).store (nU p g):=lv
  have eu:p_ (X.a i) (ei n).up st.aj.bp st.aj.dg=X.a i:=VR lv (by rw[x1];exact s.hd) _
  refine⟨?_,x2.trans (by cases(m.a (!i));rfl),fun w=> ?_,uq (by rw[x1];show(m.a i).H=st.aj.bp;rw[lv.su];exact s.hd.1),x5,rfl⟩
  ·show G2 B V (Vw {ei n with aQ:=r,bh:=l,store:=st,bZ:=true}) _ (p_ (X.a i) (ei n).up st.aj.bp st.aj.dg) false true
   rw[eu,x1,x2]
   exact g2.B5.sub (fun _ k=>k) fun v k=>pJ (n:={ei n with aQ:=r,bh:=l,store:=st,bZ:=true}) s.up lv' k
  ·show TN {ei n with aQ:=r,bh:=l,store:=st,bZ:=true} (p_ (X.a i) (ei n).up st.aj.bp st.aj.dg) w
   rw[eu]
   exact Js s.up lv (by rw[x1];exact s.hd) (fun _=>hi) (fun _=>hi)
 |w7 g hg m0 h1 q hp on=>
  rw[qa q,h1]
  have g1:=h.B5.L3 (g:=g) (mu:=false) (fun v hv hvi=>hf g hg v hv hvi) (fun k=>absurd k (by simp))
  refine⟨?_,rfl,fun w=>TN.down _ _ _,Jr,rfl,rfl⟩
  refine g1.B5.MU (fun v k=>⟨v,k,oa.refl v⟩) fun v k=> ?_
  rcases hp v (Jq k) with d|d
  ·exact⟨_,af rfl,d⟩
  ·exact⟨_,ab rfl,d⟩
def HB(v:Vl)(b:Nat)(z:ByteArray):Prop:=z∈v.begun.getD b []
def Cq(n o:Sn):Prop:=(n.st=2\/(n.st=4/\n.p.s.bp=false)\/o.st=2\/(o.st=4/\o.p.s.bp=false))->n.p.s.v.bH=o.p.s.v.bH
structure QG(i:Bool)(B:Nat)(n o:Nd)(x y:Mh)(k:Int)(tn to:List ByteArray)(p q:Pv)(Q W:List Pq):Prop where
 un:n.up=true
 uo:o.up=true
 sn:n.bd=k
 so:o.bd=k
 rk:jO k
 ln:Lv n.store p
 lo:Lv o.store q
 bn:p.s.an.toNat=B
 bo:q.s.an.toNat=B
 tn:tn=Q.map (Ji k)
 to:to=W.map (Ji k)
 rq:∀a∈Q,TQ a
 rw:∀a∈W,TQ a
 wn:0<=n.wanted/\(n.bL.on=true->0<=n.bL.block)
 wo:0<=o.wanted/\(o.bL.on=true->0<=o.bL.block)
 mn:n.bZ=false
 mo:o.bZ=false
 cq:Cq (di n p) (di o q)
 d:D2 B i (di n p) (di o q) Q W (MV y x) (MV x y) (HB x.A) (HB y.A)
theorem D2.B5{n:Sn}(h:D2 B i n o Q W mn mo bn bo):D2 B (!i) o n W Q mo mn bo bn:=
 ⟨h.b,by rw[lF];exact h.a⟩
theorem Cq.B5{n:Sn}(h:Cq n o):Cq o n:=fun k=>(h (by rcases k with k|k|k|k<;>simp[k])).symm
variable{to:List ByteArray}
theorem QG.B5{o:Nd}{tn:List ByteArray}(h:QG i B n o x y k tn to p q Q W):QG (!i) B o n y x k to tn q p W Q:=
 ⟨h.uo,h.un,h.so,h.sn,h.rk,h.lo,h.ln,h.bo,h.bn,h.to,h.tn,h.rw,h.rq,h.wo,h.wn,h.mo,h.mn,h.cq.B5,h.d.B5⟩
structure TJ(i:Bool)(B:Nat)(c:Cl)(x y:Mh)(wx wy:Rq):Prop where
 a:TN (c.a i) x wx
 b:TN (c.a (!i)) y wy
 g:G2 B (Vw (c.a i)) (Vw (c.a (!i))) x y (c.a i).bZ (c.a (!i)).bZ
 dn:c.ai.up=false->(c.a i).ag=0/\(c.a (!i)).ag=0
 up:c.ai.up=true->∃p q Q W,QG i B (c.a i) (c.a (!i)) x y c.ai.bd (c.ai.t i) (c.ai.t (!i)) p q Q W
theorem TJ.B5{wx wy:Rq}(h:TJ i B c x y wx wy):TJ (!i) B c y x wy wx:=by
 refine⟨h.b,?_,?_,fun k=> ?_,fun k=> ?_⟩
 ·rw[lF];exact h.a
 ·rw[lF];exact h.g.B5
 ·rw[lF];exact⟨(h.dn k).2,(h.dn k).1⟩
 ·rw[lF]
  obtain⟨p,q,Q,W,s⟩:=h.up k
  exact⟨q,p,W,Q,s.B5⟩
def wM(X:Mm)(d:Cl)(j:Bool):Mh:=p_ (X.a j) (d.a j).up (d.a j).store.aj.bp (d.a j).store.aj.dg
def MX(X:Mm)(d:Cl)(j:Bool):Rq:=bif (d.a j).bL.on then X.w j else iE
structure Po(i:Bool)(B:Nat)(d:Cl)(X:Mm):Prop where
 l1:Lo (X.a i) (d.a i).up (d.a i).store.aj.bp
 l2:Lo (X.a (!i)) (d.a (!i)).up (d.a (!i)).store.aj.bp
 t:TJ i B d (wM X d i) (wM X d (!i)) (MX X d i) (MX X d (!i))
theorem Po.B5{d:Cl}(h:Po i B d X):Po (!i) B d X:=by
 refine⟨h.l2,?_,?_⟩
 ·rw[lF];exact h.l1
 ·have:=h.t.B5
  rw[lF]
  exact this
structure Cx(B M:Nat)(c:Cl)(m:Mm):Prop where
 id:∀j,(c.a j).id=oi j
 dr:∀j,∀g∈(c.a j).aQ,g≠0/\jO g
 fr:∀j,∀g∈(c.a j).aQ,∀k v,Vw (c.a k) v->v.s.bp=false->zS g v.s.v
 pv:∀j,(c.a j).ag=4->qh (c.a j).eQ.v
 sh:Shp B M m
 hs:∀j,(m.a j).H=true->VL B (m.a j).S
 won:∀j,(m.w j).on=(c.a j).bL.on
 len:∀j,(c.a j).store.ao.ax.length=B+2
 b:1<=B/\B<=32
 uc:m.count<900000
 /- the alj has followed -/
 s4:∀j,(c.a j).ag=1\/(c.a j).ag=4->(m.a j).S=(m.a (!j)).A
structure Nq(n n':Nd):Prop where
 su:n'.store.ao.ax=n.store.ao.ax
 ca:n'.store.ao.ar=n.store.ao.ar
 de:n'.store.ao.gN=n.store.ao.gN
 sp:n'.store.aj=n.store.aj
 ma:n'.store.cr=n.store.cr
 up:n'.up=n.up
 pr:n'.aN=n.aN
 st:n'.ag=n.ag
 bd:n'.bd=n.bd
 eQ:n'.eQ=n.eQ
 pp:n'.cU=n.cU
 bL:n'.bL=n.bL
 ask:n'.cb=n.cb
 wn:n'.wanted=n.wanted
 mt:n'.bZ=n.bZ
theorem Nq.refl(n:Nd):Nq n n:=⟨rfl,rfl,rfl,rfl,rfl,rfl,rfl,rfl,rfl,rfl,rfl,rfl,rfl,rfl,rfl⟩
variable{n':Nd}
theorem Nq.lv(h:Nq n n')(k:Lv n.store p):Lv n'.store p:=Qu k h.su h.ca h.de h.sp h.ma
theorem Nq.lv'(h:Nq n n')(k:Lv n'.store p):Lv n.store p:=Qu k h.su.symm h.ca.symm h.de.symm h.sp.symm h.ma.symm
theorem Nq.vw(h:Nq n n'){v:Pv}(k:Vw n' v):Vw n v:=by
 rcases k with⟨k1,k2⟩|⟨k1,S,hS,hg⟩
 ·exact af ⟨h.up.symm.trans k1,h.lv' k2⟩
 ·exact ab ⟨h.up.symm.trans k1,S,zL h.su h.ca hS,hg⟩
theorem Nq.tn(h:Nq n n'){w w':Rq}(k:TN n x w)(hw:n.bL.on=true->w'=w):TN n' x w':=by
 refine⟨fun a=> ?_,fun a=> ?_,fun a=> ?_,fun a=> ?_,fun a=> ?_,fun a=> ?_,fun a=> ?_,fun a=> ?_⟩
 ·obtain⟨p,hp⟩:=k.lv (h.up.symm.trans a)
  exact⟨p,h.lv hp⟩
 ·rw[h.sp];exact k.hd (h.up.symm.trans a)
 ·rw[h.up,h.st,h.sp];exact k.mt (h.mt.symm.trans a)
 ·rw[h.up,h.sp];exact k.pr (h.pr.symm.trans a)
 ·rw[h.bL] at a ⊢;rw[hw a];exact k.wt a
 ·rw[h.st];exact k.dn (h.up.symm.trans a)
 ·rw[h.bL,h.ask,h.pp,h.wn];exact k.off (h.st.symm.trans a)
 ·rw[h.sp];exact k.sb (h.up.symm.trans a)
theorem Nq.abs(h:Nq n n')(p:Pv):di n' p=di n p:=by
 unfold di
 rw[h.st,h.pr,h.ask,h.pp,h.bL,h.wn,h.eQ]
theorem Nq.alk{o:Nd}{tn:List ByteArray}(h:Nq n n')(s:QG i B n o x y k tn to p q Q W):QG i B n' o x y k tn to p q Q W:=
 ⟨h.up.trans s.un,s.uo,h.bd.trans s.sn,s.so,s.rk,h.lv s.ln,s.lo,s.bn,s.bo,s.tn,s.to,s.rq,s.rw,by rw[h.wn,h.bL];exact s.wn,s.wo,h.mt.trans s.mn,s.mo,by rw[h.abs];exact s.cq,by rw[h.abs];exact s.d⟩
theorem TN.p_{n:Nd}{x:Mh}{w:Rq}(h:TN n x w):p_ x n.up n.store.aj.bp n.store.aj.dg=x:=by
 cases hu:n.up with
 |false=>rfl
 |true=>exact ta (h.hd hu).1 (h.hd hu).2 true
theorem TN.lo{w:Rq}(h:TN n x w):Lo x n.up n.store.aj.bp:=by
 intro a b c
 exact absurd ((h.hd a).1.symm.trans c) (by rw[b];simp)
theorem Gn{d:Cl}(h:TJ i B c (m.a i) (m.a (!i)) (m.w i) (m.w (!i)))(hn:Nq (c.a i) (d.a i))(ho:d.a (!i)=c.a (!i))(hl:d.ai.up=c.ai.up)(hk:c.ai.up=true->d.ai=c.ai):Po i B d m:=by
 have e1:wM m d i=m.a i:=by unfold wM;rw[hn.up,hn.sp];exact h.a.p_
 have e2:wM m d (!i)=m.a (!i):=by unfold wM;rw[ho];exact h.b.p_
 have w1:(c.a i).bL.on=true->MX m d i=m.w i:=fun a=>by unfold MX;rw[hn.bL,a];rfl
 have w2:(c.a (!i)).bL.on=true->MX m d (!i)=m.w (!i):=fun a=>by unfold MX;rw[ho,a];rfl
 refine⟨by rw[hn.up,hn.sp];exact h.a.lo,by rw[ho];exact h.b.lo,?_⟩
 rw[e1,e2]
 refine⟨hn.tn h.a w1,?_,?_,fun k=> ?_,fun k=> ?_⟩
 ·rw[ho];exact(Nq.refl _).tn h.b w2
 ·rw[ho,hn.mt]
  exact h.g.sub (fun v k=>hn.vw k) (fun v k=>k)
 ·rw[hn.st,ho];exact h.dn (hl.symm.trans k)
 ·obtain⟨p,q,Q,W,s⟩:=h.up (hl.symm.trans k)
  refine⟨p,q,Q,W,?_⟩
  rw[ho,hk (hl.symm.trans k)]
  exact hn.alk s
theorem L_(h:TJ i B c (m.a i) (m.a (!i)) (m.w i) (m.w (!i))):TJ i B c ((bW m c).a i) ((bW m c).a (!i)) ((bW m c).w i) ((bW m c).w (!i)):=by
 have w:∀j,(bW m c).w j=m.w j:=fun j=>by cases j<;>rfl
 rw[w,w,wL,wL,lF]
 have tn:∀{n:Nd} {x y:Mh} {w:Rq} {z:Int},TN n x w->TN n (shd x y z) w:=fun k=>⟨k.lv,k.hd,k.mt,k.pr,k.wt,k.dn,k.off,k.sb⟩
 refine⟨tn h.a,tn h.b,?_,h.dn,fun k=> ?_⟩
 ·cases hl:c.ai.up with
  |false=>
   obtain⟨s1,s2⟩:=h.dn hl
   rw[s1,s2]
   exact h.g
  |true=>
   obtain⟨p,q,Q,W,s⟩:=h.up hl
   have g1:=h.g.sh (fun v k=>by rw[pJ s.un s.ln k,(h.a.hd s.un).1,s.ln.su]) (bif (c.a i).ag==1||(c.a i).ag==4 then(m.a (!i)).A else(m.a i).S) (m.a i).D
   have g2:=g1.B5.sh (fun v k=>by rw[pJ s.uo s.lo k,(h.b.hd s.uo).1,s.lo.su]) (bif (c.a (!i)).ag==1||(c.a (!i)).ag==4 then(m.a i).A else(m.a (!i)).S) (m.a (!i)).D
   exact g2.B5
 ·obtain⟨p,q,Q,W,s⟩:=h.up k
  exact⟨p,q,Q,W,s.un,s.uo,s.sn,s.so,s.rk,s.ln,s.lo,s.bn,s.bo,s.tn,s.to,s.rq,s.rw,s.wn,s.wo,s.mn,s.mo,s.cq,s.d⟩
theorem Ma{d:Cl}(h:TJ i B c (m.a i) (m.a (!i)) (m.w i) (m.w (!i)))(hl:c.ai.up=false)(dn:d.a i=n')(SH:d.a (!i)=c.a (!i))(dl:d.ai.up=false)(xo:X.a (!i)=m.a (!i))(ho:(c.a (!i)).bL.on=true->X.w (!i)=m.w (!i))(u:n'.up=true)(lv:Lv n'.store p')(hH:(X.a i).H=p'.s.bp)(g:G2 B (One p') (Vw (c.a (!i))) (X.a i) (m.a (!i)) n'.bZ (c.a (!i)).bZ)(mt:n'.bZ=true->p'.s.bp=false)(pr:n'.aN=true->p'.s.bp=false)(st:n'.ag=0)(off:n'.bL.on=false/\n'.cb=false/\n'.cU=false/\n'.wanted=0):Po i B d X:=by
 have e1:wM X d i=⟨(X.a i).A,(X.a i).S,(X.a i).H,p'.s.dg⟩:=by
  unfold wM
  rw[dn,u,lv.su,<-hH]
  cases hh:(X.a i).H<;>simp[p_,hh]
 have e2:wM X d (!i)=m.a (!i):=by unfold wM;rw[SH,xo];exact h.b.p_
 refine⟨by rw[dn,lv.su];exact uq hH,by rw[SH,xo];exact h.b.lo,?_⟩
 rw[e1,e2]
 refine⟨?_,?_,?_,fun _=> ?_,fun k=>absurd (dl.symm.trans k) (by simp)⟩
 ·rw[dn]
  exact⟨fun _=>⟨p',lv⟩,fun _=>by rw[lv.su];exact⟨hH,rfl⟩,fun k=>⟨u,st,by rw[lv.su];exact mt k⟩,fun k=>⟨u,by rw[lv.su];exact pr k⟩,fun k=>absurd (off.1.symm.trans k) (by simp),fun k=>absurd (u.symm.trans k) (by simp),fun _=>off,fun k=>absurd (u.symm.trans k) (by simp)⟩
 ·rw[SH]
  exact(Nq.refl _).tn h.b fun a=>by unfold MX;rw[SH,a];exact ho a
 ·rw[dn,SH]
  have g1:=g.sh (fun v k=>by rw[k];exact hH.symm) (X.a i).S p'.s.dg
  exact g1.sub (fun v k=>pJ u lv k) (fun v k=>k)
 ·rw[dn,SH];exact⟨st,(h.dn hl).2⟩
variable{vs:List Pv}
theorem Fh{d:Cl}{m':Nd}(h:TJ i B c (m.a i) (m.a (!i)) (m.w i) (m.w (!i)))(hl:c.ai.up=false)(dn:d.a i=dz m')(SH:d.a (!i)=c.a (!i))(dl:d.ai.up=false)(xo:X.a (!i)=m.a (!i))(ho:(c.a (!i)).bL.on=true->X.w (!i)=m.w (!i))(hp:∀q,Kh m'.store.ao q->∃v,v∈vs/\oa q v)(g:G2 B (· ∈vs) (Vw (c.a (!i))) (X.a i) (m.a (!i)) false (c.a (!i)).bZ):Po i B d X:=by
 have e1:wM X d i=X.a i:=by unfold wM;rw[dn];rfl
 have e2:wM X d (!i)=m.a (!i):=by unfold wM;rw[SH,xo];exact h.b.p_
 refine⟨by rw[dn];exact Jr,by rw[SH,xo];exact h.b.lo,?_⟩
 rw[e1,e2]
 refine⟨?_,?_,?_,fun _=> ?_,fun k=>absurd (dl.symm.trans k) (by simp)⟩
 ·rw[dn];exact TN.down _ _ _
 ·rw[SH]
  exact(Nq.refl _).tn h.b fun a=>by unfold MX;rw[SH,a];exact ho a
 ·rw[dn,SH]
  exact g.MU (fun v k=>hp v (Jq k)) (fun v k=>⟨v,k,oa.refl v⟩)
 ·rw[dn,SH];exact⟨rfl,(h.dn hl).2⟩
def qN(i:Bool)(B:Nat)(m:Mm)(c:Cl)(e:bg)(r:Cl×List Ou):Prop:=∃X,r.2.foldl (bG e) (bU m c e r.2)=X/\X.cg=m.cg/\Po i B r.1 X
abbrev uE(i:Bool)(B:Nat)(c:Cl)(m:Mm):Prop:=TJ i B c (m.a i) (m.a (!i)) (m.w i) (m.w (!i))
theorem CP{e:bg}(h:∀o∈l,o.ae=2->o.j2=0->(zD m o.node).on=false):l.foldl (bG e) m=m:=by
 refine zV fun o ho=> ?_
 unfold mH
 by_cases h2:o.ae=2
 ·by_cases h0:o.j2=0
  ·rw[h o ho h2 h0];simp
  ·rw[show(o.j2==0)=false by simpa using h0];simp
 ·rw[show(o.ae==2)=false by simpa using h2];simp
theorem Fi(h:∀o∈l,o.ae=2):d6 l=false/\rJ l=[]/\a_ l=l:=by
 refine⟨?_,?_,?_⟩
 ·unfold d6
  rw[pf]
  intro o ho
  rw[h o ho]
  decide
 ·unfold rJ
  rw[List.filter_eq_nil_iff.2 fun o ho=>by rw[h o ho];decide]
  rfl
 ·unfold a_
  rw[List.filter_eq_self]
  intro o ho
  rw[h o ho]
  decide
theorem acO{a b:Lk}(h1:a.up=b.up)(h2:a.bd=b.bd)(h3:a.t i=b.t i)(h4:a.t (!i)=b.t (!i)):a=b:=by
 obtain⟨u,s,t0,t1⟩:=a
 obtain⟨u',s',t0',t1'⟩:=b
 cases i<;>simp_all[Lk.t]
theorem same{e:bg}(h:uE i B c m)(hn:Nq (c.a i) n')(hl:∀o∈l,o.ae=2)(hw:bU m c e l=m)(hf:l.foldl (bG e) m=m):qN i B m c e (aW c (oi i) n' l):=by
 obtain⟨l1,l2,l3⟩:=Fi hl
 cases hu:c.ai.up with
 |false=>
  obtain⟨a1,a2,a3,a4⟩:=tf hu i n' l
  rw[l3] at a4
  refine⟨m,by rw[a4,hw,hf],rfl,Gn h (by rw[a1];exact hn) a2 (by rw[a3]) (fun k=>absurd (hu.symm.trans k) (by simp))⟩
 |true=>
  obtain⟨p,q,Q,W,s⟩:=h.up hu
  obtain⟨a1,a2,a3,a4,a5,a6,a7⟩:=Ff hu i (n:=n') (l:=l) (hn.up.trans s.un) l1
  rw[l3] at a7
  rw[l2,dS] at a6
  refine⟨m,by rw[a7,hw,hf],rfl,Gn h (by rw[a1];exact hn) a2 (a3.trans hu.symm) (fun _=>acO (i:=i) (a3.trans hu.symm) a4 a5 a6)⟩
theorem Cj{e:bg}{id er:Int}(h:uE i B c m)(cx:Cx B M c m)(hn:e.node=oi i)(he:er≠0):qN i B m c e (aW c (oi i) (c.a i) [ap (c.a i) id er ⟨#[]⟩]):=by
 refine same h (Nq.refl _) (fun o ho=>by simp at ho;rw[ho];rfl) (Bc ?_) (qa (CO.one fun k=>he k.2))
 right;right
 unfold dC
 simp[ap,he,cx.id i]
 exact hn.symm
theorem qc{e:bg}(h:e.ae≠5):bU m c e l=m:=Bc (af h)
theorem Fj{e:bg}{id:Int}(h:uE i B c m)(cx:Cx B M c m)(hl:c.ai.up=false)(h5:e.ae≠5)(u:n'.up=true)(lv:Lv n'.store p')(hH:(m.a i).H=p'.s.bp)(g:G2 B (One p') (Vw (c.a (!i))) (m.a i) (m.a (!i)) n'.bZ (c.a (!i)).bZ)(mt:n'.bZ=true->p'.s.bp=false)(pr:n'.aN=true->p'.s.bp=false)(st:n'.ag=0)(off:n'.bL.on=false/\n'.cb=false/\n'.cU=false/\n'.wanted=0)(gm:n'.id=oi i):
 qN i B m c e (aW c (oi i) n' [ap n' id 0 ⟨#[]⟩]):=by
 obtain⟨a1,a2,a3,a4⟩:=tf hl i n' [ap n' id 0 ⟨#[]⟩]
 have ek:a_ [ap n' id 0 ⟨#[]⟩]=[ap n' id 0 ⟨#[]⟩]:=(Fi fun o ho=>by simp at ho;rw[ho];rfl).2.2
 rw[ek] at a4
 refine⟨m,?_,rfl,Ma h hl a1 a2 (by rw[a3];exact hl) rfl (fun _=>rfl) u lv hH g mt pr st off⟩
 rw[a4,qc h5]
 refine CP fun o ho _ _=> ?_
 simp at ho
 rw[ho]
 show(zD m n'.id).on=false
 rw[gm,zU,cx.won]
 exact(h.a.off (h.dn hl).1).1
theorem ur{e:bg}{y:Nd×List Ou}(h:uE i B c m)(hl:c.ai.up=false)(h5:e.ae≠5)(hf:kV n y [] vs)(g:G2 B (· ∈vs) (Vw (c.a (!i))) (m.a i) (m.a (!i)) false (c.a (!i)).bZ):qN i B m c e (aW c (oi i) y.1 y.2):=by
 obtain⟨m',e1,_,hp⟩:=hf
 rw[e1]
 obtain⟨a1,a2,a3,a4⟩:=tf hl i (dz m') []
 refine⟨m,?_,rfl,Fh h hl a1 a2 (by rw[a3];exact hl) rfl (fun _=>rfl) hp g⟩
 rw[a4,qc h5]
 rfl
theorem vU{v:Pv}(h:v∈[p,q]):v=p\/v=q:=by simpa using h
theorem Fk(h:uE i B c m)(hu:(c.a i).up=true)(lv:Lv (c.a i).store p)(k:SD p.s s'):
 G2 B (One ⟨s',p.m,p.x⟩) (Vw (c.a (!i))) (m.a i) (m.a (!i)) (c.a i).bZ (c.a (!i)).bZ/\G2 B (· ∈[p,⟨s',p.m,p.x⟩]) (Vw (c.a (!i))) (m.a i) (m.a (!i)) false (c.a (!i)).bZ:=by
 have g0:G2 B (One p) (Vw (c.a (!i))) (m.a i) (m.a (!i)) (c.a i).bZ (c.a (!i)).bZ:=h.g.sub (fun v k=>by rw[k];exact nV hu lv) (fun _ k=>k)
 have g1:=g0.su k
 exact⟨g1.sub (fun v k=>ab k) (fun _ k=>k),(g1.sub (fun v k=>vU k) (fun _ k=>k)).mt (fun k=>absurd k (by simp)) id⟩
theorem OG{e:bg}(h:uE i B c m)(cx:Cx B M c m)(hn:e.node=oi i)(h5:e.ae≠5)(hl:c.ai.up=false)(id:Int):qN i B m c e (aW c (oi i) (cj (c.a i) id).1 (cj (c.a i) id).2):=by
 cases hu:(c.a i).up with
 |false=>
  have e1:cj (c.a i) id=(c.a i,[ap (c.a i) id 7 ⟨#[]⟩]):=by unfold cj;rw[hu];rfl
  rw[e1]
  exact Cj h cx hn (by decide)
 |true=>
  obtain⟨p,lv⟩:=h.a.lv hu
  have st:=(h.dn hl).1
  have hd:=h.a.hd hu
  obtain⟨k1,k2⟩:=Fk h hu lv (s':={p.s with cH:=true}) ⟨rfl,af rfl,fun k=>k⟩
  rcases Fa hu lv id with⟨er,he,e1⟩|⟨_,_,_,_,h2,_⟩|⟨f1,f2,_,_,_,_,⟨s,e1,k⟩|k⟩
  ·rw[e1];exact Cj h cx hn he
  ·rw[st] at h2;omega
  ·rw[e1]
   exact Fj (p':=⟨{p.s with cH:=true},p.m,p.x⟩) h cx hl h5 hu k (by rw[hd.1,lv.su]) k1 (fun _=>f2) (fun _=>f2) st (h.a.off st) (cx.id i)
  ·exact ur h hl h5 k k2
theorem SI{e:bg}(h:uE i B c m)(cx:Cx B M c m)(hn:e.node=oi i)(h5:e.ae≠5)(hl:c.ai.up=false)(id:Int):qN i B m c e (aW c (oi i) (dN (c.a i) id).1 (dN (c.a i) id).2):=by
 cases hu:(c.a i).up with
 |false=>
  have e1:dN (c.a i) id=(c.a i,[ap (c.a i) id 7 ⟨#[]⟩]):=by unfold dN;rw[hu];rfl
  rw[e1]
  exact Cj h cx hn (by decide)
 |true=>
  obtain⟨p,lv⟩:=h.a.lv hu
  have st:=(h.dn hl).1
  have hd:=h.a.hd hu
  obtain⟨k1,k2⟩:=Fk h hu lv (s':={p.s with cH:=false}) ⟨rfl,af rfl,fun k=>k⟩
  rcases Hx hu lv id with⟨er,he,e1⟩|⟨f1,_,_,⟨s,e1,k⟩|k⟩
  ·rw[e1];exact Cj h cx hn he
  ·have e2:(if(c.a i).ag=2\/(c.a i).ag=3 then[o5 (c.a i) .vQ] else[])=[]:=aR (by rw[st];omega)
   rw[e2,jf] at e1
   rw[e1]
   have f2:p.s.bp=false:=by rw[<-lv.su];exact(h.a.pr f1).2
   exact Fj (p':=⟨{p.s with cH:=false},p.m,p.x⟩) (n':={c.a i with store:=s,aN:=false}) h cx hl h5 hu k (by rw[hd.1,lv.su]) k1 (fun _=>f2) (fun _=>f2) st (h.a.off st) (cx.id i)
  ·exact ur h hl h5 k k2
theorem OH{e:bg}(h:uE i B c m)(cx:Cx B M c m)(hn:e.node=oi i)(h5:e.ae≠5)(hl:c.ai.up=false)(id:Int):qN i B m c e (aW c (oi i) (dj (c.a i) id).1 (dj (c.a i) id).2):=by
 cases hu:(c.a i).up with
 |false=>
  have e1:dj (c.a i) id=(c.a i,[ap (c.a i) id 7 ⟨#[]⟩]):=by unfold dj;rw[hu];rfl
  rw[e1]
  exact Cj h cx hn (by decide)
 |true=>
  obtain⟨p,lv⟩:=h.a.lv hu
  have st:=(h.dn hl).1
  have hd:=h.a.hd hu
  obtain⟨k1,k2⟩:=Fk h hu lv (s':={p.s with dg:=true}) ⟨rfl,af rfl,fun _=>rfl⟩
  rcases Fb hu lv id with⟨er,he,e1⟩|⟨_,f1,⟨s,e1,k⟩|k⟩
  ·rw[e1];exact Cj h cx hn he
  ·rw[e1]
   exact Fj (p':=⟨{p.s with dg:=true},p.m,p.x⟩) (n':={c.a i with store:=s}) h cx hl h5 hu k (by rw[hd.1,lv.su]) k1 (fun k=>by have:=(h.a.mt k).2.2;rw[lv.su] at this;exact this) (fun k=>absurd (f1.symm.trans k) (by simp)) st (h.a.off st) (cx.id i)
  ·exact ur h hl h5 k k2
theorem acP{a s:Vl}{u d:Bool}(h:u=false):Mh.e ⟨a,s,u,d⟩=a:=zR h
theorem zX{a:Vl}(h:VL N a){b:Int}{i:Nat}(hb:b=(i:Int))(hi:i<N)(d:ByteArray):Gw a (gC a b d)/\my (gC a b d) i d/\HB (gC a b d) i d/\∀c z,HB a c z->HB (gC a b d) c z:=by
 have h2:i<a.begun.length:=by rw[h.b];exact hi
 have hv:j3 a b=true:=by unfold j3;rw[hb,h.a];simp;omega
 have hy:a.begun[i]?=some (a.begun.getD i []):=by rw[eX,cm h2];rfl
 rw[yj hv hb hy]
 have hg:∀c,(a.begun.set i (a.begun.getD i []++[d])).getD c []=if i=c then a.begun.getD i []++[d] else a.begun.getD c []:=fun c=>iJ _ _ _ _ _ h2
 refine⟨⟨fun c z=> ?_,fun c=>rfl⟩,?_,?_,fun c z=> ?_⟩
 ·unfold my IV
  simp only[hg,cY,As]
  intro⟨k1,k2⟩
  refine⟨k1,k2.imp id fun k=> ?_⟩
  split
  ·next e=>subst e;simp only[M3,df,ij] at k ⊢;exact af k
  ·exact k
 ·unfold my IV
  simp only[hg,bu]
  simp
  rw[h.a];exact hi
 ·unfold HB
  simp only[hg,bu]
  simp
 ·unfold HB
  simp only[hg]
  intro k
  split
  ·next e=>subst e;exact List.mem_append_left _ k
  ·exact k
theorem Fl{C:Int}{a:Vl}(h:VL N a)(w:VW C M a)(b:Int)(d:ByteArray):VL N (gC a b d)/\VW C (M+1) (gC a b d):=Hn h w b d
theorem G2.cons{W:Pv->Prop}{mt:Bool}(h:G2 B (One p) W x y mt mu)(k:G2 B (· ∈L) W x y mt mu):G2 B (· ∈p::L) W x y mt mu:=
 G2.VJ h.f2 fun v hv=>by
  rcases cM.1 hv with rfl|hv
  ·exact⟨h.f1 _ rfl,fun q hq=>⟨h.p1 _ q rfl hq,h.p2 _ q rfl hq⟩⟩
  ·exact⟨k.f1 _ hv,fun q hq=>⟨k.p1 _ q hv hq,k.p2 _ q hv hq⟩⟩
theorem TN.mtv{w:Rq}(h:TN n x w)(hm:n.bZ=true){v:Pv}(hv:Vw n v):v.s.bp=false:=by
 obtain⟨u,_,k⟩:=h.mt hm
 obtain⟨p,lp⟩:=h.lv u
 rw[pJ u lp hv,<-lp.su]
 exact k
theorem Fn{e:bg}(h:uE i B c m)(cx:Cx B M c m)(hn:e.node=oi i)(h5:e.ae=5)(hl:c.ai.up=false)(hb:e.block=(b:Int))(MW:b<B)(g:G2 B (One p') (Vw (c.a (!i))) ⟨gC (m.a i).A e.block e.data,(m.a i).S,(m.a i).H,(m.a i).D⟩ (m.a (!i)) true (c.a (!i)).bZ)(pi:p'.s.bp=false)(hH:(m.a i).H=false)(hm:p'.m.getLsbD b=true)(hd:p'.x b=e.data)(u:n'.up=true)(lv:Lv n'.store p')(mt:n'.bZ=true)(st:n'.ag=0)(off:n'.bL.on=false/\n'.cb=false/\n'.cU=false/\n'.wanted=0)(gm:n'.id=oi i):
 qN i B m c e (aW c (oi i) n' [ap n' e.id 0 ⟨#[]⟩]):=by
 obtain⟨a1,a2,a3,a4⟩:=tf hl i n' [ap n' e.id 0 ⟨#[]⟩]
 have ek:a_ [ap n' e.id 0 ⟨#[]⟩]=[ap n' e.id 0 ⟨#[]⟩]:=(Fi fun o ho=>by simp at ho;rw[ho];rfl).2.2
 rw[ek] at a4
 have hr:dC [ap n' e.id 0 ⟨#[]⟩] (oi i)=false:=by simp[dC,ap]
 obtain⟨w1,w2,w3,w4,w5,w6⟩:=Fg (m:=m) (c:=c) h5 hn hr
 have SF:mH (bU m c e [ap n' e.id 0 ⟨#[]⟩]) e (ap n' e.id 0 ⟨#[]⟩)=true:=by
  unfold mH
  have:zD (bU m c e [ap n' e.id 0 ⟨#[]⟩]) (ap n' e.id 0 ⟨#[]⟩).node=⟨true,e.id,e.block,e.data⟩:=by show zD _ n'.id=_;rw[gm,zU,w3]
  rw[this,h5]
  simp[ap]
 obtain⟨X,hX,x1,x2,x3,x4,x5⟩:=Jp (i:=i) gm SF (by rw[w6];exact⟨cx.sh.c,cx.sh.u⟩)
 rw[show(e.ae==9)=false by rw[h5];rfl,rL,aJ,w2,hl,aJ] at x2
 rw[w1,w3,w6] at x1
 have vb:=Fl (cx.sh.v i) (cx.sh.w i) e.block e.data
 have ak:=zW vb.1 vb.2 cx.sh.c (show m.count<m.count+1 by omega) (r:=⟨true,e.id,e.block,e.data⟩) (i:=b) hb MW
 have g2:=g.agP pi hH hm hd ak
 have e0:(⟨(m.a (!i)).A,(m.a (!i)).S,(m.a (!i)).H,(m.a (!i)).D⟩:Mh)=m.a (!i):=rfl
 refine⟨X,?_,x5.trans w5,Ma h hl a1 a2 (by rw[a3];exact hl) x2 (fun _=>by rw[x4,w4]) u lv (by rw[x1];exact hH.trans pi.symm) ?_ (fun _=>pi) (fun _=>pi) st off⟩
 ·rw[a4];exact hX
 ·rw[x1,mt];exact g2
theorem Fo{e:bg}{y:Nd×List Ou}(h:uE i B c m)(hn:e.node=oi i)(h5:e.ae=5)(hl:c.ai.up=false)(hf:kV n y [] vs)(g:G2 B (· ∈vs) (Vw (c.a (!i))) ⟨gC (m.a i).A e.block e.data,(m.a i).S,(m.a i).H,(m.a i).D⟩ (m.a (!i)) false (c.a (!i)).bZ):qN i B m c e (aW c (oi i) y.1 y.2):=by
 obtain⟨m',e1,_,hp⟩:=hf
 rw[e1]
 obtain⟨a1,a2,a3,a4⟩:=tf hl i (dz m') []
 have hr:dC [] (oi i)=false:=rfl
 obtain⟨w1,w2,w3,w4,w5,w6⟩:=Fg (m:=m) (c:=c) h5 hn hr
 rw[hl,aJ] at w2
 refine⟨_,rfl,?_,Fh h hl a1 a2 (by rw[a3];exact hl) ?_ (fun _=> ?_) hp ?_⟩
 ·rw[a4];exact w5
 ·rw[a4];exact w2
 ·rw[a4];exact w4
 ·rw[a4]
  show G2 B _ _ ((bU m c e []).a i) _ _ _
  rw[w1];exact g
theorem wN{i:Nat}{d:ByteArray}:(⟨p.s,lA p.m [(i:Int)],iG p.x i d⟩:Pv)∈vS p i d:=by simp[vS]
theorem VS{e:bg}(h:uE i B c m)(cx:Cx B M c m)(hn:e.node=oi i)(h5:e.ae=5)(hl:c.ai.up=false):qN i B m c e (aW c (oi i) (cD (c.a i) e.id e.block e.data).1 (cD (c.a i) e.id e.block e.data).2):=by
 cases hu:(c.a i).up with
 |false=>
  have hw:dk (c.a i) e.block e.data=7:=by unfold dk;rw[hu];rfl
  have e1:cD (c.a i) e.id e.block e.data=(c.a i,[ap (c.a i) e.id 7 ⟨#[]⟩]):=by unfold cD;rw[hw];rfl
  rw[e1]
  exact Cj h cx hn (by decide)
 |true=>
  obtain⟨p,lv⟩:=h.a.lv hu
  have st:=(h.dn hl).1
  have hd:=h.a.hd hu
  have hB:p.s.an.toNat=B:=by have:=lv.len;rw[cx.len] at this;omega
  have g0:G2 B (One p) (Vw (c.a (!i))) (m.a i) (m.a (!i)) (c.a i).bZ (c.a (!i)).bZ:=h.g.sub (fun v k=>by rw[k];exact nV hu lv) (fun _ k=>k)
  rcases L5 lv (cx.dr i) e.id e.block e.data with⟨er,he,e1⟩|⟨f1,f2,f3,f4,f5,b,hb,MW,⟨f6,_⟩|⟨f6,f7,k⟩|⟨f6,f7,g,hg,k⟩⟩
  ·rw[e1];exact Cj h cx hn he
  ·exact absurd st f6
  ·have pi:p.s.bp=false:=by rw[<-lv.su];exact(h.a.pr f2).2
   have hH:(m.a i).H=false:=by rw[hd.1,lv.su];exact pi
   have ng:b<32:=by have:=cx.b.2;omega
   rw[hB] at MW
   obtain⟨w1,w2,w3,w4⟩:=zX (cx.sh.v i) hb MW e.data
   have g1:=g0.tE w1 (Gw.refl _)
   have g2:=g1.lay (i:=b) (d:=e.data) ng (fun _=>by rw[acP hH];exact w2)
   rcases k with⟨s,e1,k⟩|k
   ·rw[e1]
    refine Fn (n':={c.a i with store:=s}) (p':=⟨p.s,lA p.m [(b:Int)],iG p.x b e.data⟩) h cx hn h5 hl hb MW ?_ pi hH ?_ ?_ hu k f7 st (h.a.off st) (cx.id i)
    ·rw[f7] at g2
     exact g2.sub (fun v k=>by rw[k];exact wN) (fun _ k=>k)
    ·show(lA p.m [(b:Int)]).getLsbD b=true
     rw[CM _ ng];simp
    ·show iG p.x b e.data b=e.data
     rw[rI,aP rfl]
   ·exact Fo h hn h5 hl k (g2.mt (fun k=>absurd k (by simp)) id)
  ·have pi:p.s.bp=false:=by rw[<-lv.su];exact(h.a.pr f2).2
   have hH:(m.a i).H=false:=by rw[hd.1,lv.su];exact pi
   have ng:b<32:=by have:=cx.b.2;omega
   rw[hB] at MW
   obtain⟨w1,w2,w3,w4⟩:=zX (cx.sh.v i) hb MW e.data
   have rS:∀q,Vw (c.a (!i)) q->q.s.bp=false->zS g q.s.v:=fun q hq hqi=>cx.fr i g hg (!i) q hq hqi
   have hmu:(c.a (!i)).bZ=true->∀q,Vw (c.a (!i)) q->q.s.bp=false:=fun a q hq=>h.b.mtv a hq
   have g1:=g0.tE w1 (Gw.refl _)
   have g3:=g1.bZ (g:=g) rS hmu
   have g2:=g3.lay (i:=b) (d:=e.data) ng (fun _=>by rw[acP hH];exact w2)
   rcases k with⟨s,r,l,e1,k⟩|k
   ·rw[e1]
    refine Fn (n':={c.a i with aQ:=r,bh:=l,store:=s,bZ:=true}) (p':=⟨(nU p g).s,lA p.m [(b:Int)],iG p.x b e.data⟩) h cx hn h5 hl hb MW ?_ pi hH ?_ ?_ hu k rfl st (h.a.off st) (cx.id i)
    ·exact g2.sub (fun v k=>by rw[k];exact wN (p:=nU p g)) (fun _ k=>k)
    ·show(lA p.m [(b:Int)]).getLsbD b=true
     rw[CM _ ng];simp
    ·show iG p.x b e.data b=e.data
     rw[rI,aP rfl]
   ·refine Fo h hn h5 hl k (G2.cons (g1.mt (fun k=>absurd k (by simp)) id) (g2.mt (fun k=>absurd k (by simp)) id))
theorem mK{v:Pv}(h:v∈[p]):v=p:=by simpa using h
theorem VT{e:bg}(h:uE i B c m)(h5:e.ae≠5)(hl:c.ai.up=false)(hu:(c.a i).up=true):qN i B m c e (aW c (oi i) (dz (c.a i)) []):=by
 obtain⟨p,lv⟩:=h.a.lv hu
 have g0:G2 B (· ∈[p]) (Vw (c.a (!i))) (m.a i) (m.a (!i)) false (c.a (!i)).bZ:=(h.g.sub (fun v k=>by rw[mK k];exact nV hu lv) (fun _ k=>k)).mt (fun k=>absurd k (by simp)) (fun k=>k)
 exact ur (n:=c.a i) (y:=(dz (c.a i),[])) h hl h5 ⟨c.a i,rfl,rfl,fun q hq=>⟨p,by simp,lv.pot rfl rfl hq⟩⟩ g0
theorem HD(hl:d.ax.length=B+2)(hb:1<=B/\B<=32)(hc:d.ar=[])(hd:d.gN=false)(h:(cd d).2=0):∃p,Lv (cd d).1 p/\Gd d.ax p/\(cd d).1.ao=d:=by
 have Vm:iW d=d.ax:=by
  unfold iW iD
  rw[hc]
  apply Dj
  ·simp
  ·intro j hj hk
   simp[eX,cm hk]
 have hrd:∀j:Nat,j<B+2->bR d (j:Int)=(d.ax.getD j ⟨#[]⟩,0):=fun j hj=>by
  unfold bR iD
  rw[hd,hc,show(decide ((j:Int)<0)||decide ((j:Int)>=(d.ax.length:Int)))=false by simp;omega]
  simp
 have Ee:bR d 0=(d.ax.getD 0 ⟨#[]⟩,0):=hrd 0 (by omega)
 have sr:bR d 1=(d.ax.getD 1 ⟨#[]⟩,0):=hrd 1 (by omega)
 unfold cd at h ⊢
 cases h1:!((kf d).2==0) with
 |true=>rw[h1] at h;simp only[bA] at h;rw[h] at h1;simp at h1
 |false=>
  rw[h1] at h
  simp only[aJ] at h ⊢
  cases h2:!((jW d).2==0) with
  |true=>rw[h2] at h;simp only[bA] at h;rw[h] at h2;simp at h2
  |false=>
   rw[h2] at h
   simp only[aJ] at h ⊢
   cases h3:!((ld d).2==0) with
   |true=>rw[h3] at h;simp only[bA] at h;rw[h] at h3;simp at h3
   |false=>
    simp only[aJ]
    have s0:(kf d).2=0:=by simpa using h1
    have b0:(jW d).2=0:=by simpa using h2
    have a0:(ld d).2=0:=by simpa using h3
    have hS:fC (d.ax.getD 0 ⟨#[]⟩)=((kf d).1,0)/\uC d (kf d).1=true:=by
     unfold kf at s0 ⊢
     rw[Ee] at s0 ⊢
     simp only[pO,fS,aJ] at s0 ⊢
     cases k1:!((fC (d.ax.getD 0 ⟨#[]⟩)).2==0) with
     |true=>rw[k1] at s0;simp only[bA] at s0;rw[s0] at k1;simp at k1
     |false=>
      rw[k1] at s0
      simp only[aJ] at s0 ⊢
      have e0:(fC (d.ax.getD 0 ⟨#[]⟩)).2=0:=by simpa using k1
      cases k2:!uC d (fC (d.ax.getD 0 ⟨#[]⟩)).1 with
      |true=>rw[k2] at s0;simp at s0
      |false=>exact⟨Prod.ext rfl e0,by simpa using k2⟩
    have Mb:((kf d).1.an)=(B:Int):=by
     have:=hS.2
     unfold uC at this
     rw[hl,dG (by omega) (by omega)] at this
     have:=eq_of_beq this
     omega
    have hB:LW (d.ax.getD 1 ⟨#[]⟩) (kf d).1.an (jW d).1:=by
     unfold jW at b0 ⊢
     rw[sr] at b0 ⊢
     simp only[pO,fS,aJ] at b0 ⊢
     cases k1:!((aa (d.ax.getD 1 ⟨#[]⟩)).2==0) with
     |true=>rw[k1] at b0;simp only[bA] at b0;rw[b0] at k1;simp at k1
     |false=>
      rw[k1] at b0
      simp only[aJ] at b0 ⊢
      cases k2:!(((aa (d.ax.getD 1 ⟨#[]⟩)).1.size:Int)==4) with
      |true=>rw[k2] at b0;simp at b0
      |false=>
       rw[k2] at b0
       simp only[aJ] at b0 ⊢
       cases k3:!dP (BitVec.ofInt 32 (gO (aa (d.ax.getD 1 ⟨#[]⟩)).1.data.toList)) (wrap .i64 ((d.ax.length:Int)-2)) with
       |true=>rw[k3] at b0;simp at b0
       |false=>
        simp only[aJ]
        have e1:(aa (d.ax.getD 1 ⟨#[]⟩)).2=0:=by simpa using k1
        have e2:(((aa (d.ax.getD 1 ⟨#[]⟩)).1.size:Int)=4):=by simpa using k2
        refine⟨e1,by omega,rfl,?_⟩
        rw[Mb,<-show wrap .i64 ((d.ax.length:Int)-2)=(B:Int) by rw[hl,dG (by omega) (by omega)];omega]
        simpa using k3
    have hA:∀b:Nat,b<B->(d.ax.getD (b+2) ⟨#[]⟩).size=8:=fun b Is=>by
     have hn:(List.range (d.ax.length-2)).find? (fun(i:Nat)=>!((aK d (i:Int)).2==0))=none:=by
      unfold ld at a0
      cases hf:(List.range (d.ax.length-2)).find? (fun(i:Nat)=>!((aK d (i:Int)).2==0)) with
      |none=>rfl
      |some j=>
       rw[hf] at a0
       have:=List.find?_some hf
       simp only at a0
       rw[a0] at this
       simp at this
     rw[xB] at hn
     have:=hn b (by simp;omega)
     simp only[xz,Bool.not_eq_false,jF] at this
     unfold aK at this
     have et:jS d (b:Int)=true:=by
      unfold jS
      rw[hl,dG (by omega) (by omega)]
      simp
      omega
     rw[et,dG (by omega) (by omega),show((b:Int)+2)=((b+2:Nat):Int) by omega,hrd (b+2) (by omega)] at this
     simp only[pO,fS,aJ] at this
     cases k1:!(((d.ax.getD (b+2) ⟨#[]⟩).size:Int)==8) with
     |true=>rw[k1] at this;simp at this
     |false=>simp only[ni,jF] at k1;omega
    have hg:Gd d.ax ⟨(kf d).1,(jW d).1,fun b=>d.ax.getD (b+2) ⟨#[]⟩⟩:=
     ⟨by show d.ax.length=(kf d).1.an.toNat+2;rw[hl,Mb];rfl,hS.1,hB,fun _=>rfl,fun b Is=>hA b (by rw[show(⟨(kf d).1,(jW d).1,fun b=>d.ax.getD (b+2) ⟨#[]⟩⟩:Pv).s.an.toNat=B by show(kf d).1.an.toNat=B;rw[Mb];rfl] at Is;exact Is)⟩
    refine⟨_,⟨hd,rfl,rfl,by rw[Vm];exact hg,fun S hS2=>⟨_,?_,oa.refl _⟩⟩,hg,by first|rfl|trivial⟩
    rw[Oz hc hS2]
    exact hg
theorem Fp{a s:Vl}(ha:VL N a)(hs:VL N s)(h:∀b,b<N->l9 a b<=l9 s b):lN a s=false:=by
 unfold lN
 rw[pf]
 intro x hx
 obtain⟨k,hk,e⟩:=List.mem_iff_getElem.1 hx
 rw[List.getElem_zip] at e
 rw[uS] at hk
 subst e
 have h1:k<a.aB.length:=by omega
 have h2:k<s.aB.length:=by omega
 have:=h k (by rw[<-ha.l];exact h1)
 unfold l9 at this
 rw[eX,eX,cm h1,cm h2] at this
 simp only[q_] at this
 simp only[ij]
 omega
theorem OI{ks:List Bool}(hu:n.up=false)(ha:(!((cd (ce n.store.ao ks)).2==0))=true):bS n ks=({n with store:={n.store with ao:=ce n.store.ao ks}},(cd (ce n.store.ao ks)).2):=by
 obtain⟨a,b⟩:=n
 simp only at hu ha
 subst hu
 unfold bS
 simp only[ha]
 rfl
theorem vV{ks:List Bool}(hu:n.up=false)(ha:(!((cd (ce n.store.ao ks)).2==0))=false):bS n ks=(⟨n.id,true,(cd (ce n.store.ao ks)).1,false,0,0,fQ,false,iE,false,0,0,false,n.aQ,n.bh⟩,0):=by
 unfold bS
 rw[hu,ha]
 rfl
theorem OJ{e:bg}(h:uE i B c m)(cx:Cx B M c m)(h5:e.ae≠5)(id:Int)(ks:List Bool):qN i B m c e (bB c (oi i) (bS (c.a i) ks).1,[ap (bS (c.a i) ks).1 id (bS (c.a i) ks).2 ⟨#[]⟩]):=by
 obtain⟨a1,a2,a3⟩:=abm c i (bS (c.a i) ks).1
 have xv:(bS (c.a i) ks).1.id=oi i->((bS (c.a i) ks).2=0->(m.w i).on=false)->[ap (bS (c.a i) ks).1 id (bS (c.a i) ks).2 ⟨#[]⟩].foldl (bG e) (bU m c e [ap (bS (c.a i) ks).1 id (bS (c.a i) ks).2 ⟨#[]⟩])=m:=fun gm hw=>by
  rw[qc h5]
  refine CP fun o ho _ h0=> ?_
  simp at ho
  rw[ho] at h0 ⊢
  show(zD m (bS (c.a i) ks).1.id).on=false
  rw[gm,zU]
  exact hw h0
 cases hu:(c.a i).up with
 |true=>
  have e1:bS (c.a i) ks=(c.a i,7):=by unfold bS;rw[hu];rfl
  rw[e1] at a1 a2 a3 xv ⊢
  exact⟨m,xv (cx.id i) (fun k=>absurd k (show ¬((7:Int)=0) by decide)),rfl,Gn h (by show Nq (c.a i) ((bB c (oi i) (c.a i)).a i);rw[a1];exact Nq.refl _) a2 (by show(bB c (oi i) (c.a i)).ai.up=_;rw[a3]) (fun _=>a3)⟩
 |false=>
  have agW:(m.w i).on=false:=by rw[cx.won];exact(h.a.off (h.a.dn hu)).1
  have alp:(ce (c.a i).store.ao ks).ax.length=B+2:=by
   rw[<-cx.len i]
   unfold ce
   have:∀(l:List (Wr×Bool)) (s:List ByteArray),(l.foldl (fun s x=>bif x.2 then s.set x.1.nW.toNat x.1.data else s) s).length=s.length:=by
    intro l
    induction l with
    |nil=>intro s;rfl
    |cons x l ih=>
     intro s
     rw[jp,ih]
     cases x.2<;>simp
   exact this _ _
  have hlk:c.ai.up=false:=by
   cases k:c.ai.up with
   |false=>rfl
   |true=>
    obtain⟨p,q,Q,W,s⟩:=h.up k
    exact absurd (s.un.symm.trans hu) (by simp)
  cases ha:!((cd (ce (c.a i).store.ao ks)).2==0) with
  |true=>
   have e1:bS (c.a i) ks=({c.a i with store:={(c.a i).store with ao:=ce (c.a i).store.ao ks}},(cd (ce (c.a i).store.ao ks)).2):=OI hu ha
   rw[e1] at a1 a2 a3 xv ⊢
   refine⟨m,xv (cx.id i) (fun _=>agW),rfl,?_⟩
   show Po i B (bB c (oi i) {c.a i with store:={(c.a i).store with ao:=ce (c.a i).store.ao ks}}) m
   simp only at a1 a2 a3
   generalize bB c (oi i) {c.a i with store:={(c.a i).store with ao:=ce (c.a i).store.ao ks}}=d at a1 a2 a3
   have e3:wM m d i=m.a i:=by unfold wM;rw[a1];show p_ (m.a i) (c.a i).up _ _=_;rw[hu];rfl
   have e2:wM m d (!i)=m.a (!i):=by unfold wM;rw[a2];exact h.b.p_
   refine⟨by rw[a1];show Lo _ (c.a i).up _;rw[hu];exact Jr,by rw[a2];exact h.b.lo,?_⟩
   rw[e3,e2]
   refine⟨?_,?_,?_,fun _=> ?_,fun k=>absurd ((a3▸k:c.ai.up=true).symm.trans hlk) (by simp)⟩
   ·rw[a1]
    exact⟨fun k=>absurd (hu.symm.trans k) (by simp),fun k=>absurd (hu.symm.trans k) (by simp),fun k=>absurd (hu.symm.trans (h.a.mt k).1) (by simp),fun k=>absurd (hu.symm.trans (h.a.pr k).1) (by simp),fun k=>absurd ((h.a.off (h.a.dn hu)).1.symm.trans k) (by simp),h.a.dn,h.a.off,h.a.sb⟩
   ·rw[a2];exact(Nq.refl _).tn h.b fun a=>by unfold MX;rw[a2,a];rfl
   ·rw[a1,a2]
    refine h.g.sub (fun v k=> ?_) (fun v k=>k)
    rcases k with⟨k,_⟩|⟨_,S,hS,hg⟩
    ·exact absurd (hu.symm.trans k) (by simp)
    ·exact ab ⟨hu,S,⟨ks,Oz rfl hS⟩,hg⟩
   ·rw[a1,a2];exact h.dn hlk
  |false=>
   have h0:(cd (ce (c.a i).store.ao ks)).2=0:=by simpa using ha
   obtain⟨p,lv,hg,hdk⟩:=HD alp cx.b rfl rfl h0
   have e1:bS (c.a i) ks=(⟨(c.a i).id,true,(cd (ce (c.a i).store.ao ks)).1,false,0,0,fQ,false,iE,false,0,0,false,(c.a i).aQ,(c.a i).bh⟩,0):=vV hu ha
   rw[e1] at a1 a2 a3 xv ⊢
   refine⟨m,xv (cx.id i) (fun _=>agW),rfl,?_⟩
   simp only at a1 a2 a3 ⊢
   generalize bB c (oi i) ⟨(c.a i).id,true,(cd (ce (c.a i).store.ao ks)).1,false,0,0,fQ,false,iE,false,0,0,false,(c.a i).aQ,(c.a i).bh⟩=d at a1 a2 a3
   have hp:Vw (c.a i) p:=ab ⟨hu,_,⟨ks,rfl⟩,hg⟩
   have g0:G2 B (One p) (Vw (c.a (!i))) (m.a i) (m.a (!i)) false (c.a (!i)).bZ:=(h.g.sub (fun v k=>by rw[k];exact hp) (fun _ k=>k)).mt (fun k=>absurd k (by simp)) (fun k=>k)
   have su:(cd (ce (c.a i).store.ao ks)).1.aj=p.s:=lv.su
   have e3:wM m d i=p_ (m.a i) true p.s.bp p.s.dg:=by unfold wM;rw[a1];show p_ (m.a i) true (cd (ce (c.a i).store.ao ks)).1.aj.bp (cd (ce (c.a i).store.ao ks)).1.aj.dg=_;rw[su]
   have e2:wM m d (!i)=m.a (!i):=by unfold wM;rw[a2];exact h.b.p_
   refine⟨?_,by rw[a2];exact h.b.lo,?_⟩
   ·rw[a1]
    show Lo (m.a i) true (cd (ce (c.a i).store.ao ks)).1.aj.bp
    rw[su]
    intro _ b2 c2
    rcases(g0.f1 p rfl).hs c2 b2 with k|k
    ·exact af k
    ·exact ab (Fp (cx.sh.v i) (cx.hs i c2) k)
   ·rw[e3,e2]
    refine⟨?_,?_,?_,fun _=> ?_,fun k=>absurd ((a3▸k:c.ai.up=true).symm.trans hlk) (by simp)⟩
    ·rw[a1]
     refine⟨fun _=>⟨p,lv⟩,fun _=> ?_,fun k=>absurd k (by simp),fun k=>absurd k (by simp),fun k=>absurd k (by simp[iE]),fun k=>absurd k (by simp),fun _=>⟨rfl,rfl,rfl,rfl⟩,fun k=>absurd k (by simp)⟩
     show(p_ (m.a i) true p.s.bp p.s.dg).H=(cd (ce (c.a i).store.ao ks)).1.aj.bp/\(p_ (m.a i) true p.s.bp p.s.dg).D=(cd (ce (c.a i).store.ao ks)).1.aj.dg
     rw[su]
     cases hi:p.s.bp with
     |true=>rw[Jn];exact⟨rfl,rfl⟩
     |false=>rw[zT];exact⟨rfl,rfl⟩
    ·rw[a2];exact(Nq.refl _).tn h.b fun a=>by unfold MX;rw[a2,a];rfl
    ·rw[a1,a2]
     refine(g0.att (d:=p.s.dg) (fun k=>absurd k (by simp))).sub (fun v k=> ?_) (fun v k=>k)
     exact pJ (n:=⟨(c.a i).id,true,(cd (ce (c.a i).store.ao ks)).1,false,0,0,fQ,false,iE,false,0,0,false,(c.a i).aQ,(c.a i).bh⟩) rfl lv k
    ·rw[a1,a2];exact⟨rfl,(h.dn hlk).2⟩
theorem QG.sd{o:Nd}{tn:List ByteArray}{w:Rq}(s:QG i B n o x y k tn to p q Q W)(t:TN n x w):Sd B n p x w:=by
 have st:=s.d.a.st
 have r1:=s.d.a.X8
 have p1:=s.d.a.Aq
 simp only[di] at st r1 p1
 refine⟨s.un,by omega,s.ln,by rw[<-s.ln.su];exact t.hd s.un,fun h=>(p1 h).2.2,fun h=>⟨t.wt h,(r1 h).2.1,n.bL.block.toNat,?_,(r1 h).2.2.2.2.2.1,(r1 h).2.2.2.2.1,(r1 h).2.2.2.1⟩⟩
 have:=s.wn.2 h
 omega
theorem abn{d:Cl}{e:bg}{n2 o:Nd}{M1:Mm}(d1:d.a i=n2)(d2:d.a (!i)=(sA o).1)(dl:d.ai.up=false)(st:n2.ag=0)(mt:n2.bZ=false)(g:G2 B V (One q) (M1.a i) (M1.a (!i)) false false)(hV:∀v,Vw n2 v->∃w,V w/\oa v w)(tn:∀w,TN n2 (M1.a i) w)(sd:Sd B o q (M1.a (!i)) (M1.w (!i)))(oid:o.id=oi (!i))(dr:∀g∈o.aQ,g≠0/\jO g)(fr:∀g∈o.aQ,∀v,V v->v.s.bp=false->zS g v.s.v)(sh:Shp B M M1)(he:e.ae≠4)(h9:e.ae=9->e.node≠oi (!i)\/o.bL.on=false):Po i B d ((sA o).2.foldl (bG e) M1)/\((sA o).2.foldl (bG e) M1).cg=M1.cg:=by
 have k:=Zp (i:=!i) (by rw[lF];exact g) sd oid dr fr sh he h9
 obtain⟨kg,ko,kt,kl,klo,kst⟩:=k
 rw[lF] at kg ko
 generalize (sA o).2.foldl (bG e) M1=X at*
 have e1:wM X d i=M1.a i:=by unfold wM;rw[d1,ko];exact(tn iE).p_
 have e2:wM X d (!i)=p_ (X.a (!i)) (sA o).1.up (sA o).1.store.aj.bp (sA o).1.store.aj.dg:=by unfold wM;rw[d2]
 refine⟨⟨by rw[d1,ko];exact(tn iE).lo,by rw[d2];exact kl,?_⟩,klo⟩
 rw[e1,e2]
 refine⟨?_,?_,?_,fun _=> ?_,fun h=>absurd (dl.symm.trans h) (by simp)⟩
 ·rw[d1];exact tn _
 ·rw[d2];exact kt _
 ·rw[d1,d2,mt,<-ko]
  exact kg.MU hV (fun v h=>⟨v,h,oa.refl v⟩)
 ·rw[d1,d2];exact⟨st,kst⟩
theorem Zq(h:qV n):wJ n.id (sA n).2:=by
 unfold sA
 cases n.up
 ·exact wJ.nil _
 ·exact(LM h).ow
theorem acQ(m:Nd):sA (dz m)=(dz m,[]):=rfl
theorem VU(i:Bool)(l:List Ou):Gm i [] l=l:=by cases i<;>simp[Gm]
theorem Zr(h:wJ (oi (!i)) l):dC l (oi i)=false:=by
 unfold dC
 rw[pf]
 intro o ho
 rw[h o ho]
 cases i<;>simp[oi]
theorem Zs(a b:List Ou)(p:Int):dC (a++b) p=(dC a p||dC b p):=by
 unfold dC
 rw[List.any_append]
theorem OK{e:bg}{a b:List Ou}(h:dC a e.node=dC b e.node):bU m c e a=bU m c e b:=by
 unfold bU
 rw[h]
variable{c':Cl}
theorem Jt{M':Nat}{M1:Mm}{e:bg}{y:Nd×List Ou}(h:uE i B c m)(cx:Cx B M c m)(OA:∀j,qV (c.a j))(s:QG i B (c.a i) (c.a (!i)) (m.a i) (m.a (!i)) c.ai.bd (c.ai.t i) (c.ai.t (!i)) p q Q W)(hc:c'.a (!i)=c.a (!i))(hu:c'.ai.up=true)(hn:e.node=oi i)(h4:e.ae≠4)(hf:kV n y l vs)(hM:(a_ l).foldl (bG e) (bU m c e (a_ l))=M1)(hL:M1.cg=m.cg)(sh:Shp B M' M1)(hw:M1.w (!i)=m.w (!i))(hH:(M1.a (!i)).H=(m.a (!i)).H/\(M1.a (!i)).D=(m.a (!i)).D)(g:G2 B (· ∈vs) (One q) (M1.a i) (M1.a (!i)) false false)(fr:∀g∈(c.a (!i)).aQ,∀v,v∈vs->v.s.bp=false->zS g v.s.v):qN i B m c e (aW c' (oi i) y.1 y.2):=by
 obtain⟨m',e1,_,hp⟩:=hf
 rw[e1]
 obtain⟨a1,a2,a3,a4⟩:=HA hu i (n:=dz m') (l:=l) (af rfl)
 rw[hc] at a2 a4
 rw[acQ] at a1 a4
 simp only[VU] at a4
 have sd0:=s.B5.sd h.b
 have sd:Sd B (c.a (!i)) q (M1.a (!i)) (M1.w (!i)):=⟨sd0.up,sd0.st,sd0.lv,by rw[hH.1,hH.2];exact sd0.hd,sd0.pr,by rw[hw];exact sd0.rq⟩
 have ho:wJ (oi (!i)) (sA (c.a (!i))).2:=by have:=Zq (OA (!i));rw[cx.id] at this;exact this
 have key:=abn (e:=e) a1 a2 a3 rfl rfl g (fun v k=>hp v (Jq k)) (fun w=>TN.down _ _ _) sd (cx.id _) (cx.dr _) fr sh h4 (fun _=>af (by rw[hn];cases i<;>simp[oi]))
 refine⟨_,?_,key.2.trans hL,key.1⟩
 rw[a4,rP,OK (b:=a_ l) (by rw[hn,Zs,Zr ho,Bool.or_false]),hM]
theorem Zt(i:Bool)(a b:List Ou):Gm (!i) b a=Gm i a b:=by cases i<;>rfl
theorem abo{d:Cl}{e:bg}(h:uE i B c m)(cx:Cx B M c m)(s:QG i B (c.a i) (c.a (!i)) (m.a i) (m.a (!i)) c.ai.bd (c.ai.t i) (c.ai.t (!i)) p q Q W)(d1:d.a i=(sA (c.a i)).1)(d2:d.a (!i)=(sA (c.a (!i))).1)(dl:d.ai.up=false)(h4:e.ae≠4)(hq:(c.a i).bL.on=false)(h9:e.ae=9->e.node≠oi (!i)\/(c.a (!i)).bL.on=false):
 Po i B d ((sA (c.a (!i))).2.foldl (bG e) m)/\((sA (c.a (!i))).2.foldl (bG e) m).cg=m.cg/\CO (sA (c.a i)).2:=by
 have sn:=s.sd h.a
 have so:=s.B5.sd h.b
 obtain⟨l1,l2⟩:=(VQ sn (cx.dr i)).2 hq
 have g0:G2 B (One p) (One q) (m.a i) (m.a (!i)) false false:=(h.g.sub (fun v k=>by rw[k];exact nV s.un s.ln) (fun v k=>by rw[k];exact nV s.uo s.lo)).mt (fun k=>absurd k (by simp)) (fun k=>absurd k (by simp))
 have key:=abn (e:=e) (n2:=ei (c.a i)) (V:=One p) (d1.trans l1) d2 dl rfl rfl g0 (fun v k=>⟨p,rfl,by rw[pJ (n:=ei (c.a i)) s.un s.ln k];exact oa.refl _⟩)
  (fun w=>Js (n:=c.a i) (r:=(c.a i).aQ) (l:=(c.a i).bh) (b:=false) s.un s.ln sn.hd sn.pr (fun k=>absurd k (by simp))) so (cx.id _) (cx.dr _) (fun g hg v k hi=>cx.fr _ g hg i v (by rw[k];exact nV s.un s.ln) hi) cx.sh h4 h9
 exact⟨key.1,key.2,l2⟩
theorem VV{e:bg}{r:Cl×List Ou}{ko:List Ou}(h:uE i B c m)(cx:Cx B M c m)(s:QG i B (c.a i) (c.a (!i)) (m.a i) (m.a (!i)) c.ai.bd (c.ai.t i) (c.ai.t (!i)) p q Q W)(d1:r.1.a i=(sA (c.a i)).1)(d2:r.1.a (!i)=(sA (c.a (!i))).1)(dl:r.1.ai.up=false)(ho:r.2=ko++Gm i (sA (c.a i)).2 (sA (c.a (!i))).2)(hk:CO ko)(hn:e.node=oi i)(h5:e.ae≠5)(h4:e.ae≠4)(h9:e.ae=9->(c.a i).bL.on=false):qN i B m c e r:=by
 have ne:oi i≠oi (!i):=by cases i<;>simp[oi]
 cases hq:(c.a i).bL.on with
 |false=>
  obtain⟨k1,k2,k3⟩:=abo h cx s d1 d2 dl h4 hq (fun _=>af (by rw[hn];exact ne))
  refine⟨_,?_,k2,k1⟩
  rw[ho,qc h5,rP,qa hk,L9 k3]
 |true=>
  have r1:=s.d.a.X8
  have r2:=s.d.a.pr2
  have r3:=s.d.b.X8
  simp only[di] at r1 r2 r3
  have oq:(c.a (!i)).bL.on=false:=by
   cases Uc:(c.a (!i)).bL.on with
   |false=>rfl
   |true=>
    have a1:=r1 hq
    have a2:=r2 a1.2.1 (af (by omega))
    exact absurd ((r3 Uc).2.1.symm.trans a2) (by simp)
  have h9':e.ae≠9:=fun k=>absurd (hq.symm.trans (h9 k)) (by simp)
  have hs:uE (!i) B c m:=by
   have:=h.B5
   unfold uE
   rw[lF]
   exact this
  have ss:=s.B5
  have key:=abo (i:=!i) (d:=r.1) (e:=e) hs cx (by rw[lF];exact ss) d2 (by rw[lF];exact d1) dl h4 oq (fun k=>absurd k h9')
  rw[lF] at key
  obtain⟨k1,k2,k3⟩:=key
  refine⟨_,?_,k2,?_⟩
  ·rw[ho,qc h5,rP,qa hk,<-Zt,L9 k3]
  ·have:=k1.B5
   rw[lF] at this
   exact this
variable{Q':List Pq}
theorem agX{e:bg}{W':List Pq}{xf:Mh}(h:uE i B c m)(s:QG i B (c.a i) (c.a (!i)) (m.a i) (m.a (!i)) c.ai.bd (c.ai.t i) (c.ai.t (!i)) p q Q W)(hc:c'.a (!i)=c.a (!i))(hu:c'.ai.up=true)(un:n'.up=true)(ly:d6 l=false)(hX:(a_ l).foldl (bG e) (bU m c e (a_ l))=X)(hL:X.cg=m.cg)(hw:(c.a (!i)).bL.on=true->X.w (!i)=m.w (!i))(hwn:n'.bL.on=true->X.w i=n'.bL)(lv:Lv n'.store p')(hxf:p_ (X.a i) true p'.s.bp p'.s.dg=xf)(hH:(X.a (!i)).H=q.s.bp/\(X.a (!i)).D=q.s.dg)(Cb:Lo (X.a i) true p'.s.bp)(g:G2 B (One p') (One q) xf (X.a (!i)) false false)(pr:n'.aN=true->p'.s.bp=false)(hs:QG i B n' (c.a (!i)) xf (X.a (!i)) c'.ai.bd (c'.ai.t i) (c'.ai.t (!i)++rJ l) p' q Q' W'):qN i B m c e (aW c' (oi i) n' l):=by
 obtain⟨a1,a2,a3,a4,a5,a6,a7⟩:=Ff hu i (n:=n') (l:=l) un ly
 rw[hc] at a2
 have st:=hs.d.a.st
 simp only[di] at st
 have e1:wM X (aW c' (oi i) n' l).1 i=xf:=by unfold wM;rw[a1,un,lv.su];exact hxf
 have e2:wM X (aW c' (oi i) n' l).1 (!i)=X.a (!i):=by unfold wM;rw[a2,s.lo.su];exact ta hH.1 hH.2 _
 refine⟨X,by rw[a7];exact hX,hL,by rw[a1,un,lv.su];exact Cb,by rw[a2,s.lo.su];exact uq hH.1,?_⟩
 rw[e1,e2]
 have xi:xf.H=p'.s.bp/\xf.D=p'.s.dg:=by
  rw[<-hxf]
  cases hi:p'.s.bp with
  |true=>rw[Jn];exact⟨rfl,rfl⟩
  |false=>rw[zT];exact⟨rfl,rfl⟩
 refine⟨?_,?_,?_,fun k=>absurd (a3.symm.trans k) (by simp),fun _=>⟨p',q,Q',W',?_⟩⟩
 ·rw[a1]
  refine⟨fun _=>⟨p',lv⟩,fun _=>by rw[lv.su];exact xi,fun k=>absurd (hs.mn.symm.trans k) (by simp),fun k=>⟨un,by rw[lv.su];exact pr k⟩,fun k=> ?_,fun k=>absurd (un.symm.trans k) (by simp),fun k=>absurd k (by omega),fun k=>absurd (un.symm.trans k) (by simp)⟩
  unfold MX
  rw[a1,k]
  exact hwn k
 ·rw[a2]
  have tb:=h.b
  refine⟨tb.lv,fun _=>by rw[s.lo.su];exact hH,tb.mt,tb.pr,fun k=> ?_,tb.dn,tb.off,tb.sb⟩
  unfold MX
  rw[a2,k]
  exact(hw k).trans (tb.wt k)
 ·rw[a1,a2,hs.mn,hs.mo]
  exact g.sub (fun v k=>pJ un lv k) (fun v k=>pJ s.uo s.lo k)
 ·rw[a1,a2,a4,a5,a6]
  exact hs
theorem D2.VX{n:Sn}(h:D2 B i n o Q W mn mo bn bo){x:ByteArray}{m:BitVec 32}(hp:n.cH=true)(hr:n.on=false)(hs:n.st=2\/n.st=3)(hb:b<B)(hx:x.size=8)(hm:Sub n.p.m m)(hmb:m.getLsbD b=true)(e1:∀c y,mn c y->X9 c y)(e2:∀c y,mo c y->mo' c y)(e3:∀c y,bn c y->OB c y)(e4:∀c y,bo c y->Ze c y)(hbn:OB b x)(hbo:Ze b x):
 D2 B i {n with on:=true,rb:=b,rx:=x,p:=⟨n.p.s,m,iG n.p.x b x⟩} o Q (W++[.data b x]) X9 mo' OB Ze:=by
 obtain⟨ha,m9⟩:=h
 cases ha
 cases m9
 constructor
 all_goals constructor<;>first|assumption|grind[gX,Sub,du,gR,fD,iU,mg,gS,jw,jc,mh,gD,mj,lw,lR,jx,jy,g8,dV,fh,d8,fe,ff,fg,eT,eC,eV,gU,gd,gV,gW,gc,eq,fw,kE,ic,fx,kq,oZ,iH,fM,iK,eJ,fW,fc,dW,dX,dv,fj,fm,d9,fk,fq,dY,ml,gY,gZ,mm,jz,g9]
theorem D2.asks{n:Sn}(h:D2 B i n o Q W mn mo bn bo)(hp:n.cH=false)(hs:n.st=2\/n.st=3)(ha:n.ask=false)(hq:n.A8=false)(hi:n.p.s.bp=false):
 D2 B i {n with ask:=true} o Q (W++[.ask]) mn mo bn bo:=by
 obtain⟨ha,m9⟩:=h
 cases ha
 cases m9
 constructor
 all_goals constructor<;>first|assumption|grind[gX,Sub,du,gR,fD,iU,mg,gS,jw,jc,mh,gD,mj,lw,lR,jx,jy,g8,dV,fh,d8,fe,ff,fg,eT,eC,eV,gU,gd,gV,gW,gc,eq,fw,kE,ic,fx,kq,oZ,iH,fM,iK,eJ,fW,fc,dW,dX,dv,fj,fm,d9,fk,fq,dY,ml,gY,gZ,mm,jz,g9]
theorem D2.OL{n:Sn}(h:D2 B i n o Q W mn mo bn bo){s:Su}(hp:n.cH=true)(hr:n.on=false)(hs:n.st=2\/n.st=3)(hv:s.v=n.p.s.v)(hi:s.bp=n.p.s.bp):
 D2 B i {n with cH:=false,p:=⟨s,n.p.m,n.p.x⟩} o Q (W++[.vQ]) mn mo bn bo:=by
 obtain⟨ha,m9⟩:=h
 cases ha
 cases m9
 constructor
 all_goals constructor<;>first|assumption|grind[gX,Sub,du,gR,fD,iU,mg,gS,jw,jc,mh,gD,mj,lw,lR,jx,jy,g8,dV,fh,d8,fe,ff,fg,eT,eC,eV,gU,gd,gV,gW,gc,eq,fw,kE,ic,fx,kq,oZ,iH,fM,iK,eJ,fW,fc,dW,dX,dv,fj,fm,d9,fk,fq,dY,ml,gY,gZ,mm,jz,g9]
theorem D2.none{n:Sn}(h:D2 B i n o (.aw H::Q) W mn mo bn bo){s:Su}(hs:n.st=1)(hv:rl i n.cX H=1)(hpr:n.cH=true->H.cH=true->False)(XY:s.v=bP n.p.s.v)(hsi:s.bp=n.p.s.bp):
 D2 B i {n with st:=2,A8:=H.cH,eQ:=H,p:=⟨s,n.p.m,n.p.x⟩} o Q W mn mo bn bo:=by
 obtain⟨ha,m9⟩:=h
 cases ha
 cases m9
 constructor
 all_goals constructor<;>first|assumption|grind[gX,Sub,du,gR,fD,iU,mg,gS,jw,jc,mh,gD,mj,lw,lR,jx,jy,g8,dV,fh,d8,fe,ff,fg,eT,eC,eV,gU,gd,gV,gW,gc,eq,fw,kE,ic,fx,kq,oZ,iH,fM,iK,eJ,fW,fc,dW,dX,dv,fj,fm,d9,fk,fq,dY,ml,gY,gZ,mm,jz,g9]
theorem D2.VY{n:Sn}(h:D2 B i n o (.aw H::Q) W mn mo bn bo){m:BitVec 32}(hs:n.st=1)(hv:rl i n.cX H=2)(hpr:n.cH=true->H.cH=true->False)(hm:∀c,m.getLsbD c=(n.p.m.getLsbD c||(qK i n.cX H).getLsbD c))(h5:o.st=1->∀b,b<B->o.p.m.getLsbD b=true\/(qK i n.cX H).getLsbD b=true\/mn b (o.p.x b)):
 D2 B i {n with st:=3,A8:=H.cH,eQ:=H,p:=⟨n.p.s,m,n.p.x⟩} o Q W mn mo bn bo:=by
 obtain⟨ha,m9⟩:=h
 cases ha
 cases m9
 constructor
 all_goals constructor<;>first|assumption|grind[gX,Sub,du,gR,fD,iU,mg,gS,jw,jc,mh,gD,mj,lw,lR,jx,jy,g8,dV,fh,d8,fe,ff,fg,eT,eC,eV,gU,gd,gV,gW,gc,eq,fw,kE,ic,fx,kq,oZ,iH,fM,iK,eJ,fW,fc,dW,dX,dv,fj,fm,d9,fk,fq,dY,ml,gY,gZ,mm,jz,g9]
theorem D2.target{n:Sn}(h:D2 B i n o (.aw H::Q) W mn mo bn bo){m:BitVec 32}{s:Su}{c:Nat}(hs:n.st=1)(hv:rl i n.cX H=3)(hp:n.cH=false)(hm:∀c,m.getLsbD c=(n.p.m.getLsbD c||(qK i n.cX H).getLsbD c))(hsi:s.bp=true)(hc:c<B)(h5:o.st=1->∀b,b<B->n.p.m.getLsbD b=true\/(qK i n.cX H).getLsbD b=true\/mo b (n.p.x b)):
 D2 B i {n with st:=4,A8:=H.cH,eQ:=H,X7:=c+1,p:=⟨s,m,n.p.x⟩} o Q (W++[.m_ c]) mn mo bn bo:=by
 obtain⟨ha,m9⟩:=h
 cases ha
 cases m9
 constructor
 all_goals constructor<;>first|assumption|grind[gX,Sub,du,gR,fD,iU,mg,gS,jw,jc,mh,gD,mj,lw,lR,jx,jy,g8,dV,fh,d8,fe,ff,fg,eT,eC,eV,gU,gd,gV,gW,gc,eq,fw,kE,ic,fx,kq,oZ,iH,fM,iK,eJ,fW,fc,dW,dX,dv,fj,fm,d9,fk,fq,dY,ml,gY,gZ,mm,jz,g9]
theorem D2.Zu{n:Sn}(h:D2 B i n o (.aw H::Q) W mn mo bn bo){m:BitVec 32}{s:Su}(hsi:s.bp=false)(XY:s.v=bP H.v)(hs:n.st=1)(hv:rl i n.cX H=3)(hp:n.cH=false)(e3:∀c y,bn c y->bo c y->OB c y):
 D2 B i {n with st:=4,A8:=H.cH,eQ:=H,p:=⟨s,m,n.p.x⟩} o Q (W++[.uB]) X9 mo OB bo:=by
 obtain⟨ha,m9⟩:=h
 cases ha
 cases m9
 constructor
 all_goals constructor<;>first|assumption|grind[gX,Sub,du,gR,fD,iU,mg,gS,jw,jc,mh,gD,mj,lw,lR,jx,jy,g8,dV,fh,d8,fe,ff,fg,eT,eC,eV,gU,gd,gV,gW,gc,eq,fw,kE,ic,fx,kq,oZ,iH,fM,iK,eJ,fW,fc,dW,dX,dv,fj,fm,d9,fk,fq,dY,ml,gY,gZ,mm,jz,g9]
theorem D2.data{n:Sn}{x:ByteArray}(h:D2 B i n o (.data b x::Q) W mn mo bn bo){m:BitVec 32}(hbm:∀c y,bo c y->mo c y)(hm:Sub n.p.m m)(hmb:m.getLsbD b=true):
 D2 B i {n with p:=⟨n.p.s,m,iG n.p.x b x⟩} o Q (W++[.Jf b]) mn mo bn bo:=by
 obtain⟨ha,m9⟩:=h
 cases ha
 cases m9
 constructor
 all_goals constructor<;>first|assumption|grind[gX,Sub,du,gR,fD,iU,mg,gS,jw,jc,mh,gD,mj,lw,lR,jx,jy,g8,dV,fh,d8,fe,ff,fg,eT,eC,eV,gU,gd,gV,gW,gc,eq,fw,kE,ic,fx,kq,oZ,iH,fM,iK,eJ,fW,fc,dW,dX,dv,fj,fm,d9,fk,fq,dY,ml,gY,gZ,mm,jz,g9]
structure Sc(i:Bool)(B M:Nat)(c:Cl)(m:Mm)(p q:Pv)(Q W:List Pq):Prop where
 h:uE i B c m
 cx:Cx B M c m
 OA:∀j,qV (c.a j)
 lu:c.ai.up=true
 s:QG i B (c.a i) (c.a (!i)) (m.a i) (m.a (!i)) c.ai.bd (c.ai.t i) (c.ai.t (!i)) p q Q W
section
variable{i:Bool}{B M:Nat}{c:Cl}{m:Mm}{p q:Pv}{Q W:List Pq}
theorem Sc.g(S:Sc i B M c m p q Q W):G2 B (One p) (One q) (m.a i) (m.a (!i)) false false:=
 (S.h.g.sub (fun v k=>by rw[k];exact nV S.s.un S.s.ln) (fun v k=>by rw[k];exact nV S.s.uo S.s.lo)).mt (fun k=>absurd k (by simp)) (fun k=>absurd k (by simp))
theorem Sc.xh(S:Sc i B M c m p q Q W):(m.a i).H=p.s.bp/\(m.a i).D=p.s.dg:=by rw[<-S.s.ln.su];exact S.h.a.hd S.s.un
theorem Sc.yh(S:Sc i B M c m p q Q W):(m.a (!i)).H=q.s.bp/\(m.a (!i)).D=q.s.dg:=by rw[<-S.s.lo.su];exact S.h.b.hd S.s.uo
theorem Sc.fo(S:Sc i B M c m p q Q W){g:Int}(hg:g∈(c.a (!i)).aQ):(p.s.bp=false->zS g p.s.v)/\(q.s.bp=false->zS g q.s.v):=
 ⟨fun k=>S.cx.fr _ g hg i p (nV S.s.un S.s.ln) k,fun k=>S.cx.fr _ g hg (!i) q (nV S.s.uo S.s.lo) k⟩
theorem Sc.st(S:Sc i B M c m p q Q W):(c.a i).ag=1\/(c.a i).ag=2\/(c.a i).ag=3\/(c.a i).ag=4:=S.s.d.a.st
theorem Sc.go{e:bg}{news:List Pq}{xf:Mh}(S:Sc i B M c m p q Q W)(hc:c'.a (!i)=c.a (!i))(hu:c'.ai.up=true)(hk:c'.ai.bd=c.ai.bd)(ht:c'.ai.t i=Q'.map (Ji c.ai.bd))(hrq:∀a∈Q',TQ a)(ht2:c'.ai.t (!i)=c.ai.t (!i))(un:n'.up=true)(ly:d6 l=false)(VZ:rJ l=news.map (Ji c.ai.bd))(pH:∀a∈news,TQ a)(hX:(a_ l).foldl (bG e) (bU m c e (a_ l))=X)(hL:X.cg=m.cg)(hw:(c.a (!i)).bL.on=true->X.w (!i)=m.w (!i))(hwn:n'.bL.on=true->X.w i=n'.bL)(lv:Lv n'.store p')(bl:p'.s.an=p.s.an)(bd:n'.bd=(c.a i).bd)(mt:n'.bZ=false)(wn:0<=n'.wanted/\(n'.bL.on=true->0<=n'.bL.block))(hxf:p_ (X.a i) true p'.s.bp p'.s.dg=xf)(hH:(X.a (!i)).H=q.s.bp/\(X.a (!i)).D=q.s.dg)(Cb:Lo (X.a i) true p'.s.bp)(g:G2 B (One p') (One q) xf (X.a (!i)) false false)(pr:n'.aN=true->p'.s.bp=false)(cq:Cq (di n' p') (di (c.a (!i)) q))(d:D2 B i (di n' p') (di (c.a (!i)) q) Q' (W++news) (MV (X.a (!i)) xf) (MV xf (X.a (!i))) (HB xf.A) (HB (X.a (!i)).A)):qN i B m c e (aW c' (oi i) n' l):=by
 refine agX S.h S.s hc hu un ly hX hL hw hwn lv hxf hH Cb g pr (Q':=Q') (W':=W++news) ?_
 rw[hk,ht,ht2,VZ]
 have s:=S.s
 refine⟨un,s.uo,bd.trans s.sn,s.so,s.rk,lv,s.lo,by rw[bl];exact s.bn,s.bo,rfl,?_,hrq,fun a ha=> ?_,wn,s.wo,mt,s.mo,cq,d⟩
 ·rw[s.to,fA]
 ·rcases df.1 ha with ha|ha
  ·exact s.rw a ha
  ·exact pH a ha
theorem Sc.Mc{e:bg}{news:List Pq}(S:Sc i B M c m p q Q W)(hc:c'.a (!i)=c.a (!i))(hu:c'.ai.up=true)(hk:c'.ai.bd=c.ai.bd)(ht:c'.ai.t i=Q'.map (Ji c.ai.bd))(hrq:∀a∈Q',TQ a)(ht2:c'.ai.t (!i)=c.ai.t (!i))(un:n'.up=true)(ly:d6 l=false)(VZ:rJ l=news.map (Ji c.ai.bd))(pH:∀a∈news,TQ a)(hX:(a_ l).foldl (bG e) (bU m c e (a_ l))=m)(hrn:n'.bL.on=true->(c.a i).bL=n'.bL)(lv:Lv n'.store p')(bl:p'.s.an=p.s.an)(bd:n'.bd=(c.a i).bd)(mt:n'.bZ=false)(wn:0<=n'.wanted)(bp:p'.s.bp=p.s.bp)(dg:p'.s.dg=p.s.dg)(g:G2 B (One p') (One q) (m.a i) (m.a (!i)) false false)(pr:n'.aN=true->p'.s.bp=false)(cq:Cq (di n' p') (di (c.a (!i)) q))(d:D2 B i (di n' p') (di (c.a (!i)) q) Q' (W++news) (MV (m.a (!i)) (m.a i)) (MV (m.a i) (m.a (!i))) (HB (m.a i).A) (HB (m.a (!i)).A)):qN i B m c e (aW c' (oi i) n' l):=by
 have xh:=S.xh
 refine S.go (X:=m) (xf:=m.a i) hc hu hk ht hrq ht2 un ly VZ pH hX rfl (fun _=>rfl) (fun k=> ?_) lv bl bd mt ⟨wn,fun k=> ?_⟩ (ta (by rw[bp];exact xh.1) (by rw[dg];exact xh.2) true) S.yh (uq (by rw[bp];exact xh.1)) g pr cq d
 ·have hr:=hrn k
  rw[<-hr]
  exact S.h.a.wt (by rw[hr];exact k)
 ·have hr:=hrn k
  rw[<-hr]
  exact S.s.wn.2 (by rw[hr];exact k)
theorem Sc.w7{e:bg}{y:Nd×List Ou}(S:Sc i B M c m p q Q W)(hc:c'.a (!i)=c.a (!i))(hu:c'.ai.up=true)(hn:e.node=oi i)(h4:e.ae≠4)(hf:kV n y l vs)(hM:(a_ l).foldl (bG e) (bU m c e (a_ l))=m)(g:G2 B (· ∈vs) (One q) (m.a i) (m.a (!i)) false false)(fr:∀g∈(c.a (!i)).aQ,∀v,v∈vs->v.s.bp=false->zS g v.s.v):qN i B m c e (aW c' (oi i) y.1 y.2):=
 Jt S.h S.cx S.OA S.s hc hu hn h4 hf hM rfl S.cx.sh rfl ⟨rfl,rfl⟩ g fr
theorem zY(h:n.bd=k)(a:Pq):rJ [o5 n a]=[a].map (Ji k)/\d6 [o5 n a]=false/\a_ [o5 n a]=[]:=by
 subst h
 exact⟨rfl,rfl,rfl⟩
theorem Sc.su(S:Sc i B M c m p q Q W)(k:SD p.s s'):G2 B (One ⟨s',p.m,p.x⟩) (One q) (m.a i) (m.a (!i)) false false/\G2 B (· ∈[p,⟨s',p.m,p.x⟩]) (One q) (m.a i) (m.a (!i)) false false:=by
 have g1:=S.g.su k
 exact⟨g1.sub (fun v k=>ab k) (fun _ k=>k),g1.sub (fun v k=>vU k) (fun _ k=>k)⟩
theorem Sc.fr2(S:Sc i B M c m p q Q W)(k:SD p.s s'):∀g∈(c.a (!i)).aQ,∀v,v∈[p,⟨s',p.m,p.x⟩]->v.s.bp=false->zS g v.s.v:=by
 intro g hg v hv hi
 rcases vU hv with rfl|rfl
 ·exact(S.fo hg).1 hi
 ·have:=(S.fo hg).1 (by rw[<-k.i];exact hi)
  rcases k.v with e|e
  ·show zS g s'.v
   rw[e];exact this
  ·show zS g s'.v
   rw[e];exact Jl this
theorem Sc.Zv{e:bg}(S:Sc i B M c m p q Q W)(hn:e.node=oi i)(h5:e.ae≠5)(id:Int):qN i B m c e (aW c (oi i) (cj (c.a i) id).1 (cj (c.a i) id).2):=by
 have s:=S.s
 have st:=S.st
 rcases Fa s.un s.ln id with⟨er,he,e1⟩|⟨h1,h2,h3,h4,h6,e1⟩|⟨_,_,k1,k2,k3,k4,_⟩
 ·rw[e1];exact Cj S.h S.cx hn he
 ·rw[e1]
  obtain⟨t1,t2,t3⟩:=zY s.sn .ask
  refine S.Mc (Q':=Q) (news:=[.ask]) (p':=p) (n':={c.a i with cb:=true,bM:=id}) rfl S.lu rfl s.tn s.rq rfl s.un t2 t1 (fun a ha=>by simp at ha;rw[ha];trivial) (by rw[t3,qc h5];rfl) (fun _=>rfl) s.ln rfl rfl s.mn s.wn.1 rfl rfl S.g (fun k=>absurd (h1.symm.trans k) (by simp)) s.cq ?_
  exact s.d.asks h1 h6 h3 h4 h2
 ·omega
theorem Sc.OL{e:bg}(S:Sc i B M c m p q Q W)(hn:e.node=oi i)(h5:e.ae≠5)(h4:e.ae≠4)(id:Int):qN i B m c e (aW c (oi i) (dN (c.a i) id).1 (dN (c.a i) id).2):=by
 have s:=S.s
 have st:=S.st
 have ks:SD p.s {p.s with cH:=false}:=⟨rfl,af rfl,fun k=>k⟩
 obtain⟨g1,g2⟩:=S.su ks
 rcases Hx s.un s.ln id with⟨er,he,e1⟩|⟨h1,h2,h3,⟨t,e1,k⟩|k⟩
 ·rw[e1];exact Cj S.h S.cx hn he
 ·have p1:=s.d.a.Aq
  simp only[di] at p1
  have p2:=p1 h1
  have sH:(c.a i).ag=2\/(c.a i).ag=3:=by omega
  rw[aP sH] at e1
  rw[e1]
  obtain⟨t1,t2,t3⟩:=zY s.sn .vQ
  have hk:a_ ([o5 (c.a i) .vQ]++[ap (c.a i) id 0 ⟨#[]⟩])=[ap (c.a i) id 0 ⟨#[]⟩]:=rfl
  refine S.Mc (Q':=Q) (news:=[.vQ]) (p':=⟨{p.s with cH:=false},p.m,p.x⟩) (n':={c.a i with store:=t,aN:=false}) rfl S.lu rfl s.tn s.rq rfl s.un rfl (by rw[<-s.sn];rfl) (fun a ha=>by simp at ha;rw[ha];trivial) ?_ (fun _=>rfl) k rfl rfl s.mn s.wn.1 rfl rfl g1 (fun k=>absurd k (by simp)) s.cq ?_
  ·rw[hk,qc h5]
   refine CP fun o ho _ _=> ?_
   simp at ho
   rw[ho]
   show(zD m (c.a i).id).on=false
   rw[S.cx.id,zU,S.cx.won]
   exact h2
  ·exact s.d.OL (s:={p.s with cH:=false}) h1 h2 sH rfl rfl
 ·exact S.w7 (n:=c.a i) rfl S.lu hn h4 k (by rw[show a_ []=[] from rfl,qc h5];rfl) g2 (S.fr2 ks)
theorem Sc.discard{e:bg}(S:Sc i B M c m p q Q W)(hn:e.node=oi i)(id:Int):qN i B m c e (aW c (oi i) (dj (c.a i) id).1 (dj (c.a i) id).2):=by
 have s:=S.s
 have st:=S.st
 rcases Fb s.un s.ln id with⟨er,he,e1⟩|⟨h0,_⟩
 ·rw[e1];exact Cj S.h S.cx hn he
 ·omega
theorem V0{a:Vl}(h:VL N a)(hb:b<N){z:ByteArray}(k:HB a b z):my a b z:=by
 unfold HB at k
 unfold my IV
 rw[h.a,cJ hb,M3,cJ k,Bool.or_true]
 rfl
theorem Sc.VX{e:bg}(S:Sc i B M c m p q Q W)(hn:e.node=oi i)(h5:e.ae=5):qN i B m c e (aW c (oi i) (cD (c.a i) e.id e.block e.data).1 (cD (c.a i) e.id e.block e.data).2):=by
 have s:=S.s
 have st:=S.st
 have cx:=S.cx
 have xh:=S.xh
 have yh:=S.yh
 rcases L5 s.ln (cx.dr i) e.id e.block e.data with⟨er,he,e1⟩|⟨f1,f2,f3,f4,f5,b,hb,MW,⟨f6,k⟩|⟨f6,_⟩|⟨f6,_⟩⟩
 ·rw[e1];exact Cj S.h cx hn he
 ·have p1:=s.d.a.Aq
  simp only[di] at p1
  have p2:=p1 f2
  have sH:(c.a i).ag=2\/(c.a i).ag=3:=by omega
  have ng:b<32:=by have:=cx.b.2;have:=s.bn;omega
  have Mb:=MW
  rw[s.bn] at MW
  obtain⟨w1,w2,w3,w4⟩:=zX (cx.sh.v i) hb MW e.data
  obtain⟨v1,v2,v3,v4⟩:=zX (cx.sh.v (!i)) hb MW e.data
  have hH:(m.a i).H=false:=xh.1.trans p2.2.2
  have g1:=S.g.tE w1 v1
  have g2:=g1.lay (i:=b) (d:=e.data) ng (fun _=>by rw[acP hH];exact w2)
  obtain⟨r1,r2,r3,r4,r5,r6⟩:=Fg (m:=m) (c:=c) (e:=e) (l:=[]) h5 hn rfl
  rw[S.lu,bA] at r2
  have vb:=Fl (cx.sh.v i) (cx.sh.w i) e.block e.data
  have vb2:=Fl (cx.sh.v (!i)) (cx.sh.w (!i)) e.block e.data
  rcases k with⟨t,e1,k⟩|k
  ·rw[e1]
   obtain⟨t1,t2,t3⟩:=zY s.sn (.data b e.data)
   have hwi:(bU m c e []).w i=⟨true,e.id,(b:Int),e.data⟩:=by rw[r3,hb]
   refine S.go (Q':=Q) (news:=[.data b e.data]) (X:=bU m c e []) (xf:=(bU m c e []).a i) (p':=⟨p.s,lA p.m [(b:Int)],iG p.x b e.data⟩) (n':={c.a i with store:=t,bL:=⟨true,e.id,b,e.data⟩}) rfl S.lu rfl s.tn s.rq rfl s.un t2 t1 (fun a ha=>by simp at ha;rw[ha];exact⟨ng,f5⟩) (by rw[t3];rfl) r5 (fun _=>r4) (fun _=>hwi) k rfl rfl s.mn ⟨s.wn.1,fun _=>HS b⟩ ?_ ?_ ?_ ?_ (fun _=>p2.2.2) s.cq ?_
   ·rw[r1];exact ta (x:=⟨gC (m.a i).A e.block e.data,(m.a i).S,(m.a i).H,(m.a i).D⟩) xh.1 xh.2 true
   ·rw[r2];exact yh
   ·rw[r1];exact uq xh.1
   ·rw[r1,r2];exact g2.sub (fun v k=>by rw[k];exact wN) (fun _ k=>k)
   ·rw[r1,r2]
    have hm:=Jm p ng e.data
    have agZ:∀cc z,MV (m.a (!i)) (m.a i) cc z->MV ⟨gC (m.a (!i)).A e.block e.data,(m.a (!i)).S,(m.a (!i)).H,(m.a (!i)).D⟩ ⟨gC (m.a i).A e.block e.data,(m.a i).S,(m.a i).H,(m.a i).D⟩ cc z:=fun cc z h=>⟨w1.m _ _ h.1,fun hh=>by rw[w1.l,v1.l];exact h.2 hh⟩
    have ag0:∀cc z,MV (m.a i) (m.a (!i)) cc z->MV ⟨gC (m.a i).A e.block e.data,(m.a i).S,(m.a i).H,(m.a i).D⟩ ⟨gC (m.a (!i)).A e.block e.data,(m.a (!i)).S,(m.a (!i)).H,(m.a (!i)).D⟩ cc z:=fun cc z h=>⟨v1.m _ _ h.1,fun hh=>by rw[w1.l,v1.l];exact h.2 hh⟩
    exact s.d.VX (b:=b) (x:=e.data) (m:=lA p.m [(b:Int)]) f2 f3 sH MW f5 hm.m hm.mi agZ ag0 w4 v4 w3 v3
  ·refine Jt (M1:=bU m c e []) (n:=c.a i) (M':=M+1) S.h cx S.OA s rfl S.lu hn (by rw[h5];decide) k rfl r5 ⟨fun j=> ?_,fun j=> ?_,by rw[r6];exact cx.sh.c,by rw[r6];exact cx.sh.u⟩ r4 ?_ ?_ ?_
   ·by_cases e0:j=i
    ·subst e0;rw[r1];exact vb.1
    ·have e0:j=!i:=by cases j<;>cases i<;>simp_all
     subst e0;rw[r2];exact vb2.1
   ·rw[r6]
    by_cases e0:j=i
    ·subst e0;rw[r1];exact vb.2
    ·have e0:j=!i:=by cases j<;>cases i<;>simp_all
     subst e0;rw[r2];exact vb2.2
   ·rw[r2];exact⟨rfl,rfl⟩
   ·rw[r1,r2];exact g2
   ·intro g hg v hv hi
    have:v.s=p.s:=by
     simp only[vS,cM,mM,lV] at hv
     rcases hv with rfl|rfl|rfl<;>rfl
    rw[this] at hi ⊢
    exact(S.fo hg).1 hi
 ·omega
 ·omega
theorem Sc.ag1{e:bg}(S:Sc i B M c m p q Q W)(hn:e.node=oi i)(h4:e.ae≠4)(h5:e.ae≠5):qN i B m c e (aW c (oi i) (dz (c.a i)) []):=by
 have s:=S.s
 refine S.w7 (n:=c.a i) (y:=(dz (c.a i),[])) (l:=[]) (vs:=[p]) rfl S.lu hn h4 ⟨c.a i,rfl,rfl,fun q hq=>⟨p,by simp,s.ln.pot rfl rfl hq⟩⟩ (by rw[show a_ []=[] from rfl,qc h5];rfl) (S.g.sub (fun v k=>mK k) (fun _ k=>k)) (fun g hg v hv hi=> ?_)
 rw[mK hv] at hi ⊢
 exact(S.fo hg).1 hi
theorem Sc.cut{e:bg}{d:Cl}(S:Sc i B M c m p q Q W)(hd:∀j,d.a j=c.a j)(hn:e.node=oi i)(h4:e.ae≠4)(h5:e.ae≠5)(h9:e.ae≠9):qN i B m c e (f9 d):=by
 have a1:=Jo d i
 have a2:=Jo d (!i)
 rw[hd,hd] at a1
 rw[hd] at a2
 exact VV (ko:=[]) S.h S.cx S.s a1.1 a2.1 (by rw[a1.2.1];rfl) a1.2.2 CO.nil hn h5 h4 (fun k=>absurd k h9)
theorem Sc.close{e:bg}(S:Sc i B M c m p q Q W)(hc:c'.a (!i)=c.a (!i))(hu:c'.ai.up=true)(hn:e.node=oi i)(h4:e.ae≠4)(h5:e.ae≠5)(h9:e.ae=9->(c.a i).bL.on=false):qN i B m c e (aW c' (oi i) (c.a i) [e9 (c.a i)]):=by
 obtain⟨a1,a2,a3,a4⟩:=HA hu i (n:=c.a i) (l:=[e9 (c.a i)]) (ab rfl)
 rw[hc] at a2 a4
 exact VV (ko:=a_ [e9 (c.a i)]) S.h S.cx S.s a1 a2 a3 a4 (CO.one (fun k=>absurd k.1 (by simp[e9]))) hn h5 h4 h9
end
theorem D2.Jf{n:Sn}(h:D2 B i n o (.Jf b::Q) W mn mo bn bo){m:BitVec 32}{x:ByteArray}(hr:n.on=true)(TS:n.rb=b)(hrx:n.rx=x)(hm:∀c,m.getLsbD c=(n.p.m.getLsbD c&&decide (c≠b)))(e1:∀c y,X9 c y↔(c≠b/\mn c y)\/(c=b/\y=x))(e2:∀c y,mo' c y↔(c≠b/\mo c y)\/(c=b/\y=x))(e3:∀c y,c≠b->bn c y->OB c y)(e4:∀c y,c≠b->bo c y->Ze c y):
 D2 B i {n with on:=false,rb:=0,rx:=⟨#[]⟩,p:=⟨n.p.s,m,n.p.x⟩} o Q (W++[.m7 b]) X9 mo' OB Ze:=by
 obtain⟨ha,m9⟩:=h
 have hg:∀y, .n6 b y∈W->y=x:=by
  intro y hy
  have h1:=ha.X8 hr
  have h2:=m9.wg
  have h3:num fw W=0:=by have:=h1.1;rw[du] at this;simp[kE] at this;omega
  have h4:=m9.la b y (dV hy (by omega) h3)
  rw[h4,<-hrx,<-h1.2.2.2.1,TS]
 cases ha
 cases m9
 constructor
 all_goals constructor<;>first|assumption|grind[gX,Sub,du,gR,fD,iU,mg,gS,jw,jc,mh,gD,mj,lw,lR,jx,jy,g8,dV,fh,d8,fe,ff,fg,eT,eC,eV,gU,gd,gV,gW,gc,eq,fw,kE,ic,fx,kq,oZ,iH,fM,iK,eJ,fW,fc,dW,dX,dv,fj,fm,d9,fk,fq,dY,ml,gY,gZ,mm,jz,g9]
theorem D2.m7{n:Sn}(h:D2 B i n o (.m7 b::Q) W mn mo bn bo){m:BitVec 32}(hm:∀c,m.getLsbD c=(n.p.m.getLsbD c&&decide (c≠b))):
 D2 B i {n with p:=⟨n.p.s,m,n.p.x⟩} o Q W mn mo bn bo:=by
 obtain⟨ha,m9⟩:=h
 cases ha
 cases m9
 constructor
 all_goals constructor<;>first|assumption|grind[gX,Sub,du,gR,fD,iU,mg,gS,jw,jc,mh,gD,mj,lw,lR,jx,jy,g8,dV,fh,d8,fe,ff,fg,eT,eC,eV,gU,gd,gV,gW,gc,eq,fw,kE,ic,fx,kq,oZ,iH,fM,iK,eJ,fW,fc,dW,dX,dv,fj,fm,d9,fk,fq,dY,ml,gY,gZ,mm,jz,g9]
theorem D2.m_{n:Sn}(h:D2 B i n o (.m_ b::Q) W mn mo bn bo)(hmn:mn b (n.p.x b))(hz:(n.p.x b).size=8):
 D2 B i n o Q (W++[.n6 b (n.p.x b)]) mn mo bn bo:=by
 obtain⟨ha,m9⟩:=h
 cases ha
 cases m9
 constructor
 all_goals constructor<;>first|assumption|grind[gX,Sub,du,gR,fD,iU,mg,gS,jw,jc,mh,gD,mj,lw,lR,jx,jy,g8,dV,fh,d8,fe,ff,fg,eT,eC,eV,gU,gd,gV,gW,gc,eq,fw,kE,ic,fx,kq,oZ,iH,fM,iK,eJ,fW,fc,dW,dX,dv,fj,fm,d9,fk,fq,dY,ml,gY,gZ,mm,jz,g9]
theorem D2.n6{n:Sn}{x:ByteArray}(h:D2 B i n o (.n6 b x::Q) W mn mo bn bo){m:BitVec 32}{c:Nat}(hm:∀c,m.getLsbD c=(n.p.m.getLsbD c&&decide (c≠b)))(hc:c<B):
 D2 B i {n with X7:=c+1,p:=⟨n.p.s,m,iG n.p.x b x⟩} o Q ((W++[.zN b])++[.m_ c]) mn mo bn bo:=by
 obtain⟨ha,m9⟩:=h
 have hg:x=o.p.x b\/nf b Q=true:=Jg ha.la (by have:=ha.wg;omega)
 cases ha
 cases m9
 constructor
 all_goals constructor<;>first|assumption|grind[gX,Sub,du,gR,fD,iU,mg,gS,jw,jc,mh,gD,mj,lw,lR,jx,jy,g8,dV,fh,d8,fe,ff,fg,eT,eC,eV,gU,gd,gV,gW,gc,eq,fw,kE,ic,fx,kq,oZ,iH,fM,iK,eJ,fW,fc,dW,dX,dv,fj,fm,d9,fk,fq,dY,ml,gY,gZ,mm,jz,g9]
theorem D2.ag2{n:Sn}{x:ByteArray}(h:D2 B i n o (.n6 b x::Q) W mn mo bn bo){m:BitVec 32}{s:Su}(hsi:s.bp=false)(hm:∀c,m.getLsbD c=(n.p.m.getLsbD c&&decide (c≠b)))(e3:∀c y,bn c y->bo c y->OB c y):
 D2 B i {n with X7:=0,p:=⟨s,m,iG n.p.x b x⟩} o Q ((W++[.zN b])++[.uB]) X9 mo OB bo:=by
 obtain⟨ha,m9⟩:=h
 have hg:x=o.p.x b\/nf b Q=true:=Jg ha.la (by have:=ha.wg;omega)
 cases ha
 cases m9
 constructor
 all_goals constructor<;>first|assumption|grind[gX,Sub,du,gR,fD,iU,mg,gS,jw,jc,mh,gD,mj,lw,lR,jx,jy,g8,dV,fh,d8,fe,ff,fg,eT,eC,eV,gU,gd,gV,gW,gc,eq,fw,kE,ic,fx,kq,oZ,iH,fM,iK,eJ,fW,fc,dW,dX,dv,fj,fm,d9,fk,fq,dY,ml,gY,gZ,mm,jz,g9]
theorem D2.zN{n:Sn}(h:D2 B i n o (.zN b::Q) W mn mo bn bo){m:BitVec 32}(hr:n.on=true->n.rb≠b)(hm:∀c,m.getLsbD c=(n.p.m.getLsbD c&&decide (c≠b))):
 D2 B i {n with p:=⟨n.p.s,m,n.p.x⟩} o Q W mn mo bn bo:=by
 obtain⟨ha,m9⟩:=h
 cases ha
 cases m9
 constructor
 all_goals constructor<;>first|assumption|grind[gX,Sub,du,gR,fD,iU,mg,gS,jw,jc,mh,gD,mj,lw,lR,jx,jy,g8,dV,fh,d8,fe,ff,fg,eT,eC,eV,gU,gd,gV,gW,gc,eq,fw,kE,ic,fx,kq,oZ,iH,fM,iK,eJ,fW,fc,dW,dX,dv,fj,fm,d9,fk,fq,dY,ml,gY,gZ,mm,jz,g9]
theorem D2.alt{n:Sn}(h:D2 B i n o (.zN b::Q) W mn mo bn bo):
 D2 B i n o Q W mn mo bn bo:=by
 obtain⟨ha,m9⟩:=h
 cases ha
 cases m9
 constructor
 all_goals constructor<;>first|assumption|grind[gX,Sub,du,gR,fD,iU,mg,gS,jw,jc,mh,gD,mj,lw,lR,jx,jy,g8,dV,fh,d8,fe,ff,fg,eT,eC,eV,gU,gd,gV,gW,gc,eq,fw,kE,ic,fx,kq,oZ,iH,fM,iK,eJ,fW,fc,dW,dX,dv,fj,fm,d9,fk,fq,dY,ml,gY,gZ,mm,jz,g9]
theorem D2.uB{n:Sn}(h:D2 B i n o (.uB::Q) W mn mo bn bo){s:Su}(XY:s.v=bP n.p.s.v)(hsi:s.bp=n.p.s.bp):
 D2 B i {n with st:=2,p:=⟨s,n.p.m,n.p.x⟩} o Q (W++[.done]) mn mo bn bo:=by
 obtain⟨ha,m9⟩:=h
 cases ha
 cases m9
 constructor
 all_goals constructor<;>first|assumption|grind[gX,Sub,du,gR,fD,iU,mg,gS,jw,jc,mh,gD,mj,lw,lR,jx,jy,g8,dV,fh,d8,fe,ff,fg,eT,eC,eV,gU,gd,gV,gW,gc,eq,fw,kE,ic,fx,kq,oZ,iH,fM,iK,eJ,fW,fc,dW,dX,dv,fj,fm,d9,fk,fq,dY,ml,gY,gZ,mm,jz,g9]
end Go.Dm
