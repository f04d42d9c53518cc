/-
  A part of the proofs over this seat: a machine over data (the file in which the theorems stand says what is proved).
-/
import Derived.Laws.MakeOwn
import Derived.Laws.Sem
import Derived.LoopN
import Derived.Test.YtnilacbgecakcaaGreatFvC0
set_option maxRecDepth 100000
set_option maxHeartbeats 0
set_option linter.unusedSimpArgs false
set_option linter.unusedVariables false
namespace Go.Dm
open Go.RowKit
theorem Mem.DX(m:Mem)(d:Option Tmp)(nv:Nat)(x:T)(ut:List (Nat×Nat))(rv rt:List Nat):m.apply d nv {dst:=x,ut,rv,rt}=Mem.put {m with tok:=oO ut m.tok} d x:=by
 cases d with
 |none=>simp[Mem.apply,Mem.put,lk];rfl
 |some d=>
  simp only[Mem.put,Mem.apply,lk,oG,ft,rd,br,av]
  congr 1
  funext t
  by_cases h:d=t
  ·simp[h]
  ·simp[h,f_ h]
theorem Mem.NB(m:Mem)(d:Option Tmp)(nv id:Nat)(xs:List V)(x:T)(ut:List (Nat×Nat))(rv rt:List Nat):m.apply d nv {dst:=x,uv:=[(id,xs)],ut,rv,rt}=
 Mem.put {m with var:=fun i=>if i=id then some xs else m.var i,tok:=oO ut m.tok} d x:=by
 have hv:(m.apply d nv {dst:=x,uv:=[(id,xs)],ut,rv,rt}).var=fun i=>if i=id then some xs else m.var i:=by
  funext i
  simp only[Mem.apply,oG,ft,rd,br,lk]
  by_cases h:id=i
  ·simp[h]
  ·simp[h,f_ h]
 cases d with
 |none=>
  simp only[Mem.put]
  rw[<-hv]
  simp[Mem.apply,lk];rfl
 |some d=>
  simp only[Mem.put]
  rw[<-hv]
  simp only[Mem.apply,lk,av]
  congr 1
  funext t
  by_cases h:d=t
  ·simp[h]
  ·simp[h,f_ h]
variable{γ:Gh}{tok:Nat->Option Nat}{w:World}{us:List Value}
theorem vi{ks:List K}(h:bj (K.aE γ tok w) ks us):(Ca ks).aE γ tok w (u_ us):=by
 match ks,us,h with
 |[],[],_=>exact⟨[],rfl,trivial⟩
 |[k],[u],h=>exact h.1
 |k::k'::ks,u::u'::us,h=>exact⟨u::u'::us,rfl,h⟩
 |[],_::_,h=>exact h.elim
 |[_],[],h=>exact h.elim
 |[_],_::_::_,h=>exact h.2.elim
 |_::_::_,[],h=>exact h.elim
 |_::_::_,[_],h=>exact h.2.elim
theorem KH{Fr oI N:Nat->Nat->Prop}{w:World}:∀{rs:List au} {us:List Value},rs.all au.Rd=true->bj (au.aE Fr N w) rs us->bj (au.aE oI N w) rs us
 |[],[],_,_=>trivial
 |r::rs,u::us,hb,h=>by
  simp only[pe,cY] at hb
  refine⟨?_,KH hb.2 h.2⟩
  have h1:=h.1
  unfold au.Rd at hb
  split at hb
  ·simpa only[au.aE,C.aE] using h1
  ·simp at hb
 |[],_::_,_,h=>h.elim
 |_::_,[],_,h=>h.elim
variable{Fr:Nat->Nat->Prop}{sz b:Nat}{es:List (List C)}{u:Value}
theorem ww{N:Nat->Nat->Prop}{rs:List au}(h:bj (au.aE Fr N w) rs us){r:Nat}(hr:rs[r]?=some (.top sz es))(hu:us[r]?=some u)(hb:iC u=some b):∃lo,N b lo:=by
 obtain⟨u',XW,_,cF,cap,rfl,_,ht⟩:=h.get r _ hr
 rw[hu] at XW
 cases XW
 unfold iC at hb
 split at hb
 ·rename_i a n c jI
  split at hb
  ·cases hb
  ·rename_i jV
   simp only[Value.slice.injEq] at jI
   obtain⟨h1,h2,h3⟩:=jI
   obtain⟨b',TL,Is,_⟩:=ht.resolve_left (by omega)
   rw[TL] at h1
   cases h1
   cases hb
   exact⟨_,Is⟩
 ·cases hb
variable{F:Fm}{m:Mem}{a:Act}{j:Nat}
theorem wA(h:ix F γ m a w){l:Nat}(hj:m.tok j=some l)(hc:(γ.tk j).cap≠l):∃b,(γ.tk j).cF.map (·.block)=some b/\b<w.heap.size:=by
 obtain⟨b,hb,_,⟨arr,e,jZ,_⟩,_⟩:=(h.dE j l hj).2.resolve_left hc
 refine⟨b,by rw[hb];rfl,?_⟩
 rcases gq b w.heap.size with h|h
 ·exact h
 ·rw[uO h] at jZ;cases jZ
theorem tP{gK:List (Nat×Nat)}{o:Nat}(h:DE [] gK b o):False:=by
 obtain⟨k,cs,p,h1,_⟩:=h
 simp at h1
theorem A.extra{all:List (Nat×Nat)}:∀{cs:List C} {vs:List Value},bj (C.aE Fr w) cs vs->bj (A.aE Fr w all) (cs.map .c) vs
 |[],[],_=>trivial
 |_::_,_::_,h=>⟨h.1,A.extra h.2⟩
 |[],_::_,h=>h.elim
 |_::_,[],h=>h.elim
variable{id:Nat}{ys:List V}
theorem ix.Yv(h:ix F γ m a w){o:Nat}(hv:m.var id=some ys)(hl:γ.ky id=some (b,o)):
 let γ':Gh:={γ with fr:=fun b' x=>γ.fr b' x\/(b'=b/\o<=x/\x<o+ys.length)}
 let m':Mem:={m with var:=fun i=>if i=id then some [] else m.var i}
 ix F γ' m' a w/\Ex γ γ' m.tok m'.tok w w:=by
 intro γ' m'
 obtain⟨b',o',h1,h2,h3,h5⟩:=h.vars id ys hv
 rw[hl] at h1;cases h1
 have jr:Ex γ γ' m.tok m'.tok w w:=⟨⟨fun _ _ h=> .inl h,fun _ _ _ _ h=>h,fun _ _ _ _ h=>h⟩,fun _ _ h=>h,fun _ _ h=> .inl ⟨h,rfl⟩⟩
 refine⟨?_,jr⟩
 exact {
  defers:=h.defers
  size:=h.size
  cF:=h.cF
  sk:=fun b o hx=> .inl (h.sk b o hx)
  xb:=fun b1 x hx=>by
   rcases hx with hx|⟨rfl,hx,TF⟩
   ·exact h.xb b1 x hx
   ·have:=(h5 (x-o) (by omega)).2
    rw[show o+(x-o)=x by omega] at this
    exact .inr this
  j9:=fun b1 x hx=>by
   rcases hx with hx|⟨rfl,_⟩
   ·exact h.j9 b1 x hx
   ·exact h.fR id _ _ hl
  fR:=h.fR
  tmps:=fun t=>T.aE.mono jr _ _ (h.tmps t)
  gh:=fun x v n k hp=>⟨(h.gh x v n k hp).1,T.aE.mono (jr.lx _ _) _ _ (h.gh x v n k hp).2⟩
  vars:=fun i zs hi=>by
   by_cases he:i=id
   ·subst he
    simp only[m',bu,av] at hi
    subst hi
    exact⟨b,o,hl,⟨[],trivial,fun j v hj=>by simp at hj⟩,fun j hj=>by simp at hj,fun j hj=>by simp at hj⟩
   ·simp only[m',he,br] at hi
    obtain⟨b2,o2,k1,⟨vs,k2,k3⟩,k4,k5⟩:=h.vars i zs hi
    have Kd:=h.h_ i id zs ys b2 o2 b o he hi hv k1 hl
    refine⟨b2,o2,k1,⟨vs,k2.mono (fun x v=>V.aE.mono jr x v),k3⟩,k4,fun j hj=>⟨fun hx=> ?_,(k5 j hj).2⟩⟩
    rcases hx with hx|⟨hb,hx,TF⟩
    ·exact(k5 j hj).1 hx
    ·omega
  gM:=fun i hi=>by
   by_cases he:i=id
   ·subst he;simp[m'] at hi
   ·simp[m',he] at hi;exact h.gM i hi
  d4:=h.d4
  h_:=fun i j zs us b1 o1 b2 o2 pj hi hj Gz Ye=>by
   have key:∀k PC,m'.var k=some PC->∃zs,m.var k=some zs/\PC.length<=zs.length:=fun k PC hk=>by
    by_cases he:k=id
    ·subst he
     simp only[m',bu,av] at hk
     subst hk
     exact⟨ys,hv,by simp⟩
    ·simp only[m',he,br] at hk;exact⟨PC,hk,aL _⟩
   obtain⟨zs1,hz1,e1⟩:=key i _ hi
   obtain⟨zs2,hz2,e2⟩:=key j _ hj
   have:=h.h_ i j zs1 zs2 b1 o1 b2 o2 pj hz1 hz2 Gz Ye
   omega
  dE:=fun i k hi=>by
   obtain⟨k1,k2⟩:=h.dE i k hi
   refine⟨k1,?_⟩
   by_cases hc:(γ.tk i).cap=k
   ·exact .inl hc
   ·obtain⟨b2,uV,Dq,jZ,rS⟩:=k2.resolve_left hc
    refine .inr ⟨b2,uV,Dq,jZ,fun x hx hq=> ?_⟩
    rcases hq with hq|⟨hb,_⟩
    ·exact rS x hx hq
    ·have:=h.jY i k id ys b o hi hv hl hc
     rw[uV] at this
     exact this (by simp[hb])
  eP:=h.eP
  jY:=fun i k j zs b1 o1 hi hj Gz hc=>by
   by_cases he:j=id
   ·subst he;exact h.jY i k j ys b1 o1 hi hv Gz hc
   ·simp only[m',he,br] at hj;exact h.jY i k j zs b1 o1 hi hj Gz hc}
theorem ix.It:∀(rs:List Nat) {γ:Gh} {m:Mem},ix F γ m a w->(∀id∈rs,(m.var id).isSome=true)->
 ∃γ':Gh,γ'.ky=γ.ky/\γ'.tk=γ.tk/\(∀b o,γ.fr b o->γ'.fr b o)/\(∀id∈rs,∀ys b o,m.var id=some ys->γ.ky id=some (b,o)->∀j,j<ys.length->γ'.fr b (o+j))/\
  ix F γ' {m with var:=fun i=>if i∈rs then some [] else m.var i} a w/\Ex γ γ' m.tok m.tok w w
 |[],γ,m,h,_=>⟨γ,rfl,rfl,fun _ _ h=>h,by simp,by simpa using h, .refl _ _ _⟩
 |id::rs,γ,m,h,hs=>by
  obtain⟨ys,hv⟩:=Option.isSome_iff_exists.1 (hs id (by simp))
  obtain⟨b,o,hl,_⟩:=h.vars id ys hv
  obtain⟨h1,Ce⟩:=h.Yv hv hl
  obtain⟨γ',e1,e2,e3,e4,h2,Ym⟩:=ix.It rs h1 (fun i hi=>by
   simp only
   split
   ·rfl
   ·exact hs i (by simp[hi]))
  refine⟨γ',e1,e2,fun b o hx=>e3 b o (.inl hx),fun i hi zs b1 o1 hz Gz j hj=> ?_,?_,Ce.trans Ym⟩
  ·by_cases he:i=id
   ·subst he
    rw[hv] at hz;cases hz
    rw[hl] at Gz;cases Gz
    exact e3 _ _ (.inr ⟨rfl,by omega,by omega⟩)
   ·refine e4 i ?_ zs b1 o1 ?_ Gz j hj
    ·simpa[he] using hi
    ·simp[he,hz]
  ·have:(fun i=>if i∈rs then some [] else if i=id then some [] else m.var i)=fun i=>if i∈id::rs then some [] else m.var i:=by
    funext i
    by_cases h3:i∈rs<;>by_cases h4:i=id<;>simp[h3,h4]
   simp only[this] at h2
   exact h2
theorem GO{m:Mem}:∀{dA:List (C ⊕ (Nat×Nat))} {cs:List C},dA.mapM (uA m)=some cs->∀{c:C ⊕ (Nat×Nat)},c∈dA->(uA m c).isSome=true
 |[],_,_,c,hc=>by simp at hc
 |d::ds,cs,h,c,hc=>by
  rw[fv] at h
  cases hd:uA m d with
  |none=>simp[hd] at h
  |some x=>
   cases hr:ds.mapM (uA m) with
   |none=>simp[hd,hr] at h
   |some r=>
    rcases cM.1 hc with rfl|hc
    ·rw[hd];rfl
    ·exact GO hr hc
theorem qd{P:Program}{m:Mem}:∀{tm:List TypeId} {xs:List T} {k:Nat} {as:List A} {ls:List (Nat×Nat×List C)} {rs:List Nat},gu P m tm xs k=some (as,ls,rs)->∀id∈rs,(m.var id).isSome=true
 |[],[],k,as,ls,rs,h=>by simp only[gu,av,aY] at h;obtain⟨_,_,rfl⟩:=h;simp
 |t::ts,x::xs,k,as,ls,rs,h=>by
  have yC:∀{id off:Nat} {cs:List C},yS m id off=some cs->(m.var id).isSome=true:=fun {id off cs} hs=>by
   unfold yS at hs
   split at hs
   ·rename_i hv;rw[hv];rfl
   ·cases hs
  simp only[gu] at h
  split at h
  ·split at h
   ·rename_i cs uH Rm Ke mv i8
    simp only[av,aY] at h
    obtain⟨rfl,rfl,rfl⟩:=h
    exact qd i8
   ·cases h
  ·split at h
   ·split at h
    ·split at h
     ·rename_i i8
      simp only[av,aY] at h
      obtain⟨rfl,rfl,rfl⟩:=h
      exact qd i8
     ·cases h
    ·cases h
   ·cases h
  ·rename_i id off sz n
   split at h
   ·rename_i cs mv
    split at h
    ·rename_i i8
     simp only[av,aY] at h
     obtain⟨rfl,rfl,rfl⟩:=h
     intro i hi
     rcases cM.1 hi with rfl|hi
     ·exact yC mv
     ·exact qd i8 i hi
    ·cases h
   ·cases h
  ·rename_i f dA
   split at h
   ·rename_i cs uH Rm Ke mv i8
    simp only[av,aY] at h
    obtain⟨rfl,rfl,rfl⟩:=h
    intro i hi
    rcases df.1 hi with hi|hi
    ·obtain⟨c,hc,hi⟩:=List.mem_flatMap.1 hi
     have Kf:=GO mv hc
     cases c with
     |inl x=>simp[qw] at hi
     |inr p=>
      simp only[qw,nr] at hi
      subst hi
      simp only[uA,Option.isSome_map] at Kf
      obtain⟨cs',TI⟩:=Option.isSome_iff_exists.1 Kf
      exact yC TI
    ·exact qd i8 i hi
   ·cases h
  ·split at h
   ·rename_i i8
    simp only[av,aY] at h
    obtain⟨rfl,rfl,rfl⟩:=h
    exact qd i8
   ·cases h
  ·cases h
 |[],_::_,_,_,_,_,h=>by simp[gu] at h
 |_::_,[],_,_,_,_,h=>by simp[gu] at h
theorem PO(rs:List Nat)(i:Nat):lk (rs.map fun id=>(id,([]:List V))) i=if i∈rs then some [] else none:=by
 induction rs with
 |nil=>rfl
 |cons id rs ih=>
  simp only[eY,lk,ih]
  by_cases h:i∈rs
  ·simp[h]
  ·by_cases h2:id=i
   ·subst h2;simp[h]
   ·simp[h,h2,f_ h2]
theorem Mem.NC(m:Mem)(d:Option Tmp)(nv:Nat)(rs:List Nat)(x:T)(ut:List (Nat×Nat))(rv rt:List Nat):m.apply d nv {dst:=x,uv:=rs.map fun id=>(id,[]),ut,rv,rt}=
 Mem.put {m with var:=fun i=>if i∈rs then some [] else m.var i,tok:=oO ut m.tok} d x:=by
 have hv:(m.apply d nv {dst:=x,uv:=rs.map fun id=>(id,[]),ut,rv,rt}).var=fun i=>if i∈rs then some [] else m.var i:=by
  funext i
  simp only[Mem.apply,oG,ft,rd,br,PO]
  by_cases h:i∈rs<;>simp[h]
 cases d with
 |none=>
  simp only[Mem.put]
  rw[<-hv]
  simp[Mem.apply];rfl
 |some d=>
  simp only[Mem.put]
  rw[<-hv]
  simp only[Mem.apply,av]
  congr 1
  funext t
  by_cases h:d=t
  ·simp[h]
  ·simp[h,f_ h]
variable{E:lW}{d:Option Tmp}{nt:Nat}{g:FuncId}{ev vs:List Value}{tm:List TypeId}{xs:List T}{e:uN}
theorem ND(hE:pG E)(h:ix F γ m a w)(hg:iy E.gl γ.fr w)(hd:∀t,d=some t->t<F.n){nv:Nat}{extra:List C}(jr:bj (C.aE γ.fr w) extra ev)(hx:bj (T.aE γ m.tok w) xs vs)(he:pm E m nt g extra tm xs=some e)(Bz:∀i n,(i,n)∈e.ut->m.tok i=none):
 j_ E.P g/\Calls E.P g (vs++ev).toArray w fun
  | .returned v,w'=>lr E F (m.apply d nv e) (a.put d v) w'
  |_,_=>False:=by
 unfold pm at he
 split at he
 ·rename_i as ls rs dB
  split at he
  ·rename_i rp ip hF
   obtain⟨NE,Iu⟩:=hE.call _ _ _ _ _ hF
   have xO:=Iu.plain (Ir (kI dB) (PN _))
   refine⟨NE,?_⟩
   simp only at he
   split at he
   ·split at he
    ·rename_i co
     cases he
     have afZ:∀(Fr:Nat->Nat->Prop),(∀b o,γ.fr b o->Fr b o)->(∀b o,Fr b o->b<w.heap.size)->(∀id∈rs,∀ys b o,m.var id=some ys->γ.ky id=some (b,o)->∀j,j<ys.length->Fr b (o+j))->
      ((∀b o,Fr b o->γ.fr b o)\/rp.all au.Rd=true)->
      Calls E.P g (vs++ev).toArray w fun
       | .returned v,w'=>lr E F (m.apply d nv {dst:=Ca (kP nt rp).1,ut:=(kP nt rp).2,rv:=rs}) (a.put d v) w'
       |_,_=>False:=by
      intro Fr FW fO yC hor
      have mX:Ev γ.fr Fr w w:=⟨FW,fun _ _ _ _ h=>h,fun _ _ _ _ h=>h⟩
      obtain⟨hA,_⟩:=kJ (P:=E.P) h FW dB hx yC [] (fun j p hj=>by simp at hj)
      have hA2:=hA.append (A.extra (all:=[]) (jr.mono (fun c v hc=>C.aE.mono mX c v hc)))
      have hm:=xO Fr w [] (vs++ev) fO (hg.mono mX) trivial (fun i j cs ds p q _ hi=>by simp at hi) hA2
      refine hm.mono fun e w' zi=> ?_
      obtain⟨us,oI,rfl,qT,hf1,hf2,oh,Kd,_,_⟩:=zi
      have NF:Below w.heap.size w w':=(qT.mono (fun b o hi=>tP hi):bX (fun _ _=>False) w w').below
      have uB:∀(yB:Nat->Nat->Prop),(∀b o,γ.fr b o->yB b o)->(∀b o,yB b o->γ.fr b o\/(w.heap.size<=b/\b<w'.heap.size))->bj (au.aE yB (fun b _=>w.heap.size<=b) w') rp us->
       lr E F (m.apply d nv {dst:=Ca (kP nt rp).1,ut:=(kP nt rp).2,rv:=rs}) (a.put d (u_ us)) w':=by
       intro yB h1 h2 h3
       obtain⟨g1,g2⟩:=h.tE NF h1 h2
       obtain⟨γ',k1,k2,k3,k4⟩:=ol (N:=fun b _=>w.heap.size<=b) (fun b lo hb=> .inl (aZ h.cF.size hb)) g1 h3 Kd Bz (fun id xs b o _ hl lo hb=>Nat.not_le.2 (h.fR id b o hl) hb) (fun j l hj hc r sz es u hr hu b hb=>by
        obtain⟨b',m9,M_⟩:=wA h hj hc
        obtain⟨_,this⟩:=ww h3 hr hu hb
        rw[m9]
        intro jI
        cases jI
        omega)
       refine⟨γ',?_,?_⟩
       ·rw[Mem.DX]
        exact k2.put hd (vi k4)
       ·exact(hg.mono g2.ev).mono k3.ev
      rcases hor with hor|hor
      ·exact uB oI (fun b o hx=>hf1 b o (FW b o hx)) (fun b o hx=>(hf2 b o hx).imp (hor b o) id) oh
      ·exact uB γ.fr (fun _ _ h=>h) (fun _ _ h=> .inl h) (KH hor oh)
     by_cases hrs:rs=[]
     ·subst hrs
      exact afZ γ.fr (fun _ _ h=>h) h.j9 (by simp) (.inl (fun _ _ h=>h))
     ·have af1:rp.all au.Rd=true:=by
       cases rs with
       |nil=>exact absurd rfl hrs
       |cons _ _=>simpa using co
      refine afZ (fun b x=>γ.fr b x\/∃id ys o,m.var id=some ys/\γ.ky id=some (b,o)/\o<=x/\x<o+ys.length) (fun _ _ h=> .inl h) (fun b x hx=> ?_) (fun id _ ys b o hv hl j hj=> .inr ⟨id,ys,o,hv,hl,by omega,by omega⟩) (.inr af1)
      rcases hx with hx|⟨id,ys,o,_,hl,_⟩
      ·exact h.j9 b x hx
      ·exact h.fR id b o hl
    ·cases he
     obtain⟨γ1,e1,_,e3,e4,sr,Ce⟩:=h.It rs (qd dB)
     have mX:Ev γ.fr γ1.fr w w:=⟨e3,fun _ _ _ _ h=>h,fun _ _ _ _ h=>h⟩
     obtain⟨hA,_⟩:=kJ (P:=E.P) h e3 dB hx e4 [] (fun j p hj=>by simp at hj)
     have hA2:=hA.append (A.extra (all:=[]) (jr.mono (fun c v hc=>C.aE.mono mX c v hc)))
     have hm:=xO γ1.fr w [] (vs++ev) sr.j9 (hg.mono mX) trivial (fun i j cs ds p q _ hi=>by simp at hi) hA2
     refine hm.mono fun e w' zi=> ?_
     obtain⟨us,oI,rfl,qT,hf1,hf2,oh,Kd,_,_⟩:=zi
     have NF:Below w.heap.size w w':=(qT.mono (fun b o hi=>tP hi):bX (fun _ _=>False) w w').below
     obtain⟨g1,g2⟩:=sr.tE NF hf1 hf2
     obtain⟨γ',k1,k2,k3,k4⟩:=ol (N:=fun b _=>w.heap.size<=b) (fun b lo hb=> .inl (aZ h.cF.size hb)) g1 oh Kd Bz (fun id xs b o _ hl lo hb=>Nat.not_le.2 (sr.fR id b o hl) hb) (fun j l hj hc r sz es u hr hu b hb=>by
      obtain⟨b',m9,M_⟩:=wA sr hj hc
      obtain⟨_,this⟩:=ww oh hr hu hb
      rw[m9]
      intro jI
      cases jI
      omega)
     refine⟨γ',?_,?_⟩
     ·rw[Mem.NC]
      exact k2.put hd (vi k4)
     ·exact((hg.mono mX).mono g2.ev).mono k3.ev
   ·rename_i id off cs ds
    split at he
    ·rename_i ys hv
     split at he
     ·rename_i co
      obtain⟨hrs,hdl⟩:=co
      have hrs:rs=[]:=by simpa using hrs
      subst hrs
      cases he
      obtain⟨hA,ake⟩:=kJ (P:=E.P) h (fun _ _ h=>h) dB hx (by simp) ([(id,off,cs)].map (GN γ)) (fun j p hj=>by simpa using hj)
      obtain⟨ys',b,o,Kq,hl,rT,mv⟩:=ake (id,off,cs) (by simp)
      have Kq:m.var id=some ys':=Kq
      have hl:γ.ky id=some (b,o):=hl
      have rT:off+cs.length<=ys'.length:=rT
      have mv:((ys'.drop off).take cs.length).mapM V.GB=some cs:=mv
      rw[hv] at Kq;cases Kq
      have uW:[(id,off,cs)].map (GN γ)=[(b,o+off)]:=by simp[GN,hl]
      rw[uW] at hA
      obtain⟨b',o',k1,⟨us0,k2,k3⟩,k4,k5⟩:=h.vars id ys hv
      rw[hl] at k1;cases k1
      have hcv:=nF mv ((k2.drop off).take cs.length)
      have ly:=hcv.length
      have af3:rY γ.fr w cs (b,o+off):=by
       refine⟨⟨_,hcv,y7 (pU k3 off) _⟩,fun j hj=> ?_,fun j hj=> ?_⟩
       ·have:=k4 (off+j) (by omega)
        rwa[show o+(off+j)=o+off+j by omega] at this
       ·have:=(k5 (off+j) (by omega)).1
        rwa[show o+(off+j)=o+off+j by omega] at this
      have hA2:=hA.append (A.extra (all:=[(b,o+off)]) jr)
      have hm:=xO γ.fr w [(b,o+off)] (vs++ev) h.j9 hg ⟨af3,trivial⟩ (fun i j cs' ds' p q pj hi hj _ _=>by
       have:=(List.getElem?_eq_some_iff.1 hi).1
       have:=(List.getElem?_eq_some_iff.1 hj).1
       simp at*
       omega) hA2
      refine hm.mono fun e w' zi=> ?_
      obtain⟨us,oI,rfl,qT,hf1,hf2,oh,Kd,af4,_⟩:=zi
      have akf:bX (fun b' x=>b'=b/\o+off<=x/\x<o+off+ds.length) w w':=qT.mono (fun b' x hi=>by
       obtain⟨k,cs',p,h1,h2,h3,h4,h5⟩:=hi
       cases k with
       |zero=>
        simp at h1 h2
        subst h1;subst h2
        exact⟨h3.symm,h4,by rw[hdl];exact h5⟩
       |succ k=>simp at h1)
      obtain⟨g1,g2⟩:=h.akb hv hl (off:=off) (n:=ds.length) (by omega) akf hf1 hf2 af4.1 rfl
      obtain⟨γ',q1,q2,q3,q4⟩:=ol (N:=fun b _=>w.heap.size<=b) (fun b lo hb=> .inl (aZ h.cF.size hb)) g1 oh Kd Bz (fun id xs b o _ hl lo hb=>Nat.not_le.2 (h.fR id b o hl) hb) (fun j l hj hc r sz es u hr hu b hb=>by
       obtain⟨b',m9,M_⟩:=wA h hj hc
       obtain⟨_,this⟩:=ww oh hr hu hb
       rw[m9]
       intro jI
       cases jI
       omega)
      refine⟨γ',?_,?_⟩
      ·rw[Mem.NB]
       exact q2.put hd (vi q4)
      ·exact(hg.mono g2.ev).mono q3.ev
     ·cases he
    ·cases he
   ·cases he
  ·cases he
 ·cases he
theorem Rn{extra:List C}(he:pm E m nt g extra tm xs=some e):e.rt=[]:=by
 unfold pm at he
 split at he
 ·split at he
  ·simp only at he
   split at he
   ·split at he
    ·cases he;rfl
    ·cases he;rfl
   ·split at he
    ·split at he
     ·cases he;rfl
     ·cases he
    ·cases he
   ·cases he
  ·cases he
 ·cases he
theorem Uk(hE:pG E)(h:ix F γ m a w)(hg:iy E.gl γ.fr w)(hd:∀t,d=some t->t<F.n){nv:Nat}{extra:List C}(jr:bj (C.aE γ.fr w) extra ev)(hx:bj (T.aE γ m.tok w) xs vs)(he:tH E m nt g extra tm xs=some e)(Bz:∀i n,(i,n)∈e.ut->i∉e.rt->m.tok i=none):
 j_ E.P g/\Calls E.P g (vs++ev).toArray w fun
  | .returned v,w'=>lr E F (m.apply d nv e) (a.put d v) w'
  |_,_=>False:=by
 unfold tH at he
 split at he
 ·rename_i as dB
  split at he
  ·rename_i uH j n DI
   split at he
   ·rename_i rp hF
    split at he
    case isFalse=>cases he
    rename_i hjn
    cases he
    obtain⟨NE,xO⟩:=hE.call _ _ _ _ _ hF
    refine⟨NE,?_⟩
    have akg:∀i n,(i,n)∈(kP nt rp).2->i≠j->m.tok i=none:=fun i n hi pj=>Bz i n (by simp only[u6,cM];exact .inr hi) (by simpa[u6] using pj)
    obtain⟨hA0,_⟩:=kJ (P:=E.P) h (fun _ _ h=>h) dB hx (by simp) [] (fun j p hj=>by simp at hj)
    have Ds:=kI dB
    obtain⟨hA,TK,hS⟩:=DV h DI Ds hA0 hx
    have hA2:=hA.append (A.extra (all:=[]) jr)
    have dK:=hA.length
    have hS2:∀b o,nB (uH++extra.map .c) (vs++ev) b o->(γ.tk j).cap≠n/\(γ.tk j).cF.map (·.block)=some b/\n*(γ.tk j).sz<=o:=fun b o ho=>hS b o (yZ dK (PN _) ho)
    have hm:=xO γ.fr w [] (vs++ev) h.j9 hg trivial (fun i j cs ds p q _ hi=>by simp at hi) hA2
    refine hm.mono fun e w' zi=> ?_
    obtain⟨us,oI,rfl,qT,hf1,hf2,oh,Kd,_,_⟩:=zi
    obtain⟨g1,g2⟩:=h.afW TK hS2 (qT.mono fun b o ho=>ho.resolve_left tP) hf1 hf2
    have akh:∀i l,(i,l)∈(kP nt rp).2->i≠j:=fun i l hi=>by
     have:=nH hi
     omega
    ·obtain⟨γ',k1,k2,k3,k4⟩:=ol (N:=fun b lo=>w.heap.size<=b\/∀o,lo<=o->nB (uH++extra.map .c) (vs++ev) b o) (fun b lo hb=>by
      rcases hb with hb|hb
      ·exact .inl (aZ h.cF.size hb)
      ·obtain⟨h1,h2,h3⟩:=hS2 b lo (hb lo (aL _))
       obtain⟨b',m9,F8,_⟩:=(h.dE j n TK).2.resolve_left h1
       rw[m9] at h2
       simp only[dw,av] at h2
       subst h2
       exact F8.mono h3) g1 oh Kd (fun i l hi=>by
      have pj:=akh i l hi
      show(if i=j then _ else _)=none
      rw[aR pj];exact akg i l hi pj) (fun id xs b o hv hl lo hb=>by
      rcases hb with hb|hb
      ·exact Nat.not_le.2 (h.fR id b o hl) hb
      ·obtain⟨h1,h2,_⟩:=hS2 b lo (hb lo (aL _))
       exact h.jY j n id xs b o TK hv hl h1 h2) (fun i l hi hc r sz es u hr hu b hb=>by
      by_cases he:i=j
      ·subst he
       simp only[bu,av] at hi hc
       exact absurd hi hc
      ·simp only[he,br] at hi hc ⊢
       obtain⟨lo,hN⟩:=ww oh hr hu hb
       rcases hN with hN|hN
       ·obtain⟨b',m9,M_⟩:=wA h hi hc
        rw[m9]
        intro jI
        cases jI
        omega
       ·obtain⟨h1,h2,_⟩:=hS2 b lo (hN lo (aL _))
        intro jI
        exact h.eP i j l n he hi TK hc h1 (jI.trans h2.symm))
     refine⟨γ',?_,?_⟩
     ·unfold u6
      rw[Mem.DX,nG]
      exact k2.put hd (vi k4)
     ·exact(hg.mono g2.ev).mono k3.ev
   ·cases he
  ·cases he
 ·cases he
theorem GP(hE:pG E)(h:ix F γ m a w)(hg:iy E.gl γ.fr w)(hd:∀t,d=some t->t<F.n){nv:Nat}{extra:List C}(jr:bj (C.aE γ.fr w) extra ev)(hx:bj (T.aE γ m.tok w) xs vs)(he:sD E m nt g extra tm xs=some e)(Bz:∀i n,(i,n)∈e.ut->i∉e.rt->m.tok i=none):
 j_ E.P g/\Calls E.P g (vs++ev).toArray w fun
  | .returned v,w'=>lr E F (m.apply d nv e) (a.put d v) w'
  |_,_=>False:=by
 unfold sD at he
 split at he
 ·exact Uk hE h hg hd jr hx he Bz
 ·exact ND hE h hg hd jr hx he (fun i n hi=>Bz i n hi (by rw[Rn he];simp))
variable{x:V}{v:Value}
theorem V.vj(h:x.aE γ tok w v):x.T8.aE γ tok w v:=by
 cases x with
 |cX sz es t=>exact h.1
 |_=>exact h
variable{γ':Gh}
theorem V.zj(h:ix F γ m a w)(jr:Ex γ γ' m.tok m.tok w w)(rS:∀b o,γ.fr b o->γ'.fr b o){y:V}(hx:x.aE γ m.tok w v)(hy:x.Ie m=some y)(yC:∀id∈x.fT,∀ys b o,m.var id=some ys->γ.ky id=some (b,o)->∀j,j<ys.length->γ'.fr b (o+j)):y.aE γ' m.tok w v:=by
 cases x with
 |sC id off sz n=>
  simp only[V.Ie] at hy
  split at hy
  ·rename_i es xJ
   cases hy
   simp only[ig] at xJ
   obtain⟨cs,mv,hch⟩:=xJ
   simp only[V.aE] at hx
   obtain⟨b,o,cap,hl,rfl,oS⟩:=hx
   have xN:=tO h mv rS (yC id (by simp[V.fT])) hl
   obtain⟨hr,dK⟩:=rA hch xN
   simp only[V.aE,C.aE]
   exact⟨_,n,cap,rfl,dK.symm,oS, .inr ⟨b,o+off,rfl,hr⟩⟩
  ·cases hy
 |c x=>cases hy;exact V.vj (V.aE.mono jr _ _ hx)
 |cX sz es t=>cases hy;exact V.vj (V.aE.mono jr _ _ hx)
 |fX id off=>cases hy;exact V.vj (V.aE.mono jr _ _ hx)
 |PB f dA=>cases hy;exact V.vj (V.aE.mono jr _ _ hx)
 |ifp t id off=>cases hy;exact V.vj (V.aE.mono jr _ _ hx)
theorem kX(h:ix F γ m a w){x:T}(hx:x.aE γ m.tok w v):(x.still m).aE {γ with fr:=fun _ _=>True} m.tok w v:=by
 have jr:Ex γ {γ with fr:=fun _ _=>True} m.tok m.tok w w:=⟨⟨fun _ _ _=>trivial,fun _ _ _ _ h=>h,fun _ _ _ _ h=>h⟩,fun _ _ h=>h,fun _ _ h=> .inl ⟨h,rfl⟩⟩
 unfold T.still
 split
 ·rename_i id off sz n
  split
  ·rename_i y hy
   simp only[T.aE,K.aE] at hx ⊢
   exact V.zj h jr (fun _ _ _=>trivial) hx hy (fun _ _ _ _ _ _ _ _ _=>trivial)
  ·exact T.aE.mono jr _ _ hx
 ·exact T.aE.mono jr _ _ hx
theorem Vs.zj(h:ix F γ m a w)(jr:Ex γ γ' m.tok m.tok w w)(rS:∀b o,γ.fr b o->γ'.fr b o):∀{xs ys:List V} {vs:List Value},bj (V.aE γ m.tok w) xs vs->xs.mapM (V.Ie m)=some ys->
 (∀id∈xs.flatMap V.fT,∀ys b o,m.var id=some ys->γ.ky id=some (b,o)->∀j,j<ys.length->γ'.fr b (o+j))->bj (V.aE γ' m.tok w) ys vs
 |[],ys,[],_,hy,_=>by simp at hy;subst hy;trivial
 |x::xs,ys,v::vs,hx,hy,yC=>by
  rw[fv] at hy
  simp only[j5,j4,ig,av] at hy
  obtain⟨y,h1,r,h2,rfl⟩:=hy
  exact⟨V.zj h jr rS hx.1 h1 (fun id gm=>yC id (by simp only[pg,df];exact .inl gm)),Vs.zj h jr rS hx.2 h2 (fun id gm=>yC id (by simp only[pg,df];exact .inr gm))⟩
 |[],_,_::_,h,_,_=>h.elim
 |_::_,_,[],h,_,_=>h.elim
theorem BC{F:Fm}{γ:Gh}{m:Mem}{a:Act}{w:World}(h:ix F γ m a w):∀{xs:List V} {vs:List Value},bj (V.aE γ m.tok w) xs vs->∀id∈xs.flatMap V.fT,(m.var id).isSome=true
 |[],_,_,id,gm=>by simp at gm
 |x::xs,v::vs,hx,id,gm=>by
  simp only[pg,df] at gm
  rcases gm with gm|gm
  ·cases x with
   |sC Yd off sz n=>
    simp only[V.fT,nr] at gm
    subst gm
    obtain⟨b,o,cap,hl,_⟩:=hx.1
    cases hq:m.var id with
    |none=>rw[h.gM id hq] at hl;cases hl
    |some _=>rfl
   |_=>simp[V.fT] at gm
  ·exact BC h hx.2 id gm
 |_::_,[],h,_,_=>h.elim
variable{o:Oper}{nv:Nat}{t:TypeId}{Q:Exit->Act->World->Prop}
theorem Rp(h:ix F γ m a w)(hg:iy E.gl γ.fr w)(hd:∀t,o.dst=some t->t<F.n){x y:Operand}(ho:o.op= .store t x y)(hh:DC E o=true)(he:aA E m nv nt o=some e):o.wp E.P a w (lr E F (m.apply o.dst nv e)) Q:=by
 have hx:=mr h hg x
 have hy:=sG (P:=E.P) (t:=t) (mr h hg y)
 simp only[aA,ho] at he
 split at he
 ·rename_i id off k hc hk
  split at he
  ·rename_i xs hv
   split at he
   ·rename_i co
    obtain⟨o9,rT,DM⟩:=co
    try rw[hh] at he
    try simp only[bu] at he
    unfold mD at he
    split at he
    ·rename_i cs mv
     split at he
     ·cases he
     ·rename_i aki
      simp only[av] at he
      subst he
      rw[dT hc] at hx
      simp only[T.aE,K.aE,V.aE] at hx
      obtain⟨b,o',hl,hp⟩:=hx
      rw[GH hk] at hy
      simp only[T.aE] at hy
      have Yj:=K.g_ hy
      obtain⟨γ',e1,_,e3,e4,jK,TF⟩:=h.It (k.cells.flatMap V.fT) (BC h Yj)
      have hcr:=Vs.zj h TF e3 Yj mv e4
      have af5:id∉k.cells.flatMap V.fT:=by simpa using aki
      have dK:cs.length=k.cells.length:=kB mv
      have core:=DL (E:=E) jK (hg.mono TF.ev) hd ho (id:=id) (xs:=xs) (cs:=cs) (off:=off) (b:=b) (o':=o') (by simp only;rw[aR af5];exact hv) (by rw[e1];exact hl) hp hcr (by omega) (by omega) DM (Q:=Q)
      have hm:∀rv,m.apply o.dst nv {dst:= .skip,uv:=(id,xs.take off++cs++xs.drop (off+cs.length))::(k.cells.flatMap V.fT).map (fun i=>(i,[])),rv:=rv}=Mem.put {m with var:=fun i=>if i=id then some (xs.take off++cs++xs.drop (off+cs.length)) else if i∈k.cells.flatMap V.fT then some [] else m.var i} o.dst .skip:=fun rv=>by
       have ext:∀p q:Mem,p.tmp=q.tmp->p.var=q.var->p.tok=q.tok->p=q:=fun p q h1 h2 h3=>by cases p;cases q;simp only at h1 h2 h3;subst h1 h2 h3;rfl
       refine ext _ _ (funext fun t=> ?_) (funext fun i=> ?_) (funext fun i=> ?_)
       ·simp only[Mem.apply,Mem.Id]
       ·simp only[Mem.apply,Mem.wh,oG,ft,rd,br,lk,PO]
        by_cases hi:i=id
        ·subst hi
         rw[aR af5]
         simp
        ·by_cases hm:i∈k.cells.flatMap V.fT
         ·simp[hm,hi,f_ hi]
         ·rw[aR hm,aR hi,aR hm]
          simp[f_ hi]
       ·simp only[Mem.apply,Mem.rh,lk]
      rw[hm]
      exact core
    ·cases he
   ·cases he
  ·cases he
 ·cases he
theorem NG(h:ix F γ m a w)(hg:iy E.gl γ.fr w)(hd:∀t,o.dst=some t->t<F.n){l c:Operand}(ho:o.op= .makeSlice t l c){vs:Bool}(he:DB E.P vs nv t (E.ev m l) (E.ev m c)=some e)(Gx:e.nv.isSome=true->m.var nv=none):o.wp E.P a w (lr E F (m.apply o.dst nv e)) Q:=by
 unfold DB at he
 split at he
 ·rename_i el q x q' y hu hl hc
  split at he
  ·rename_i z i hz hi
   split at he
   ·rename_i co
    obtain⟨⟨hzl,F6,hby⟩,rfl,h0,xj⟩:=co
    have hlv:=mr h hg l
    rw[ry hl,ck] at hlv
    have hcv:=mr h hg c
    rw[ry hc,ck] at hcv
    obtain⟨k,rfl⟩:∃k:Nat,y=(k:Int):=⟨y.toNat,by omega⟩
    simp only[At] at he
    obtain⟨zv0,fG,hzc⟩:=ig.1 hz
    obtain⟨zv,_,Bv,i',Km,hzi⟩:=pW (γ:=γ) (tok:=m.tok) (w:=w) fG
    rw[hi] at Km
    cases Km
    have Ud:=nF hzc Bv
    have KE:zv.cells.toList.length=E.P.cellsOf el:=by rw[<-Ud.length];exact hzl
    have o9:i.size=E.P.cellsOf el:=by unfold Program.cellsOf;rw[hi];rfl
    have xN:(madeCells zv.cells (k*i.size)).toList=(List.replicate k zv.cells.toList).flatten:=by
     unfold madeCells
     rw[<-DN k (z:=zv.cells.toList),o9,<-KE]
     simp only[Array.toList_map,Array.toList_range,Da]
     apply tA
     intro j hj
     have fO:j % zv.cells.size<zv.cells.size:=Nat.mod_lt _ (by simp only[Da] at KE;omega)
     simp[fO]
    have py:bj (C.aE γ.fr w) (List.replicate k z).flatten (madeCells zv.cells (k*i.size)).toList:=by
     rw[xN]
     exact r8 Ud k
    have hm9:(k:Int)<=1073741824:=xj
    have DR:(i.bytes:Int)*(k:Int)<=281474976710656:=by
     have h1:i.bytes*k<=131072*1073741824:=yG hby (by omega)
     have h2:((i.bytes*k:Nat):Int)<=((131072*1073741824:Nat):Int):=by omega
     rw[Int.natCast_mul] at h2
     omega
    have ka:=run_make (P:=E.P) w t el i zv hu hi hzi q q' (k:Int) (k:Int) (by omega) (nj _) DR (by omega)
    simp only[At] at ka
    have jr:(execOp a.eval o).run E.P w= .ok (.value (.slice (some ⟨w.heap.size,0,none⟩) k k)) (w.alloc (.cells (madeCells zv.cells (k*i.size)) el)):=by
     simp only[execOp,ho,hlv.1,hcv.1,Sem.run_bind,ka,Result.andThen_ok,Sem.run_pure]
    split at he
    ·cases he
     have hb:Below w.heap.size w (w.alloc (.cells (madeCells zv.cells (k*i.size)) el)):=(Below.refl _ w).alloc (aL _) _
     have BA:∀q:Nat,(w.alloc (.cells (madeCells zv.cells (k*i.size)) el)).cell? ⟨w.heap.size,0+q,none⟩=(madeCells zv.cells (k*i.size))[0+q]?:=fun q=>World.cell?_alloc_new w _ el (0+q)
     obtain⟨h2,abZ⟩:=ix.AA h hb (id:=nv) (Gx rfl) (V.g_ (tok:=m.tok) py) (fun q v hq=>by
      rw[BA,gt]
      simpa using hq) (fun q hq=>by
      have GM:q<(madeCells zv.cells (k*i.size)).size:=by
       have:=py.length
       rw[jq] at hq
       simp only[Da] at this
       omega
      refine⟨by rw[BA,gt,Pz GM];rfl,?_⟩
      have KG:(w.alloc (.cells (madeCells zv.cells (k*i.size)) el)).heap[w.heap.size]?=some (.cells (madeCells zv.cells (k*i.size)) el):=by show(w.heap.push _)[w.heap.size]?=_;exact Array.getElem?_push_size
      simp only[World.frozen?,KG]
      simp) (by simp)
     refine nD jr ⟨_,?_,hg.mono abZ.ev⟩
     rw[Mem.pX]
     refine h2.put hd ?_
     simp only[T.aE,K.aE,V.aE]
     exact⟨w.heap.size,0,k,by simp,by simp,aL _⟩
    ·cases he
     exact zf h hg hd (t:=el) py (fun y hy=>by rw[HW hy];exact hzl) (by simp) jr
   ·cases he
  ·cases he
 ·cases he
theorem zk(hE:pG E)(h:ix F γ m a w)(hg:iy E.gl γ.fr w)(hd:∀t,d=some t->t<F.n)(Gx:m.var nv=none)(ly:E.cl g=some sz)(hx:bj (T.aE γ m.tok w) xs vs)(he:pt nv sz xs=some e):
 j_ E.P g/\Calls E.P g (vs++[]).toArray w fun
  | .returned v,w'=>lr E F (m.apply d nv e) (a.put d v) w'
  |_,_=>False:=by
 obtain⟨NE,hc⟩:=hE.cln g sz ly
 refine⟨NE,?_⟩
 unfold pt at he
 split at he
 ·rename_i x
  split at he
  ·rename_i v hv
   split at he
   ·rename_i wi es hs
    split at he
    ·rename_i co
     obtain⟨rfl,F6,xj⟩:=co
     cases he
     match vs,hx with
     |[u],hx=>
      have h1:=hx.1
      rw[dT hv] at h1
      have hr:=mW hs h1
      simp only[dS]
      refine(hc γ.fr w u es hr F6 xj).mono fun en w' hp=> ?_
      obtain⟨w1,cap,news,rfl,oS,TL,Is,pH,ab0,ab1,fO⟩:=hp
      obtain⟨hg1,akk⟩:=h.tE TL (yB:=γ.fr) (fun _ _ h=>h) (fun _ _ h=> .inl h)
      have Iv:bj (C.aE γ.fr w1) es.flatten news:=pH
      obtain⟨h2,abZ⟩:=ix.AA hg1 Is (id:=nv) Gx (V.g_ (tok:=m.tok) Iv) ab0 (by
       have hl:=pH.length
       rw[jq,hl];exact ab1) fO
      refine⟨_,?_,(hg.mono akk.ev).mono abZ.ev⟩
      rw[Mem.pX]
      refine h2.put hd ?_
      simp only[T.aE,K.aE,V.aE]
      exact⟨w1.heap.size,0,cap,by simp,by simp,oS⟩
     |[],hx=>exact hx.elim
     |_::_::_,hx=>exact hx.2.elim
    ·cases he
   ·cases he
  ·cases he
 ·cases he
theorem GQ{α β:Type}{f:α->Option β}:∀{xs:List α} {ys:List β},xs.mapM f=some ys->∀(i:Nat),ys[i]?=(xs[i]?).bind f
 |[],ys,h,i=>by simp at h;subst h;simp
 |x::xs,ys,h,i=>by
  rw[fv] at h
  simp only[j5,j4,ig,av] at h
  obtain⟨y,hy,r,hr,rfl⟩:=h
  cases i with
  |zero=>simp[hy]
  |succ i=>simpa using GQ hr i
variable{n:Nat}
theorem GR{α:Type}{f:Nat->Option α}{ys:List α}(h:(List.range n).mapM f=some ys)(hf:∀i,n<=i->f i=none)(i:Nat):ys[i]?=f i:=by
 rw[GQ h i]
 rcases gq i n with hi|hi
 ·rw[H3 hi];rfl
 ·rw[jR (by simpa using hi),hf i hi];rfl
theorem Ix{α:Type}:∀(l:List α) (k i:Nat),lk (If k l) i=if k<=i then l[i-k]? else none
 |[],k,i=>by simp[If,lk]
 |x::l,k,i=>by
  simp only[If,lk,Ix l (k+1) i]
  by_cases h1:k+1<=i
  ·rw[aP h1,aP (show k<=i by omega),show i-k=(i-(k+1))+1 by omega,List.getElem?_cons_succ]
   cases l[i-(k+1)]? with
   |some y=>rfl
   |none=>rw[aR (show ¬k=i by omega)]
  ·rw[aR h1]
   by_cases h2:k=i
   ·subst h2;simp
   ·rw[aR h2,aR (show ¬k<=i by omega)]
theorem Ul{γ:Gh}{tok:Nat->Option Nat}{w:World}:∀{xs:List T} {ks:List K} {vs:List Value},xs.mapM T.k? =some ks->bj (T.aE γ tok w) xs vs->bj (K.aE γ tok w) ks vs
 |[],ks,vs,h,hx=>by
  simp at h;subst h
  cases vs with
  |nil=>trivial
  |cons _ _=>exact hx.elim
 |x::xs,ks,vs,h,hx=>by
  rw[fv] at h
  simp only[j5,j4,ig,av] at h
  obtain⟨y,hy,r,hr,rfl⟩:=h
  cases vs with
  |nil=>exact hx.elim
  |cons v vs=>
   refine⟨?_,Ul hr hx.2⟩
   have h1:=hx.1
   rw[GH hy] at h1
   exact h1
theorem KI{γ:Gh}{tok:Nat->Option Nat}{w:World}:∀{cs:List (C ⊕ (Nat×Nat))} {vs:List Value},bj (ph γ w) cs vs->bj (K.aE γ tok w) (cs.map abJ) vs
 |[],[],_=>trivial
 |[],_::_,h=>h.elim
 |_::_,[],h=>h.elim
 |c::cs,v::vs,h=>by
  refine⟨?_,KI h.2⟩
  have h1:=h.1
  cases c with
  |inl x=>exact h1
  |inr p=>obtain⟨id,off⟩:=p;exact h1
theorem KJ{γ:Gh}{w:World}:∀{cs:List C} {vs:List Value},bj (C.aE γ.fr w) cs vs->bj (ph γ w) (cs.map .inl) vs
 |[],[],_=>trivial
 |[],_::_,h=>h.elim
 |_::_,[],h=>h.elim
 |_::_,_::_,h=>⟨h.1,KJ h.2⟩
def Yw(F:Fm)(m:Mem)(nv nt:Nat):Prop:=(∀i,nv<=i->m.var i=none)/\(∀i,nt<=i->m.tok i=none)/\F.gn<=nv/\F.gk<=nt/\F.gK.length<=nv
theorem GS(hE:pG E)(h:ix F γ m a w)(hg:iy E.gl γ.fr w)(hd:∀t,d=some t->t<F.n)(Cc:Yw F m nv nt){dA:List (C ⊕ (Nat×Nat))}{cv:List Value}(oS:bj (ph γ w) dA cv)(hx:bj (T.aE γ m.tok w) xs vs)(he:yT E m nv nt g dA xs=some e):
 j_ E.P g/\Calls E.P g (vs++cv).toArray w fun
  | .returned v,w'=>lr E F (m.apply d nv e) (a.put d v) w'
  |_,_=>False:=by
 obtain⟨hvn,htn,hgn,hgk,uW⟩:=Cc
 unfold yT at he
 split at he
 ·rename_i vs0 ts0 ks hv0 ht0 NH
  split at he
  ·rename_i rs jQ nX hI
   split at he
   ·rename_i rZ
    cases he
    obtain⟨NE,hm⟩:=hE.inl g _ _ _ _ _ _ hI
    have e1:(fun(i:Nat)=>vs0[i]?)=m.var:=funext fun i=>GR hv0 hvn i
    have e2:(fun(i:Nat)=>ts0[i]?)=m.tok:=funext fun i=>GR ht0 htn i
    have l1:vs0.length=nv:=by have:=kB hv0;simpa using this
    have l2:ts0.length=nt:=by have:=kB ht0;simpa using this
    refine⟨NE,(hm F γ m.tmp a w (vs++cv) (by rw[e1,e2];exact h) hg (by omega) (by omega) (by omega) ?_).mono fun en w' hp=> ?_⟩
    ·rw[e2]
     exact(Ul NH hx).append (KI oS)
    ·obtain⟨us,γ',rfl,hr,hgl,hu⟩:=hp
     have Cf:m.apply d nv (xD rs jQ nX)=Mem.put ⟨m.tmp,fun i=>jQ[i]?,fun i=>nX[i]?⟩ d (Ca rs):=by
      have ext:∀p q:Mem,p.tmp=q.tmp->p.var=q.var->p.tok=q.tok->p=q:=fun p q h1 h2 h3=>by cases p;cases q;simp only at h1 h2 h3;subst h1 h2 h3;rfl
      refine ext _ _ (funext fun t=> ?_) (funext fun i=> ?_) (funext fun i=> ?_)
      ·simp only[Mem.apply,xD,Mem.Id]
      ·simp only[Mem.apply,xD,Mem.wh,oG,ft,rd,br]
       rw[Ix,aP (dh _),Nat.sub_zero]
       cases hi:jQ[i]? with
       |some y=>rfl
       |none=>exact hvn i (by have:=M6.1 hi;omega)
      ·simp only[Mem.apply,xD,Mem.rh]
       rw[Ix,aP (dh _),Nat.sub_zero]
       cases hi:nX[i]? with
       |some y=>rfl
       |none=>exact htn i (by have:=M6.1 hi;omega)
     show lr E F _ _ w'
     rw[Cf]
     exact⟨γ',hr.put hd (vi hu),hgl⟩
   ·cases he
  ·cases he
 ·cases he
theorem NJ(hE:pG E)(h:ix F γ m a w)(hg:iy E.gl γ.fr w)(hd:∀t,o.dst=some t->t<F.n){f:Operand}{args:Array Operand}{argTypes:Array TypeId}(ho:o.op= .call {callee:= .value f,args,argTypes})(he:aA E m nv nt o=some e)(Cc:e.al=true->Yw F m nv nt)(Gx:e.nv.isSome=true->m.var nv=none)(Bz:∀i n,(i,n)∈e.ut->i∉e.rt->m.tok i=none):o.wp E.P a w (lr E F (m.apply o.dst nv e)) Q:=by
 have hf:=mr h hg f
 have DW:bj (T.aE γ m.tok w) (nA E.P argTypes.toList (args.toList.map (E.ev m))) (args.toList.map a.eval):=mU (CB (fun x=>mr h hg x) args.toList)
 have enter:∀(g:FuncId) (ev:List Value),a.eval f= .func (.func g) #[] ev.toArray->(j_ E.P g/\Calls E.P g (args.toList.map a.eval++ev).toArray w fun
  | .returned v,w'=>lr E F (m.apply o.dst nv e) (a.put o.dst v) w'
  |_,_=>False)->o.wp E.P a w (lr E F (m.apply o.dst nv e)) Q:=by
  intro g ev Yx hec
  obtain⟨⟨fn,Um,af8,af9⟩,ab2⟩:=hec
  have ka:(execOp a.eval o).run E.P w= .ok (.enter g (args.toList.map a.eval++ev).toArray) w:=by
   have hb:fn.body.isNone=false:=by
    cases hq:fn.body with
    |none=>simp[hq] at af8
    |some _=>rfl
   have jZ:args.map a.eval++ev.toArray=(args.toList.map a.eval++ev).toArray:=by
    apply Kj
    simp
   simp only[execOp,ho,resolve,Yx,Deferred.ofValue,invoke,callFunc,Sem.run_bind,Sem.run_pure,Result.andThen_ok,run_program,Um,af9,hb]
   simp only[Array.empty_append,ft,br,Sem.run_pure,jZ]
  unfold Oper.wp
  rw[ka]
  refine ab2.mono fun e w' hp=> ?_
  cases e with
  |returned v=>exact hp
  |panicked _=>exact hp.elim
  |outgrown=>exact hp.elim
 have alI:∀{g:FuncId} {dA:List (C ⊕ (Nat×Nat))},yT E m nv nt g dA (nA E.P argTypes.toList (args.toList.map (E.ev m)))=some e->e.al=true:=fun he=>by
  unfold yT at he
  split at he
  ·split at he
   ·split at he
    ·cases he;rfl
    ·cases he
   ·cases he
  ·cases he
 have nvC:∀{sz:Nat} {xs:List T},pt nv sz xs=some e->e.nv.isSome=true:=fun he=>by
  unfold pt at he
  split at he
  ·split at he
   ·split at he
    ·split at he
     ·cases he;rfl
     ·cases he
    ·cases he
   ·cases he
  ·cases he
 simp only[aA,ho] at he
 unfold xg at he
 split at he
 ·rename_i g dA hc
  rw[dT hc] at hf
  simp only[T.aE,K.aE,V.aE] at hf
  obtain⟨ev,Yx,mX⟩:=hf
  split at he
  ·split at he
   ·rename_i sz ly
    cases ev with
    |nil=>exact enter g [] Yx (zk hE h hg hd (Gx (nvC he)) ly DW he)
    |cons _ _=>exact mX.elim
   ·cases he
  split at he
  ·exact enter g ev Yx (GS hE h hg hd (Cc (alI he)) mX DW he)
  ·cases dA with
   |nil=>
    cases ev with
    |nil=>exact enter g [] Yx (GP hE h hg hd (nv:=nv) (extra:=[]) (ev:=[]) trivial DW he Bz)
    |cons _ _=>exact mX.elim
   |cons _ _=>cases he
 ·rename_i g dA hc
  rw[dT hc] at hf
  simp only[T.aE,K.aE,V.aE,C.aE] at hf
  obtain⟨ev,Yx,mX⟩:=hf
  split at he
  ·split at he
   ·rename_i sz ly
    cases ev with
    |nil=>exact enter g [] Yx (zk hE h hg hd (Gx (nvC he)) ly DW he)
    |cons _ _=>exact(mT.1 mX).elim
   ·cases he
  split at he
  ·exact enter g ev Yx (GS hE h hg hd (Cc (alI he)) (KJ (mT.1 mX)) DW he)
  ·exact enter g ev Yx (GP hE h hg hd (nv:=nv) (mT.1 mX) DW he Bz)
 ·cases he
theorem KK(hE:pG E)(h:ix F γ m a w)(hg:iy E.gl γ.fr w)(hd:∀t,o.dst=some t->t<F.n)(he:aA E m nv nt o=some e)(Cc:e.al=true->Yw F m nv nt)(Gx:e.nv.isSome=true->m.var nv=none)(Bz:∀i n,(i,n)∈e.ut->i∉e.rt->m.tok i=none):o.wp E.P a w (lr E F (m.apply o.dst nv e)) Q:=by
 have mX:∀x,(E.ev m x).aE γ m.tok w (a.eval x):=fun x=>mr h hg x
 cases ho:o.op with
 |load t x=>exact Nj h hg hd ho he
 |store t x y=>
  cases hh:DC E o with
  |true=>exact Rp h hg hd ho hh he
  |false=>exact KD h hg hd ho hh he
 |call c=>
  obtain⟨callee,args,argTypes⟩:=c
  cases callee with
  |value f=>exact NJ hE h hg hd ho he Cc Gx Bz
  |invoke r mth=>simp[aA,ho] at he
  |builtin b=>
   cases b with
   |append=>
    simp only[aA,ho] at he
    split at he
    ·refine F7 h hg hd ho he (Gx ?_)
     unfold tG at he
     split at he
     ·split at he
      ·split at he
       ·split at he
        ·cases he;rfl
        ·cases he
       ·cases he
      ·cases he
     ·cases he
    ·exact Ip h hg hd ho he Bz
   |len=>
    simp only[aA,ho] at he
    split at he
    ·rename_i t ts x Rj dB
     simp only[aV] at he
     obtain⟨r,hr,rfl⟩:=he
     obtain⟨v,h1,h2⟩:=Nt (ts:=ts) (ty:=o.type) hr (mX x)
     refine cR h hg hd (v:=v) ?_ h2
     have hte:argTypes=(t::ts).toArray:=by rw[<-Rj]
     have Yo:args= #[x]:=by rw[<-Db (xs:=args),dB]
     simp only[execOp,ho,resolve,invoke,builtin,Sem.run_bind,Sem.run_pure,Result.andThen_ok,Yo,hte]
     simp only[List.map_toArray,eY,gp,h1,Result.andThen_ok]
    ·cases he
   |min=>
    simp only[aA,ho] at he
    split at he
    ·rename_i x xs dB
     simp only[aV] at he
     obtain⟨r,hr,rfl⟩:=he
     obtain⟨v,h1,h2⟩:=tN (P:=E.P) true hr (mX x) (CB (fun x=>mX x) xs)
     refine cR h hg hd (v:=v) ?_ h2
     have Yo:args=(x::xs).toArray:=by rw[<-dB]
     simp only[bu] at h1
     simp only[execOp,ho,resolve,invoke,builtin,Sem.run_bind,Sem.run_pure,Result.andThen_ok,Yo,Builtin.min_]
     simp only[List.map_toArray,eY,h1,Result.andThen_ok]
    ·cases he
   |max=>
    simp only[aA,ho] at he
    split at he
    ·rename_i x xs dB
     simp only[aV] at he
     obtain⟨r,hr,rfl⟩:=he
     obtain⟨v,h1,h2⟩:=tN (P:=E.P) false hr (mX x) (CB (fun x=>mX x) xs)
     refine cR h hg hd (v:=v) ?_ h2
     have Yo:args=(x::xs).toArray:=by rw[<-dB]
     simp only[ft,br] at h1
     simp only[execOp,ho,resolve,invoke,builtin,Sem.run_bind,Sem.run_pure,Result.andThen_ok,Yo,Builtin.max_]
     simp only[List.map_toArray,eY,h1,Result.andThen_ok]
    ·cases he
   |_=>simp[aA,ho] at he
 |move x=>
  simp only[aA,ho,av] at he
  subst he
  refine cR h hg hd (by simp[execOp,ho]) (v:=a.eval x) ?_
  cases x with
  |const v=>exact sG (mX _)
  |_=>exact mX _
 |assign x=>
  simp only[aA,ho,av] at he
  subst he
  refine cR h hg hd (by simp[execOp,ho]) (v:=a.eval x) ?_
  cases x with
  |const v=>exact sG (mX _)
  |_=>exact mX _
 |pick c x y=>
  simp only[aA,ho] at he
  split at he
  ·rename_i q hq
   cases he
   have hc:=mX c
   rw[DG hq,ck] at hc
   refine cR h hg hd (v:=if q then a.eval x else a.eval y) (by simp[execOp,ho,hc.1,asBool]) ?_
   cases q
   ·exact mX y
   ·exact mX x
  ·cases he
 |alloc t=>
  simp only[aA,ho] at he
  split at he
  ·rename_i cs hz
   cases he
   obtain⟨z,hzr,Bv,_⟩:=pW (γ:=γ) (tok:=m.tok) (w:=w) hz
   refine ze h hg hd (Gx rfl) Bv (t:=t) ?_
   simp[execOp,ho,Instr.alloc,hzr,newVar,newRow]
  ·cases he
 |box t x=>
  simp only[aA,ho] at he
  split at he
  ·rename_i k hk
   cases he
   have hx:=mX x
   rw[GH hk] at hx
   refine ze h hg hd (Gx rfl) (K.g_ hx) (t:=t) ?_
   simp[execOp,ho,Instr.box,newVar,newRow]
  ·cases he
 |build t parts=>
  simp only[aA,ho,aV] at he
  obtain⟨r,hr,rfl⟩:=he
  obtain⟨v,h1,h2⟩:=Il hr (AO (f:=E.ev m) (g:=a.eval) mX parts.toList)
  refine cR h hg hd (v:=v) ?_ h2
  have hp:(parts.map fun(i,x)=>(i,a.eval x))=(parts.toList.map fun(i,x)=>(i,a.eval x)).toArray:=by apply Kj;simp
  simp only[execOp,ho,hp,Sem.run_bind,h1,Result.andThen_ok,Sem.run_pure]
 |buildSlice t len parts=>
  simp only[aA,ho,aV] at he
  obtain⟨r,hr,rfl⟩:=he
  exact DO h hg hd ho hr
 |makeSlice t l c=>
  simp only[aA,ho] at he
  exact NG h hg hd ho he Gx
 |nilCheck x=>
  have hx:=mX x
  simp only[aA,ho] at he
  split at he
  ·rename_i hc
   cases he
   refine cR h hg hd (v:=a.eval x) ?_ hx
   rw[dT hc] at hx
   simp only[T.aE,K.aE,V.aE] at hx
   obtain⟨_,_,_,hv⟩:=hx
   simp[execOp,ho,hv]
  ·rename_i hc
   cases he
   refine cR h hg hd (v:=a.eval x) ?_ hx
   rw[dT hc] at hx
   simp only[T.aE,K.aE,V.aE,C.aE] at hx
   obtain⟨_,_,hv,_⟩:=hx
   simp[execOp,ho,hv]
  ·rename_i hc
   cases he
   refine cR h hg hd (v:=a.eval x) ?_ hx
   rw[dT hc] at hx
   simp only[T.aE,K.aE,V.aE] at hx
   obtain⟨_,hv,_⟩:=hx
   simp[execOp,ho,hv]
  ·rename_i hc
   cases he
   refine cR h hg hd (v:=a.eval x) ?_ hx
   rw[dT hc] at hx
   simp only[T.aE,K.aE,V.aE,C.aE] at hx
   obtain⟨_,hv,_⟩:=hx
   simp[execOp,ho,hv]
  ·cases he
 |makeInterface t x=>
  simp only[aA,ho,aV] at he
  obtain⟨r,hr,rfl⟩:=he
  obtain⟨v,h1,h2⟩:=Ii (P:=E.P) hr (mX x)
  exact cR h hg hd (v:=v) (by simp[execOp,ho,h1]) h2
 |binOp op t x y yt=>
  simp only[aA,ho] at he
  split at he
  ·rename_i r hr
   cases he
   obtain⟨v,h1,h2⟩:=Ij (γ:=γ) (tok:=m.tok) (w:=w) (P:=E.P) (ox:=x) hr (mX x)
   refine cR h hg hd (v:=v) ?_ h2
   have hy:y= .const .nilIface:=by
    unfold u3 at hr
    split at hr
    ·rfl
    ·cases hr
   subst hy
   simp only[execOp,ho]
   rw[Sem.run_bind,show a.eval (.const .nilIface)= .nilIface from rfl,h1]
   rfl
  simp only[aV] at he
  obtain⟨r,hr,rfl⟩:=he
  obtain⟨v,h1,h2⟩:=No (ox:=x) (oy:=y) hr (mX x) (mX y)
  refine cR h hg hd (v:=v) ?_ h2
  simp only[execOp,ho]
  rw[Sem.run_bind,h1]
  rfl
 |unOp op t x=>
  simp only[aA,ho,aV] at he
  obtain⟨r,hr,rfl⟩:=he
  obtain⟨v,h1,h2⟩:=Rg (P:=E.P) hr (mX x)
  exact cR h hg hd (v:=v) (by simp[execOp,ho,h1]) h2
 |convert iY dst x=>
  simp only[aA,ho,aV] at he
  obtain⟨r,hr,rfl⟩:=he
  obtain⟨v,h1,h2⟩:=KA (P:=E.P) hr (kX h (mX x))
  obtain⟨u,rfl⟩:=Nr hr
  exact cR h hg hd (v:=v) (by simp[execOp,ho,h1]) (ck.2 (ck.1 h2))
 |makeFunc fn first dA=>
  cases fn with
  |func f=>
   simp only[aA,ho] at he
   split at he
   ·rename_i hf
    simp only[aV] at he
    obtain⟨cs,mv,rfl⟩:=he
    have hfe:first= #[]:=by simpa using hf
    have hc:bj (ph γ w) cs (dA.toList.map a.eval):=KB (fun x b _ hb=>DK hb (mX x)) mv
    refine cR h hg hd (v:= .func (.func f) #[] (dA.map a.eval)) (by simp[execOp,ho,Instr.makeFunc,hfe]) ?_
    simp only[T.aE,K.aE,V.aE]
    exact⟨dA.toList.map a.eval,by congr 1;apply Kj;simp,hc⟩
   ·cases he
  |_=>simp[aA,ho] at he
 |slice t x lo hi mx=>
  simp only[aA,ho,aV] at he
  obtain⟨r,hr,rfl⟩:=he
  obtain⟨v,h1,h2⟩:=Io (P:=E.P) hr (mX x) (xM mX lo) (xM mX hi) (xM mX mx)
  exact cR h hg hd (v:=v) (by simp[execOp,ho,h1]) h2
 |fieldAddr s x i=>
  simp only[aA,ho,aV] at he
  obtain⟨r,hr,rfl⟩:=he
  obtain⟨v,h1,h2⟩:=AM (P:=E.P) hr (mX x)
  exact cR h hg hd (v:=v) (by simp[execOp,ho,h1]) h2
 |field s x i=>
  simp only[aA,ho,aV] at he
  obtain⟨r,hr,rfl⟩:=he
  obtain⟨v,h1,h2⟩:=Im (P:=E.P) hr (mX x)
  exact cR h hg hd (v:=v) (by simp[execOp,ho,h1]) h2
 |indexAddr t x i=>
  simp only[aA,ho,aV] at he
  obtain⟨r,hr,rfl⟩:=he
  obtain⟨v,h1,h2⟩:=AN (P:=E.P) hr (mX x) (mX i)
  exact cR h hg hd (v:=v) (by simp[execOp,ho,h1]) h2
 |index t x i=>
  simp only[aA,ho,aV] at he
  obtain⟨r,hr,rfl⟩:=he
  obtain⟨v,h1,h2⟩:=In (P:=E.P) hr (mX x) (mX i)
  exact cR h hg hd (v:=v) (by simp[execOp,ho,h1]) h2
 |lookup t x i ok=>
  simp only[aA,ho,aV] at he
  obtain⟨r,hr,rfl⟩:=he
  obtain⟨v,h1,h2⟩:=F4 (P:=E.P) hr (mX x) (mX i)
  exact cR h hg hd (v:=v) (by simp[execOp,ho,h1]) h2
 |extract x i=>
  have hx:=mX x
  simp only[aA,ho] at he
  split at he
  ·rename_i ks hk
   rw[hk] at hx
   simp only[aV] at he
   obtain⟨k,hki,rfl⟩:=he
   simp only[T.aE] at hx
   obtain⟨vs,hv,NH⟩:=hx
   obtain⟨v,hvi,hr⟩:=NH.get i k hki
   exact cR h hg hd (v:=v) (by simp[execOp,ho,hv,Instr.extract,hvi]) (by simpa only[T.aE] using hr)
  ·cases he
 |_=>simp[aA,ho] at he
open Go.RowKit
variable{m':Mem}
theorem KL{dA:List (C ⊕ (Nat×Nat))}(h:∀id∈dA.flatMap qw,m'.var id=m.var id):dA.mapM (uA m')=dA.mapM (uA m):=by
 induction dA with
 |nil=>rfl
 |cons x xs ih=>
  rw[fv,fv,ih (fun id gm=>h id (by simp only[pg,df];exact .inr gm))]
  congr 1
  cases x with
  |inl x=>rfl
  |inr p=>simp only[uA,yS,h p.1 (by simp[qw])]
theorem iO{P:Program}{m m':Mem}:∀{tm:List TypeId} {xs:List T} {k:Nat} {as:List A} {ls:List (Nat×Nat×List C)} {rs:List Nat},gu P m tm xs k=some (as,ls,rs)->
 (∀id∈rs,m'.var id=m.var id)->(∀l∈ls,m'.var l.1=m.var l.1)->gu P m' tm xs k=some (as,ls,rs)
 |[],[],k,as,ls,rs,h,_,_=>h
 |t::ts,x::xs,k,as,ls,rs,h,hr,hl=>by
  simp only[gu] at h ⊢
  split at h
  ·split at h
   ·rename_i cs uH Rm Ke mv i8
    simp only[av,aY] at h
    obtain⟨rfl,rfl,rfl⟩:=h
    simp only[mv,iO i8 hr hl]
   ·cases h
  ·rename_i id off
   split at h
   ·rename_i e ys hu hv
    split at h
    ·rename_i rZ
     split at h
     ·rename_i cs uH Rm Ke mv i8
      simp only[av,aY] at h
      obtain⟨rfl,rfl,rfl⟩:=h
      have h1:=hl (id,off,cs) (by simp)
      simp only at h1
      simp only[hu,h1,hv,rZ,bu,mv,iO i8 hr (fun l Ay=>hl l (by simp[Ay]))]
     ·cases h
    ·cases h
   ·cases h
  ·rename_i id off sz n
   split at h
   ·rename_i cs mv
    split at h
    ·rename_i es uH Rm Ke xJ i8
     simp only[av,aY] at h
     obtain⟨rfl,rfl,rfl⟩:=h
     have hs:yS m' id off=some cs:=by unfold yS at mv ⊢;rw[hr id (by simp)];exact mv
     simp only[hs,xJ,iO i8 (fun i hi=>hr i (by simp[hi])) hl]
    ·cases h
   ·cases h
  ·rename_i f dA
   split at h
   ·rename_i cs uH Rm Ke mv i8
    simp only[av,aY] at h
    obtain⟨rfl,rfl,rfl⟩:=h
    rw[<-KL (m':=m') (fun i hi=>hr i (by simp only[df];exact .inl hi))] at mv
    simp only[mv,iO i8 (fun i hi=>hr i (by simp[hi])) hl]
   ·cases h
  ·split at h
   ·rename_i c uH Rm Ke mv i8
    simp only[av,aY] at h
    obtain⟨rfl,rfl,rfl⟩:=h
    simp only[mv,iO i8 hr hl]
   ·cases h
  ·cases h
 |[],_::_,_,_,_,_,h,_,_=>by simp[gu] at h
 |_::_,[],_,_,_,_,h,_,_=>by simp[gu] at h
theorem Iy{extra:List C}(he:pm E m nt g extra tm xs=some e)(hv:∀id∈e.rv,m'.var id=m.var id):pm E m' nt g extra tm xs=some e:=by
 unfold pm at he ⊢
 split at he
 ·rename_i as ls rs dB
  split at he
  ·rename_i rp ip hF
   simp only at he
   split at he
   ·split at he
    ·rename_i hc
     cases he
     rw[iO dB hv (by simp)]
     simp only[hF,hc,bu]
    ·rename_i hc
     cases he
     rw[iO dB hv (by simp)]
     simp only[hF,hc,br,ft]
   ·rename_i id off cs ds
    split at he
    ·rename_i ys akn
     split at he
     ·rename_i hc
      cases he
      have hrs:rs=[]:=by simpa using hc.1
      subst hrs
      have h1:=hv id (by simp)
      rw[iO dB (by simp) (fun l hl=>by simp at hl;subst hl;exact h1)]
      simp only[hF,h1,akn]
      rw[aP hc]
     ·cases he
    ·cases he
   ·cases he
  ·cases he
 ·cases he
theorem DY{m m':Mem}:∀{as:List A} {xs:List T} {uH:List A} {j n:Nat},AH m as xs=some (uH,j,n)->m'.tok j=m.tok j->AH m' as xs=some (uH,j,n)
 |a0::as,x::xs,uH,j,n,h,hj=>by
  simp only[AH] at h ⊢
  split at h
  ·split at h
   ·rename_i hi
    cases h
    rw[aP (by rw[hj];exact hi)]
   ·cases h
  ·simp only[aV] at h
   obtain⟨⟨as1,j1,n1⟩,hr,he⟩:=h
   simp only[aY] at he
   obtain⟨rfl,rfl,rfl⟩:=he
   rw[DY hr hj]
   rfl
 |[],_,_,_,_,h,_=>by simp[AH] at h
 |_::_,[],_,_,_,h,_=>by simp[AH] at h
theorem BD{extra:List C}(he:sD E m nt g extra tm xs=some e)(hv:∀id∈e.rv,m'.var id=m.var id)(hk:∀i∈e.rt,m'.tok i=m.tok i):sD E m' nt g extra tm xs=some e:=by
 unfold sD at he ⊢
 split at he
 ·rename_i hc
  rw[aP hc]
  unfold tH at he ⊢
  split at he
  ·rename_i as dB
   split at he
   ·rename_i uH j n DI
    split at he
    ·rename_i rp hF
     split at he
     ·rename_i hjn
      cases he
      rw[iO dB (by simp) (by simp)]
      simp only[DY DI (hk j (by simp[u6])),hF,hjn,bu]
     ·cases he
    ·cases he
   ·cases he
  ·cases he
 ·rename_i hc
  rw[aR hc]
  exact Iy he hv
variable{P:Program}
theorem F9(he:pR P m nt tm xs=some e)(hk:∀i∈e.rt,m'.tok i=m.tok i):pR P m' nt tm xs=some e:=by
 unfold pR at he ⊢
 split at he
 ·split at he
  ·split at he
   ·split at he
    ·rename_i hc
     rw[aP hc]
     split at he
     ·exact he
     ·split at he
      ·rename_i uM
       cases he
       rw[aP ⟨uM.1,by rw[hk _ (by simp)];exact uM.2⟩]
      ·cases he
    ·cases he
   ·cases he
  ·cases he
 ·cases he
theorem GT(h:∀id∈x.fT,m'.var id=m.var id):x.Ie m'=x.Ie m:=by
 cases x with
 |sC id off sz n=>simp only[V.Ie,yS,h id (by simp[V.fT])]
 |_=>rfl
theorem DZ{m m':Mem}:∀{xs:List V},(∀id∈xs.flatMap V.fT,m'.var id=m.var id)->xs.mapM (V.Ie m')=xs.mapM (V.Ie m)
 |[],_=>rfl
 |x::xs,h=>by
  rw[fv,fv,GT (fun id gm=>h id (by simp only[pg,df];exact .inl gm)),DZ (fun id gm=>h id (by simp only[pg,df];exact .inr gm))]
variable{off:Nat}{ks:List V}
theorem vk{xs:List V}(he:mD m id off xs ks=some e):e.rv=id::ks.flatMap V.fT/\e.ut=[]:=by
 unfold mD at he
 split at he
 ·split at he
  ·cases he
  ·cases he;exact⟨rfl,rfl⟩
 ·cases he
theorem D0{xs:List V}(he:mD m id off xs ks=some e)(hv:∀i∈e.rv,m'.var i=m.var i):mD m' id off xs ks=some e:=by
 have hr:=(vk he).1
 unfold mD at he ⊢
 rw[DZ (fun i hi=>hv i (by rw[hr];exact ch _ hi))]
 exact he
theorem Iz(he:aA E m nv nt o=some e)(Cc:e.al=false)(ht:∀x∈o.op.operands,E.ev m' x=E.ev m x)(hv:∀id∈e.rv,m'.var id=m.var id)(hk:∀i∈e.rt,m'.tok i=m.tok i):
 aA E m' nv nt o=some e:=by
 have agb:∀(xs:Array Operand),(∀x∈xs,x∈o.op.operands)->xs.toList.map (E.ev m')=xs.toList.map (E.ev m):=fun xs h=>tA fun x hx=>ht x (h x (by simpa using hx))
 have DP:∀(ps:Array (Nat×Operand)),(∀p∈ps,p.2∈o.op.operands)->(ps.toList.map fun(i,x)=>(i,E.ev m' x))=ps.toList.map fun(i,x)=>(i,E.ev m x):=fun ps h=>tA fun p hp=>by
  obtain⟨i,x⟩:=p
  simp only[ht x (h (i,x) (by simpa using hp))]
 cases ho:o.op with
 |load t x=>
  have h1:=ht x (by simp[ho,Op.operands])
  simp only[aA,ho,h1] at he ⊢
  split at he
  ·rename_i id off hc
   split at he
   ·rename_i xs hx
    simp only[aV] at he
    obtain⟨k,hk',rfl⟩:=he
    simp only[hv id (by simp),hx,hk',dw]
   ·cases he
  ·exact he
  ·cases he
 |store t x y=>
  have h1:=ht x (by simp[ho,Op.operands])
  have h2:=ht y (by simp[ho,Op.operands])
  simp only[aA,ho,h1,h2] at he ⊢
  split at he
  ·rename_i id off k hc hkk
   split at he
   ·rename_i xs hx
    split at he
    ·rename_i co
     split at he
     ·rename_i hh
      have gm:=hv id (by rw[(vk he).1];simp)
      simp only[gm,hx]
      rw[aP co,aP hh]
      exact D0 he hv
     ·rename_i hh
      cases he
      simp only[hv id (by simp),hx]
      rw[aP co,aR hh]
    ·cases he
   ·cases he
  ·cases he
 |call c=>
  obtain⟨callee,args,argTypes⟩:=c
  cases callee with
  |value f=>
   have h1:=ht f (by simp[ho,Op.operands,Call.operands])
   have h2:=agb args (fun x hx=>by simp[ho,Op.operands,Call.operands,hx])
   simp only[aA,ho,h1,h2] at he ⊢
   have noI:∀{g:FuncId} {dA:List (C ⊕ (Nat×Nat))} {xs:List T},yT E m nv nt g dA xs=some e->False:=fun he=>by
    unfold yT at he
    split at he
    ·split at he
     ·split at he
      ·cases he;simp[xD] at Cc
      ·cases he
     ·cases he
    ·cases he
   unfold xg at he ⊢
   split at he
   ·rename_i g dA hc
    split at he
    ·rename_i AQ
     rw[aP AQ]
     exact he
    rename_i AQ
    rw[aR AQ]
    split at he
    ·exact(noI he).elim
    ·rename_i F5
     rw[aR F5]
     cases dA with
     |nil=>exact BD he hv hk
     |cons _ _=>cases he
   ·rename_i g dA hc
    split at he
    ·rename_i AQ
     rw[aP AQ]
     exact he
    rename_i AQ
    rw[aR AQ]
    split at he
    ·exact(noI he).elim
    ·rename_i F5
     rw[aR F5]
     exact BD he hv hk
   ·cases he
  |invoke r mth=>simp[aA,ho] at he
  |builtin b=>
   have h2:=agb args (fun x hx=>by simp[ho,Op.operands,Call.operands,hx])
   have h3:∀x∈args.toList,E.ev m' x=E.ev m x:=fun x hx=>ht x (by simp[ho,Op.operands,Call.operands];simpa using hx)
   cases b with
   |append=>
    simp only[aA,ho,h2] at he ⊢
    split at he
    ·rename_i hc
     rw[aP hc];exact he
    ·rename_i hc
     rw[aR hc];exact F9 he hk
   |len=>
    simp only[aA,ho] at he ⊢
    split at he
    ·rename_i t ts x Rj dB
     rw[h3 x (by simp[dB])]
     exact he
    ·cases he
   |min=>
    simp only[aA,ho] at he ⊢
    split at he
    ·rename_i x xs dB
     rw[dB] at h3
     rw[h3 x (by simp),tA (fun y hy=>h3 y (by simp[hy]))]
     exact he
    ·cases he
   |max=>
    simp only[aA,ho] at he ⊢
    split at he
    ·rename_i x xs dB
     rw[dB] at h3
     rw[h3 x (by simp),tA (fun y hy=>h3 y (by simp[hy]))]
     exact he
    ·cases he
   |_=>simp[aA,ho] at he
 |build t parts=>
  simp only[aA,ho,DP parts (fun p hp=>by simp only[ho,Op.operands];simpa using⟨p.1,hp⟩)] at he ⊢
  exact he
 |buildSlice t len parts=>
  simp only[aA,ho,DP parts (fun p hp=>by simp only[ho,Op.operands];simpa using⟨p.1,hp⟩)] at he ⊢
  exact he
 |makeFunc fn first dA=>
  cases fn with
  |func f=>
   have h2:(dA.toList.mapM fun x=>u5 (E.ev m' x))=dA.toList.mapM fun x=>u5 (E.ev m x):=by
    have:∀x∈dA.toList,E.ev m' x=E.ev m x:=fun x hx=>ht x (by simp[ho,Op.operands];exact .inr (by simpa using hx))
    clear he
    generalize dA.toList=l at this
    induction l with
    |nil=>rfl
    |cons y ys ih=>
     rw[fv,fv,this y (by simp),ih (fun x hx=>this x (by simp[hx]))]
   simp only[aA,ho,h2] at he ⊢
   exact he
  |_=>simp[aA,ho] at he
 |slice t x lo hi mx=>
  have h1:=ht x (by simp[ho,Op.operands])
  have h2:lo.map (E.ev m')=lo.map (E.ev m):=by
   cases lo with
   |none=>rfl
   |some y=>simp[ht y (by simp[ho,Op.operands])]
  have h3:hi.map (E.ev m')=hi.map (E.ev m):=by
   cases hi with
   |none=>rfl
   |some y=>simp[ht y (by simp[ho,Op.operands])]
  have h4:mx.map (E.ev m')=mx.map (E.ev m):=by
   cases mx with
   |none=>rfl
   |some y=>simp[ht y (by simp[ho,Op.operands])]
  simp only[aA,ho,h1,h2,h3,h4] at he ⊢
  exact he
 |move x=>have h1:=ht x (by simp[ho,Op.operands]);cases x<;>simp only[aA,ho,h1] at he ⊢ <;>exact he
 |assign x=>have h1:=ht x (by simp[ho,Op.operands]);cases x<;>simp only[aA,ho,h1] at he ⊢ <;>exact he
 |pick c x y=>
  have h1:=ht c (by simp[ho,Op.operands])
  have h2:=ht x (by simp[ho,Op.operands])
  have h3:=ht y (by simp[ho,Op.operands])
  simp only[aA,ho,h1,h2,h3] at he ⊢;exact he
 |alloc t=>simpa only[aA,ho] using he
 |box t x=>have h1:=ht x (by simp[ho,Op.operands]);simp only[aA,ho,h1] at he ⊢;exact he
 |makeSlice t x y=>
  have h1:=ht x (by simp[ho,Op.operands])
  have h2:=ht y (by simp[ho,Op.operands])
  simp only[aA,ho,h1,h2] at he ⊢;exact he
 |nilCheck x=>have h1:=ht x (by simp[ho,Op.operands]);simp only[aA,ho,h1] at he ⊢;exact he
 |binOp op t x y yt=>
  have h1:=ht x (by simp[ho,Op.operands])
  have h2:=ht y (by simp[ho,Op.operands])
  simp only[aA,ho,h1,h2] at he ⊢;exact he
 |unOp op t x=>have h1:=ht x (by simp[ho,Op.operands]);simp only[aA,ho,h1] at he ⊢;exact he
 |makeInterface t x=>have h1:=ht x (by simp[ho,Op.operands]);simp only[aA,ho,h1] at he ⊢;exact he
 |convert s d x=>
  have h1:=ht x (by simp[ho,Op.operands])
  simp only[aA,ho,h1,aV] at he ⊢
  obtain⟨y,hy,rfl⟩:=he
  have hs:(E.ev m x).still m'=(E.ev m x).still m:=by
   unfold T.still
   split
   ·rename_i id off sz n hx
    rw[GT (m:=m) (m':=m') (x:= .sC id off sz n) (fun i hi=>hv i (by rw[hx];exact hi))]
   ·rfl
  exact⟨y,by rw[hs];exact hy,rfl⟩
 |fieldAddr s x i=>have h1:=ht x (by simp[ho,Op.operands]);simp only[aA,ho,h1] at he ⊢;exact he
 |field s x i=>have h1:=ht x (by simp[ho,Op.operands]);simp only[aA,ho,h1] at he ⊢;exact he
 |indexAddr t x i=>
  have h1:=ht x (by simp[ho,Op.operands])
  have h2:=ht i (by simp[ho,Op.operands])
  simp only[aA,ho,h1,h2] at he ⊢;exact he
 |index t x i=>
  have h1:=ht x (by simp[ho,Op.operands])
  have h2:=ht i (by simp[ho,Op.operands])
  simp only[aA,ho,h1,h2] at he ⊢;exact he
 |lookup t x i ok=>
  have h1:=ht x (by simp[ho,Op.operands])
  have h2:=ht i (by simp[ho,Op.operands])
  simp only[aA,ho,h1,h2] at he ⊢;exact he
 |extract x i=>have h1:=ht x (by simp[ho,Op.operands]);simp only[aA,ho,h1] at he ⊢;exact he
 |_=>simp[aA,ho] at he
theorem Un(he:aA E m nv nt o=some e):∀i n,(i,n)∈e.ut->i∈e.rt\/nt<=i:=by
 have KM:∀{g:FuncId} {extra:List C} {tm:List TypeId} {xs:List T},sD E m nt g extra tm xs=some e->∀i n,(i,n)∈e.ut->i∈e.rt\/nt<=i:=by
  intro g extra tm xs he i n hi
  unfold sD at he
  split at he
  ·unfold tH at he
   split at he
   ·split at he
    ·split at he
     ·split at he
      ·cases he
       simp only[u6,cM,aY] at hi
       rcases hi with⟨rfl,_⟩|hi
       ·left;simp[u6]
       ·exact .inr (nH hi)
      ·cases he
     ·cases he
    ·cases he
   ·cases he
  unfold pm at he
  split at he
  ·split at he
   ·simp only at he
    split at he
    ·split at he
     ·cases he;exact .inr (nH hi)
     ·cases he;exact .inr (nH hi)
    ·split at he
     ·split at he
      ·cases he;exact .inr (nH hi)
      ·cases he
     ·cases he
    ·cases he
   ·cases he
  ·cases he
 intro i n hi
 cases ho:o.op with
 |call c=>
  obtain⟨callee,args,argTypes⟩:=c
  cases callee with
  |value f=>
   simp only[aA,ho] at he
   have inU:∀{g:FuncId} {dA:List (C ⊕ (Nat×Nat))} {xs:List T},yT E m nv nt g dA xs=some e->i∈e.rt\/nt<=i:=fun he=>by
    unfold yT at he
    split at he
    ·split at he
     ·rename_i rs jQ nX _
      split at he
      ·cases he
       left
       have:∀(l:List Nat) (k:Nat),(i,n)∈If k l->i<k+l.length:=by
        intro l
        induction l with
        |nil=>intro k h;simp[If] at h
        |cons x l ih=>
         intro k h
         simp only[If,cM,aY] at h
         rcases h with⟨rfl,_⟩|h
         ·simp
         ·have:=ih (k+1) h
          simp only[cV]
          omega
       have:=this nX 0 hi
       show i∈List.range nX.length
       rw[tC]
       omega
      ·cases he
     ·cases he
    ·cases he
   have clU:∀{sz:Nat} {xs:List T},pt nv sz xs=some e->i∈e.rt\/nt<=i:=fun he=>by
    unfold pt at he
    split at he
    ·split at he
     ·split at he
      ·split at he
       ·cases he;simp at hi
       ·cases he
      ·cases he
     ·cases he
    ·cases he
   unfold xg at he
   split at he
   ·rename_i g dA hc
    split at he
    ·split at he
     ·exact clU he
     ·cases he
    split at he
    ·exact inU he
    ·cases dA with
     |nil=>exact KM he i n hi
     |cons _ _=>cases he
   ·split at he
    ·split at he
     ·exact clU he
     ·cases he
    split at he
    ·exact inU he
    ·exact KM he i n hi
   ·cases he
  |invoke r mth=>simp[aA,ho] at he
  |builtin b=>
   cases b with
   |append=>
    simp only[aA,ho] at he
    split at he
    ·unfold tG at he
     split at he
     ·split at he
      ·split at he
       ·split at he
        ·cases he;simp at hi
        ·cases he
       ·cases he
      ·cases he
     ·cases he
    unfold pR at he
    split at he
    ·split at he
     ·split at he
      ·split at he
       ·split at he
        ·cases he;simp at hi;right;omega
        ·split at he
         ·cases he;simp at hi;left;simp[hi.1]
         ·cases he
       ·cases he
      ·cases he
     ·cases he
    ·cases he
   |len=>
    simp only[aA,ho] at he
    split at he
    ·simp only[aV] at he;obtain⟨_,_,rfl⟩:=he;simp at hi
    ·cases he
   |min=>
    simp only[aA,ho] at he
    split at he
    ·simp only[aV] at he;obtain⟨_,_,rfl⟩:=he;simp at hi
    ·cases he
   |max=>
    simp only[aA,ho] at he
    split at he
    ·simp only[aV] at he;obtain⟨_,_,rfl⟩:=he;simp at hi
    ·cases he
   |_=>simp[aA,ho] at he
 |load t x=>
  simp only[aA,ho] at he
  split at he
  ·split at he
   ·simp only[aV] at he;obtain⟨_,_,rfl⟩:=he;simp at hi
   ·cases he
  ·simp only[aV] at he;obtain⟨_,_,rfl⟩:=he;simp at hi
  ·cases he
 |store t x y=>
  simp only[aA,ho] at he
  split at he
  ·split at he
   ·split at he
    ·split at he
     ·rw[(vk he).2] at hi
      simp at hi
     ·cases he;simp at hi
    ·cases he
   ·cases he
  ·cases he
 |makeFunc fn first dA=>
  cases fn with
  |func f=>
   simp only[aA,ho] at he
   split at he
   ·simp only[aV] at he;obtain⟨_,_,rfl⟩:=he;simp at hi
   ·cases he
  |_=>simp[aA,ho] at he
 |move x=>simp only[aA,ho,av] at he;subst he;simp at hi
 |assign x=>simp only[aA,ho,av] at he;subst he;simp at hi
 |pick c x y=>
  simp only[aA,ho] at he
  split at he
  ·cases he;simp at hi
  ·cases he
 |alloc t=>
  simp only[aA,ho] at he
  split at he
  ·cases he;simp at hi
  ·cases he
 |box t x=>
  simp only[aA,ho] at he
  split at he
  ·cases he;simp at hi
  ·cases he
 |makeSlice t l c=>
  simp only[aA,ho,DB] at he
  split at he
  ·split at he
   ·split at he
    ·split at he
     ·cases he;simp at hi
     ·cases he;simp at hi
    ·cases he
   ·cases he
  ·cases he
 |nilCheck x=>
  simp only[aA,ho] at he
  split at he<;>first|(cases he;simp at hi;done)|(cases he;done)
 |extract x i=>
  simp only[aA,ho] at he
  split at he
  ·simp only[aV] at he;obtain⟨_,_,rfl⟩:=he;simp at hi
  ·cases he
 |build t parts=>simp only[aA,ho,aV] at he;obtain⟨_,_,rfl⟩:=he;simp at hi
 |buildSlice t len parts=>simp only[aA,ho,aV] at he;obtain⟨_,_,rfl⟩:=he;simp at hi
 |makeInterface t x=>simp only[aA,ho,aV] at he;obtain⟨_,_,rfl⟩:=he;simp at hi
 |binOp op t x y yt=>
  simp only[aA,ho] at he
  split at he
  ·cases he;simp at hi
  ·simp only[aV] at he;obtain⟨_,_,rfl⟩:=he;simp at hi
 |unOp op t x=>simp only[aA,ho,aV] at he;obtain⟨_,_,rfl⟩:=he;simp at hi
 |convert s d x=>simp only[aA,ho,aV] at he;obtain⟨_,_,rfl⟩:=he;simp at hi
 |slice t x lo Km mx=>simp only[aA,ho,aV] at he;obtain⟨_,_,rfl⟩:=he;simp at hi
 |fieldAddr s x i=>simp only[aA,ho,aV] at he;obtain⟨_,_,rfl⟩:=he;simp at hi
 |field s x i=>simp only[aA,ho,aV] at he;obtain⟨_,_,rfl⟩:=he;simp at hi
 |indexAddr t x i=>simp only[aA,ho,aV] at he;obtain⟨_,_,rfl⟩:=he;simp at hi
 |index t x i=>simp only[aA,ho,aV] at he;obtain⟨_,_,rfl⟩:=he;simp at hi
 |lookup t x i ok=>simp only[aA,ho,aV] at he;obtain⟨_,_,rfl⟩:=he;simp at hi
 |_=>simp[aA,ho] at he
theorem Yy(he:aA E m nv nt o=some e)(hs:∀t x y,o.op≠ .store t x y):e.pv=none:=by
 have KM:∀{g:FuncId} {extra:List C} {tm:List TypeId} {xs:List T},sD E m nt g extra tm xs=some e->e.pv=none:=by
  intro g extra tm xs he
  unfold sD at he
  split at he
  ·unfold tH at he
   split at he
   ·split at he
    ·split at he
     ·split at he
      ·cases he
       rfl
      ·cases he
     ·cases he
    ·cases he
   ·cases he
  unfold pm at he
  split at he
  ·split at he
   ·simp only at he
    split at he
    ·split at he
     ·cases he;rfl
     ·cases he;rfl
    ·split at he
     ·split at he
      ·cases he;rfl
      ·cases he
     ·cases he
    ·cases he
   ·cases he
  ·cases he
 cases ho:o.op with
 |call c=>
  obtain⟨callee,args,argTypes⟩:=c
  cases callee with
  |value f=>
   simp only[aA,ho] at he
   have inU:∀{g:FuncId} {dA:List (C ⊕ (Nat×Nat))} {xs:List T},yT E m nv nt g dA xs=some e->e.pv=none:=fun he=>by
    unfold yT at he
    split at he
    ·split at he
     ·rename_i rs jQ nX _
      split at he
      ·cases he;rfl
      ·cases he
     ·cases he
    ·cases he
   have clU:∀{sz:Nat} {xs:List T},pt nv sz xs=some e->e.pv=none:=fun he=>by
    unfold pt at he
    split at he
    ·split at he
     ·split at he
      ·split at he
       ·cases he;rfl
       ·cases he
      ·cases he
     ·cases he
    ·cases he
   unfold xg at he
   split at he
   ·rename_i g dA hc
    split at he
    ·split at he
     ·exact clU he
     ·cases he
    split at he
    ·exact inU he
    ·cases dA with
     |nil=>exact KM he
     |cons _ _=>cases he
   ·split at he
    ·split at he
     ·exact clU he
     ·cases he
    split at he
    ·exact inU he
    ·exact KM he
   ·cases he
  |invoke r mth=>simp[aA,ho] at he
  |builtin b=>
   cases b with
   |append=>
    simp only[aA,ho] at he
    split at he
    ·unfold tG at he
     split at he
     ·split at he
      ·split at he
       ·split at he
        ·cases he;rfl
        ·cases he
       ·cases he
      ·cases he
     ·cases he
    unfold pR at he
    split at he
    ·split at he
     ·split at he
      ·split at he
       ·split at he
        ·cases he;rfl
        ·split at he
         ·cases he;rfl
         ·cases he
       ·cases he
      ·cases he
     ·cases he
    ·cases he
   |len=>
    simp only[aA,ho] at he
    split at he
    ·simp only[aV] at he;obtain⟨_,_,rfl⟩:=he;rfl
    ·cases he
   |min=>
    simp only[aA,ho] at he
    split at he
    ·simp only[aV] at he;obtain⟨_,_,rfl⟩:=he;rfl
    ·cases he
   |max=>
    simp only[aA,ho] at he
    split at he
    ·simp only[aV] at he;obtain⟨_,_,rfl⟩:=he;rfl
    ·cases he
   |_=>simp[aA,ho] at he
 |load t x=>
  simp only[aA,ho] at he
  split at he
  ·split at he
   ·simp only[aV] at he;obtain⟨_,_,rfl⟩:=he;rfl
   ·cases he
  ·simp only[aV] at he;obtain⟨_,_,rfl⟩:=he;rfl
  ·cases he
 |store t x y=>exact absurd ho (hs t x y)
 |makeFunc fn first dA=>
  cases fn with
  |func f=>
   simp only[aA,ho] at he
   split at he
   ·simp only[aV] at he;obtain⟨_,_,rfl⟩:=he;rfl
   ·cases he
  |_=>simp[aA,ho] at he
 |move x=>simp only[aA,ho,av] at he;subst he;rfl
 |assign x=>simp only[aA,ho,av] at he;subst he;rfl
 |pick c x y=>
  simp only[aA,ho] at he
  split at he
  ·cases he;rfl
  ·cases he
 |alloc t=>
  simp only[aA,ho] at he
  split at he
  ·cases he;rfl
  ·cases he
 |box t x=>
  simp only[aA,ho] at he
  split at he
  ·cases he;rfl
  ·cases he
 |makeSlice t l c=>
  simp only[aA,ho,DB] at he
  split at he
  ·split at he
   ·split at he
    ·split at he
     ·cases he;rfl
     ·cases he;rfl
    ·cases he
   ·cases he
  ·cases he
 |nilCheck x=>
  simp only[aA,ho] at he
  split at he<;>first|(cases he;rfl;done)|(cases he;done)
 |extract x i=>
  simp only[aA,ho] at he
  split at he
  ·simp only[aV] at he;obtain⟨_,_,rfl⟩:=he;rfl
  ·cases he
 |build t parts=>simp only[aA,ho,aV] at he;obtain⟨_,_,rfl⟩:=he;rfl
 |buildSlice t len parts=>simp only[aA,ho,aV] at he;obtain⟨_,_,rfl⟩:=he;rfl
 |makeInterface t x=>simp only[aA,ho,aV] at he;obtain⟨_,_,rfl⟩:=he;rfl
 |binOp op t x y yt=>
  simp only[aA,ho] at he
  split at he
  ·cases he;rfl
  ·simp only[aV] at he;obtain⟨_,_,rfl⟩:=he;rfl
 |unOp op t x=>simp only[aA,ho,aV] at he;obtain⟨_,_,rfl⟩:=he;rfl
 |convert s d x=>simp only[aA,ho,aV] at he;obtain⟨_,_,rfl⟩:=he;rfl
 |slice t x lo Km mx=>simp only[aA,ho,aV] at he;obtain⟨_,_,rfl⟩:=he;rfl
 |fieldAddr s x i=>simp only[aA,ho,aV] at he;obtain⟨_,_,rfl⟩:=he;rfl
 |field s x i=>simp only[aA,ho,aV] at he;obtain⟨_,_,rfl⟩:=he;rfl
 |indexAddr t x i=>simp only[aA,ho,aV] at he;obtain⟨_,_,rfl⟩:=he;rfl
 |index t x i=>simp only[aA,ho,aV] at he;obtain⟨_,_,rfl⟩:=he;rfl
 |lookup t x i ok=>simp only[aA,ho,aV] at he;obtain⟨_,_,rfl⟩:=he;rfl
 |_=>simp[aA,ho] at he
theorem D3(he:aA E m nv nt o=some e)(hp:e.pv=some (id,off,ks)):
 ∃t x y k xs,o.op= .store t x y/\(E.ev m x).cell? =some (.fX id off)/\(Kw E.P t (E.ev m y)).k? =some k/\k.cells=ks/\m.var id=some xs/\(ks.length=E.P.cellsOf t/\off+ks.length<=xs.length/\(E.P.info? t).isSome=true)/\DC E o=false/\
  e={dst:= .skip,uv:=[(id,xs.take off++ks++xs.drop (off+ks.length))],rv:=[id],pv:=some (id,off,ks)}:=by
 by_cases hs:∀t x y,o.op≠ .store t x y
 ·rw[Yy he hs] at hp;cases hp
 ·have:∃t x y,o.op= .store t x y:=by
   apply Classical.byContradiction
   intro hn
   exact hs fun t x y h=>hn ⟨t,x,y,h⟩
  obtain⟨t,x,y,ho⟩:=this
  simp only[aA,ho] at he
  split at he
  ·rename_i Yd aoi k hc hk
   split at he
   ·rename_i xs hv
    split at he
    ·rename_i co
     split at he
     ·unfold mD at he
      split at he
      ·split at he
       ·cases he
       ·cases he;cases hp
      ·cases he
     ·rename_i hh
      cases he
      simp only[av,aY] at hp
      obtain⟨rfl,rfl,rfl⟩:=hp
      exact⟨t,x,y,k,xs,ho,hc,hk,rfl,hv,co,by simpa using hh,rfl⟩
    ·cases he
   ·cases he
  ·cases he
theorem F_(he:aA E m nv nt o=some e)(Cc:e.al=false)(ht:∀x∈o.op.operands,E.ev m' x=E.ev m x)(hv:e.pv=none->∀id∈e.rv,m'.var id=m.var id)(hl:∀id off ks,e.pv=some (id,off,ks)->(m'.var id).map List.length=(m.var id).map List.length)(hk:∀i∈e.rt,m'.tok i=m.tok i):
 ∃e',aA E m' nv nt o=some e'/\(∀(M:Mem) d n,M.apply d n e'=M.apply d n e)/\e'.al=e.al/\e'.nv=e.nv/\e'.ut=e.ut/\e'.rt=e.rt:=by
 cases hp:e.pv with
 |none=>exact⟨e,Iz he Cc ht (hv hp) hk,fun _ _ _=>rfl,rfl,rfl,rfl,rfl⟩
 |some p=>
  obtain⟨id,off,ks⟩:=p
  obtain⟨t,x,y,k,xs,ho,hc,hkk,NH,hx,co,hh,rfl⟩:=D3 he hp
  subst NH
  have h1:=ht x (by simp[ho,Op.operands])
  have h2:=ht y (by simp[ho,Op.operands])
  have h3:=hl _ _ _ hp
  rw[hx] at h3
  cases TF:m'.var id with
  |none=>rw[TF] at h3;cases h3
  |some TV=>
   rw[TF] at h3
   simp only[dw,av] at h3
   refine⟨{dst:= .skip,uv:=[(id,TV.take off++k.cells++TV.drop (off+k.cells.length))],rv:=[id],pv:=some (id,off,k.cells)},?_,fun M d n=> ?_,rfl,rfl,rfl,rfl⟩
   ·simp only[aA,ho,h1,h2,hc,hkk,TF,hh]
    rw[aP ⟨co.1,by omega,co.2.2⟩]
    rfl
   ·simp only[Mem.apply]
open Go.RowKit
theorem oT:∀{uv:List (Nat×List V)} {vs jQ:List (List V)},ru vs uv=some jQ->vs.length<=jQ.length/\∀i:Nat,jQ[i]?=match lk uv i with|some x=>some x|none=>vs[i]?
 |[],vs,jQ,h=>by simp only[ru,av] at h;subst h;exact⟨aL _,fun i=>rfl⟩
 |(j,x)::r,vs,jQ,h=>by
  simp only[ru] at h
  split at h
  ·rename_i hj
   obtain⟨h1,h2⟩:=oT h
   refine⟨by simpa using h1,fun i=> ?_⟩
   rw[h2 i]
   simp only[lk]
   cases lk r i with
   |some y=>rfl
   |none=>
    by_cases pj:j=i
    ·subst pj;simp[hj]
    ·simp[pj]
  ·split at h
   ·rename_i hj
    subst hj
    obtain⟨h1,h2⟩:=oT h
    refine⟨by simp at h1;omega,fun i=> ?_⟩
    rw[h2 i]
    simp only[lk]
    cases lk r i with
    |some y=>rfl
    |none=>
     by_cases pj:vs.length=i
     ·subst pj;simp
     ·simp only[pj,br]
      rcases gq i vs.length with fO|Dq
      ·rw[mq fO]
      ·rw[jR (by simp;omega),jR Dq]
   ·cases h
theorem vl:∀{ut:List (Nat×Nat)} {ts nX:List Nat},pS ts ut=some nX->∀i:Nat,nX[i]?=match lk ut i with|some x=>some x|none=>ts[i]?
 |[],ts,nX,h,i=>by simp only[pS,av] at h;subst h;rfl
 |(j,x)::r,ts,nX,h,i=>by
  simp only[pS] at h
  split at h
  ·rename_i hj
   rw[vl h i]
   simp only[lk]
   cases lk r i with
   |some y=>rfl
   |none=>
    by_cases pj:j=i
    ·subst pj;simp[hj]
    ·simp[pj]
  ·split at h
   ·rename_i hj
    subst hj
    rw[vl h i]
    simp only[lk]
    cases lk r i with
    |some y=>rfl
    |none=>
     by_cases pj:ts.length=i
     ·subst pj;simp
     ·simp only[pj,br]
      rcases gq i ts.length with fO|Dq
      ·rw[mq fO]
      ·rw[jR (by simp;omega),jR Dq]
   ·cases h
theorem xP:∀{ut:List (Nat×Nat)} {ts nX:List Nat},pS ts ut=some nX->ts.length<=nX.length
 |[],ts,nX,h=>by simp only[pS,av] at h;subst h;exact aL _
 |(j,x)::r,ts,nX,h=>by
  simp only[pS] at h
  split at h
  ·have:=xP h;simpa using this
  ·split at h
   ·have:=xP h;simp at this;omega
   ·cases h
theorem xm{α:Type}:∀{uv:List (Nat×α)} {n i:Nat},(∀p∈uv,p.1<n)->n<=i->lk uv i=none
 |[],_,_,_,_=>rfl
 |(j,x)::r,n,i,h,hi=>by
  simp only[lk]
  rw[xm (fun p hp=>h p (by simp[hp])) hi]
  have:=h (j,x) (by simp)
  simp only at this
  rw[aR (by omega)]
theorem xQ:∀{uv:List (Nat×List V)} {vs jQ:List (List V)},ru vs uv=some jQ->∀p∈uv,p.1<jQ.length
 |[],_,_,_,p,hp=>by simp at hp
 |(j,x)::r,vs,jQ,h,p,hp=>by
  simp only[ru] at h
  split at h
  ·rename_i hj
   rcases cM.1 hp with rfl|hp
   ·have:=(oT h).1
    simp at this
    show j<jQ.length
    omega
   ·exact xQ h p hp
  ·split at h
   ·rename_i hj
    rcases cM.1 hp with rfl|hp
    ·have:=(oT h).1
     simp at this
     show j<jQ.length
     omega
    ·exact xQ h p hp
   ·cases h
def age(s:St)(e:uN):Prop:=∀id off ks,e.pv=some (id,off,ks)->e.nv=none/\∃xs,s.vars[id]?=some xs/\e.uv=[(id,kH off ks xs)]
variable{s:St}{q:Bool}
theorem aa4(he:(if q=true then aA E s.mem s.vars.length s.dE.length o else some tJ)=some e):age s e:=by
 intro id off ks hp
 split at he
 ·obtain⟨_,_,_,_,xs,_,_,_,_,hx,co,_,rfl⟩:=D3 he hp
  exact⟨rfl,xs,hx,by simp only[kH];rw[aP co.2.1]⟩
 ·cases he;cases hp
variable{s':St}
theorem St.GU(Kb:age s e)(h:s.apply d e=some s'):s'.mem=s.mem.apply d s.vars.length e/\s'.tmps.length=s.tmps.length/\(∀t,d=some t->t<s.tmps.length)/\s.vars.length<=s'.vars.length/\s.dE.length<=s'.dE.length:=by
 unfold St.apply at h
 split at h
 ·rename_i vs ts hv ht
  obtain⟨XT,hvg⟩:=oT hv
  have htg:=vl ht
  have Uo:=xP ht
  have fO:=xQ hv
  split at h
  ·rename_i co
   have Cd:∀i:Nat,(match e.nv with|some x=>vs++[x]|none=>vs)[i]?=if i=s.vars.length/\e.nv.isSome then e.nv else match lk e.uv i with|some x=>some x|none=>s.vars[i]?:=by
    intro i
    cases hn:e.nv with
    |none=>simp[hvg i]
    |some x=>
     rw[hn] at co
     simp at co
     simp only[H9,and_true]
     by_cases hi:i=s.vars.length
     ·subst hi;simp[<-co]
     ·simp only[hi,br]
      rcases gq i vs.length with h1|h1
      ·rw[mq h1,hvg i]
      ·rw[jR (by simp;omega),xm fO (by omega),jR (by omega)]
   have agf:∀i:Nat,(if i=s.vars.length/\e.nv.isSome then e.nv else match lk e.uv i with|some x=>some x|none=>s.vars[i]?)=(match e.pv with
    |some (j,off,ks)=>if i=j then(s.vars[i]?).map (kH off ks) else s.vars[i]?
    |none=>if i=s.vars.length/\e.nv.isSome then e.nv else match lk e.uv i with|some x=>some x|none=>s.vars[i]?):=by
    intro i
    cases hp:e.pv with
    |none=>rfl
    |some p=>
     obtain⟨j,off,ks⟩:=p
     obtain⟨h1,xs,h2,h3⟩:=Kb j off ks hp
     rw[h1,h3]
     simp only[oG,ft,rd,br,lk]
     by_cases pj:i=j
     ·subst pj;simp[h2]
     ·simp[pj,f_ pj]
   have dK:s.vars.length<=(match e.nv with|some x=>vs++[x]|none=>vs).length:=by
    cases e.nv with
    |none=>exact XT
    |some x=>simp;omega
   simp only at h
   split at h
   ·rename_i d
    split at h
    ·rename_i hd
     cases h
     refine⟨?_,by simp,fun t ht=>by cases ht;exact hd,dK,Uo⟩
     simp only[St.mem,Mem.apply,Mem.mk.injEq]
     refine⟨?_,funext fun i=>(Cd i).trans (agf i),funext htg⟩
     funext t
     simp only[av]
     by_cases hdt:d=t
     ·subst hdt;simp[List.getD,hd]
     ·simp[List.getD,hdt]
    ·cases h
   ·cases h
    refine⟨?_,rfl,(fun t ht=>by cases ht),dK,Uo⟩
    simp only[St.mem,Mem.apply,Mem.mk.injEq]
    exact⟨by simp,funext fun i=>(Cd i).trans (agf i),funext htg⟩
  ·cases h
 ·cases h
variable{ops:Array Oper}
theorem zl(h:ix F γ m a w)(hq:oL ops m o=some q):Region.wanted o (yielded ops a.tmps)=q:=by
 unfold oL at hq
 unfold Region.wanted
 split at hq
 ·rename_i hg;rw[hg];simpa using hq
 ·rename_i j m_ hg
  rw[hg]
  simp only
  split at hq
  ·rename_i hd
   simp only[yielded,hd,Option.bind_none]
   cases hq
   rfl
  ·rename_i t hd
   have ht:=h.tmps t
   have sJ:a.tmps.getD t undef=(a.tmps[t]?).getD undef:=by simp
   simp only[yielded,hd,q9]
   split at hq
   ·rename_i hs
    rw[hs] at ht
    simp only[T.aE] at ht
    cases hq
    rw[sJ] at ht
    cases hx:a.tmps[t]? with
    |none=>rfl
    |some v=>
     rw[hx] at ht
     simp only[q_] at ht
     subst ht
     rfl
   ·split at hq
    ·rename_i b hb
     cases hq
     rw[DG hb,ck,sJ] at ht
     cases hx:a.tmps[t]? with
     |none=>rw[hx] at ht;simp[undef] at ht
     |some v=>
      rw[hx] at ht
      simp only[q_] at ht
      rw[ht.1]
      simp
    ·cases hq
theorem Mem.D4(m:Mem)(d:Option Tmp)(nv:Nat):m.apply d nv tJ=m.put d .skip:=Mem.xF m d nv .skip [] []
def nY(E:lW)(F:Fm)(s:St)(a:Act)(w:World):Prop:=(s.tmps.length=F.n/\F.gn<=s.vars.length/\F.gk<=s.dE.length/\F.gK.length<=s.vars.length)/\∃γ,ix F γ s.mem a w/\iy E.gl γ.fr w
theorem St.agh(h:F.gn<=s.vars.length/\F.gk<=s.dE.length/\F.gK.length<=s.vars.length):Yw F s.mem s.vars.length s.dE.length:=
 ⟨fun i hi=>by simp only[St.mem];exact jR hi,fun i hi=>by simp only[St.mem];exact jR hi,h.1,h.2.1,h.2.2⟩
theorem PQ{E:lW}(hE:pG E){F:Fm}{ops:Array Oper}{Q:Exit->Act->World->Prop}:∀{l:List Oper} {s s':St} {ts:List Touch} {k:Nat},oM E ops l s=some (s',ts)->ops.toList.drop k=l->(∀a w,nY E F s' a w->Q .normal a w)->
 ∀{a:Act} {w:World},nY E F s a w->wpOps E.P ops Q (List.range' k l.length) a w
 |[],s,s',ts,k,h,_,hQ,a,w,hr=>by
  simp only[oM,av,aY] at h
  obtain⟨rfl,_⟩:=h
  exact hQ a w hr
 |o::rX,s,s',ts,k,h,aa5,hQ,a,w,hr=>by
  have hk:ops[k]?=some o:=by
   have:=cu List.head? aa5
   simpa[List.head?_drop] using this
  have Bu:ops.toList.drop (k+1)=rX:=by
   have:=cu List.tail aa5
   simpa[List.tail_drop] using this
  simp only[oM] at h
  split at h
  ·cases h
  ·rename_i q hq
   split at h
   ·cases h
   ·rename_i e he
    split at h
    ·cases h
    ·rename_i s1 xK
     split at h
     ·cases h
     ·rename_i s2 ts2 i8
      simp only[av,aY] at h
      obtain⟨rfl,_⟩:=h
      obtain⟨Cf,dK,hd,XT,Uo⟩:=St.GU (aa4 he) xK
      obtain⟨⟨hn,X0⟩,γ,iP,hg⟩:=hr
      have agi:F.gn<=s1.vars.length/\F.gk<=s1.dE.length/\F.gK.length<=s1.vars.length:=⟨aZ X0.1 XT,aZ X0.2.1 Uo,aZ X0.2.2 XT⟩
      have hd':∀t,o.dst=some t->t<F.n:=fun t ht=>by rw[<-hn];exact hd t ht
      rw[cV,List.range'_succ,wpOps_cons]
      unfold wpOp
      rw[hk]
      simp only
      rw[zl iP hq]
      have next:∀a' w',nY E F s1 a' w'->wpOps E.P ops Q (List.range' (k+1) rX.length) a' w':=fun a' w' xk=>PQ hE i8 Bu hQ xk
      cases q with
      |true=>
       simp only[bu] at he ⊢
       refine .inl (Oper.wp_mono (fun a' w' hp=> ?_) (KK hE iP hg hd' he (fun _=>St.agh X0) (fun _=>by simp[St.mem]) (fun i n hi XU=> ?_)))
       ·obtain⟨γ',h1,h2⟩:=hp
        exact next a' w' ⟨⟨by rw[dK];exact hn,agi⟩,γ',by rw[Cf];exact h1,h2⟩
       ·rcases Un he i n hi with h1|h1
        ·exact absurd h1 XU
        ·simp[St.mem];exact h1
      |false=>
       simp only[ft,br,av] at he ⊢
       subst he
       refine next _ _ ⟨⟨by rw[dK];exact hn,agi⟩,γ,?_,hg⟩
       rw[Cf,Mem.D4]
       exact iP.put hd' rfl
open Go.RowKit
structure nZ where
 o:Oper
 nv:Nat
 nt:Nat
 q:Bool
 e:uN
def nZ.d5(ops:Array Oper)(p:nZ):Touch:=Touch.of ops p.o p.nv p.e
def nZ.step(p:nZ)(m:Mem):Mem:=m.apply p.o.dst p.nv p.e
def D5(E:lW)(ops:Array Oper):Mem->List nZ->Mem->Prop
 |m,[],m'=>m'=m
 |m,p::r,m'=>oL ops m p.o=some p.q/\(if p.q then aA E m p.nv p.nt p.o=some p.e else p.e=tJ)/\(p.e.nv.isSome=true->m.var p.nv=none)/\(∀i n,(i,n)∈p.e.ut->i∉p.e.rt->m.tok i=none)/\((∀i,p.nv<=i->m.var i=none)/\∀i,p.nt<=i->m.tok i=none)/\D5 E ops (p.step m) r m'
theorem KN{E:lW}{ops:Array Oper}:∀{l:List Oper} {s s':St} {ts:List Touch},oM E ops l s=some (s',ts)->
 ∃dU:List nZ,dU.map (·.o)=l/\ts=dU.map (nZ.d5 ops)/\D5 E ops s.mem dU s'.mem/\(∀p∈dU,∀t,p.o.dst=some t->t<s.tmps.length)/\s'.tmps.length=s.tmps.length/\(∀p∈dU,s.vars.length<=p.nv/\s.dE.length<=p.nt)/\s.vars.length<=s'.vars.length/\s.dE.length<=s'.dE.length
 |[],s,s',ts,h=>by
  simp only[oM,av,aY] at h
  obtain⟨rfl,rfl⟩:=h
  exact⟨[],rfl,rfl,rfl,by simp,rfl,by simp,aL _,aL _⟩
 |o::rX,s,s',ts,h=>by
  simp only[oM] at h
  split at h
  ·cases h
  ·rename_i q hq
   split at h
   ·cases h
   ·rename_i e he
    split at h
    ·cases h
    ·rename_i s1 xK
     split at h
     ·cases h
     ·rename_i s2 ts2 i8
      simp only[av,aY] at h
      obtain⟨rfl,rfl⟩:=h
      obtain⟨Cf,dK,hd,XT,Uo⟩:=St.GU (aa4 he) xK
      obtain⟨dU,h1,h2,h3,h4,h5,h6,h7,h8⟩:=KN i8
      refine⟨⟨o,s.vars.length,s.dE.length,q,e⟩::dU,by simp[h1],by simp[h2,nZ.d5],⟨hq,?_,fun _=>by simp[St.mem],fun i n hi XU=> ?_,⟨fun i hi=>by simp only[St.mem];exact jR hi,fun i hi=>by simp only[St.mem];exact jR hi⟩,?_⟩,fun p hp t ht=> ?_,by rw[h5,dK],fun p hp=> ?_,aZ XT h7,aZ Uo h8⟩
      ·cases q
       ·simpa using he.symm
       ·simpa using he
      ·cases q with
       |true=>
        simp only[bu] at he
        rcases Un he i n hi with h1|h1
        ·exact absurd h1 XU
        ·simp[St.mem];exact h1
       |false=>
        simp only[ft,br,av] at he
        subst he
        simp[tJ] at hi
      ·simp only[nZ.step];rw[<-Cf];exact h3
      ·rcases cM.1 hp with rfl|hp
       ·exact hd t ht
       ·have:=h4 p hp t ht;rw[dK] at this;exact this
      ·rcases cM.1 hp with rfl|hp
       ·exact⟨aL _,aL _⟩
       ·exact⟨aZ XT (h6 p hp).1,aZ Uo (h6 p hp).2⟩
structure kQ(x:Touch)(m m':Mem):Prop where
 tmp:∀t,(t∈x.rt\/x.wt=some t)->m'.tmp t=m.tmp t
 var:∀i,(i∈x.rv\/i∈x.wv)->m'.var i=m.var i
 tok:∀i,(i∈x.rk\/i∈x.wk)->m'.tok i=m.tok i
 len:∀i o n,x.pw=some (i,o,n)->(m'.var i).map List.length=(m.var i).map List.length
theorem kQ.refl(x:Touch)(m:Mem):kQ x m m:=⟨fun _ _=>rfl,fun _ _=>rfl,fun _ _=>rfl,fun _ _ _ _=>rfl⟩
theorem kQ.trans{x:Touch}{a b c:Mem}(h:kQ x a b)(k:kQ x b c):kQ x a c:=
 ⟨fun t ht=>(k.tmp t ht).trans (h.tmp t ht),fun i hi=>(k.var i hi).trans (h.var i hi),fun i hi=>(k.tok i hi).trans (h.tok i hi),fun i o n hi=>(k.len i o n hi).trans (h.len i o n hi)⟩
theorem IA{α:Type}:∀{uv:List (Nat×α)} {i:Nat},i∉uv.map (·.1)->lk uv i=none
 |[],_,_=>rfl
 |(j,x)::r,i,h=>by
  simp only[eY,cM,not_or] at h
  simp only[lk,IA h.2]
  rw[aR (f_ h.1)]
theorem om(off:Nat)(ks xs:List V):(kH off ks xs).length=xs.length:=by
 unfold kH
 split
 ·simp only[iq,kG,rR];omega
 ·rfl
theorem tQ{xs:List V}(h:off+ks.length<=xs.length)(i:Nat):(kH off ks xs)[i]?=if off<=i/\i<off+ks.length then ks[i-off]? else xs[i]?:=by
 unfold kH
 rw[aP h]
 by_cases h1:i<off
 ·rw[aR (by omega),kF,mq (by rw[kG];omega),rQ,aP h1]
 ·by_cases h2:i<off+ks.length
  ·rw[aP ⟨by omega,h2⟩,kF,tw (by rw[kG];omega),kG,show min off xs.length=off by omega,mq (by omega)]
  ·rw[aR (by omega),tw (by rw[iq,kG];omega),iq,kG,show min off xs.length=off by omega,Au]
   congr 1
   omega
theorem KO{o p:Nat}{ls:List V}(h:o+ks.length<=p\/p+ls.length<=o)(xs:List V):kH o ks (kH p ls xs)=kH p ls (kH o ks xs):=by
 by_cases h1:o+ks.length<=xs.length
 ·by_cases h2:p+ls.length<=xs.length
  ·apply List.ext_getElem?
   intro i
   rw[tQ (by rw[om];exact h1),tQ h2,tQ (by rw[om];exact h2),tQ h1]
   by_cases c1:o<=i/\i<o+ks.length
   ·rw[aP c1,aR (by omega),aP c1]
   ·rw[aR c1,aR c1]
  ·have e:∀ys:List V,ys.length=xs.length->kH p ls ys=ys:=fun ys hy=>by unfold kH;rw[aR (by omega)]
   rw[e xs rfl,e _ (om o ks xs)]
 ·have e:∀ys:List V,ys.length=xs.length->kH o ks ys=ys:=fun ys hy=>by unfold kH;rw[aR (by omega)]
  rw[e xs rfl,e _ (om p ls xs)]
variable{p:nZ}
theorem D6:(p.d5 ops).wt=p.o.dst:=by
 simp only[nZ.d5,Touch.of]
 split<;>rfl
variable{i:Nat}
theorem oU(h:i∉(p.d5 ops).wv)(hp:∀o n,(p.d5 ops).pw≠some (i,o,n)):(p.step m).var i=m.var i:=by
 simp only[nZ.step,Mem.apply]
 simp only[nZ.d5,Touch.of] at h hp
 cases Kb:p.e.pv with
 |some q=>
  obtain⟨j,off,ks⟩:=q
  simp only[Kb] at hp
  simp only
  rw[aR]
  rintro rfl
  exact hp _ _ rfl
 |none=>
  simp only[Kb,df,not_or] at h
  simp only
  rw[IA h.2]
  split
  ·rename_i hc
   exfalso
   refine h.1 ?_
   rw[hc.2]
   simp[hc.1]
  ·rfl
theorem Up(h:i∉(p.d5 ops).wv):((p.step m).var i).map List.length=(m.var i).map List.length:=by
 cases Kb:p.e.pv with
 |some q=>
  obtain⟨j,off,ks⟩:=q
  simp only[nZ.step,Mem.apply,Kb]
  split
  ·cases m.var i with
   |none=>rfl
   |some xs=>simp[om]
  ·rfl
 |none=>rw[oU (ops:=ops) h (fun o n=>by simp[nZ.d5,Touch.of,Kb])]
theorem vm(h:i∉(p.d5 ops).wk):(p.step m).tok i=m.tok i:=by
 have h:i∉p.e.ut.map (·.1):=by
  simp only[nZ.d5,Touch.of] at h
  split at h<;>exact h
 simp only[nZ.step,Mem.apply,IA h]
theorem tR{xs ys:List Nat}(h:Re xs ys=false):∀i,i∈xs->i∉ys:=by
 simp only[Re,pf] at h
 intro i hi hy
 exact h i hi (by simpa using hy)
theorem D7{x y:Touch}(h:x.F0 y=false):(∀t,x.wt=some t->t∉y.rt/\y.wt≠some t)/\(∀i,i∈x.wv->i∉y.wv/\i∉y.rv)/\(∀i,i∈x.wk->i∉y.wk/\i∉y.rk)/\(∀i o n,x.pw=some (i,o,n)->i∉y.wv/\i∉y.rv/\∀p k,y.pw=some (i,p,k)->o+n<=p\/p+k<=o)/\(∀i o n,y.pw=some (i,o,n)->i∉x.wv):=by
 simp only[Touch.F0,eh] at h
 obtain⟨⟨⟨⟨⟨h1,h2⟩,h3⟩,h4⟩,h5⟩,h6⟩:=h
 simp only[Touch.part,eh] at h6
 refine⟨fun t ht=> ?_,fun i hi=>⟨tR h2 i hi,tR h3 i hi⟩,fun i hi=>⟨tR h4 i hi,tR h5 i hi⟩,fun i o n hx=> ?_,fun i o n hy=> ?_⟩
 rotate_left
 ·have h7:=h6.1
  rw[hx] at h7
  simp only[eh] at h7
  refine⟨by simpa using h7.1.1,by simpa using h7.1.2,fun p k hy=> ?_⟩
  have h8:=h7.2
  rw[hy] at h8
  simp at h8
  omega
 ·have h7:=h6.2
  rw[hy] at h7
  simpa using h7
 rw[ht] at h1
 simpa using h1
theorem kQ.step{x:Touch}(h:(p.d5 ops).F0 x=false):kQ x m (p.step m):=by
 obtain⟨h1,h2,h3,h4,h5⟩:=D7 h
 refine⟨fun t ht=> ?_,fun i hi=> ?_,fun i hi=> ?_,fun i o n hi=>Up (ops:=ops) (h5 i o n hi)⟩
 ·simp only[nZ.step,Mem.apply]
  rw[aR]
  intro hd
  have:=h1 t (D6.trans hd)
  rcases ht with ht|ht
  ·exact this.1 ht
  ·exact this.2 ht
 ·refine oU (ops:=ops) (fun hw=> ?_) (fun o n hp=> ?_)
  ·have:=h2 i hw
   rcases hi with hi|hi
   ·exact this.2 hi
   ·exact this.1 hi
  ·have:=h4 i o n hp
   rcases hi with hi|hi
   ·exact this.2.1 hi
   ·exact this.1 hi
 ·refine vm (ops:=ops) (fun hw=> ?_)
  have:=h3 i hw
  rcases hi with hi|hi
  ·exact this.2 hi
  ·exact this.1 hi
theorem kQ.ako{x:Touch}(h:kQ x m m'):kQ x (p.step m) (p.step m'):=by
 refine⟨fun t ht=> ?_,fun i hi=> ?_,fun i hi=> ?_,fun i o n hi=> ?_⟩
 ·simp only[nZ.step,Mem.apply,h.tmp t ht]
 ·simp only[nZ.step,Mem.apply,h.var i hi]
 ·simp only[nZ.step,Mem.apply,h.tok i hi]
 ·have hl:=h.len i o n hi
  have pl:∀off ks,((m'.var i).map (kH off ks)).map List.length=((m.var i).map (kH off ks)).map List.length:=fun off ks=>by
   simp only[Option.map_map,Function.comp_def,om]
   exact hl
  simp only[nZ.step,Mem.apply]
  cases p.e.pv with
  |some q=>
   obtain⟨j,off,ks⟩:=q
   simp only
   split
   ·exact pl off ks
   ·exact hl
  |none=>
   simp only
   split
   ·rfl
   ·cases lk p.e.uv i with
    |some x=>rfl
    |none=>exact hl
theorem Rr{r:nZ}(h:(p.d5 ops).F0 (r.d5 ops)=false):r.step (p.step m)=p.step (r.step m):=by
 obtain⟨h1,h2,h3,h4,h5⟩:=D7 h
 have e1:(r.step (p.step m)).tmp=(p.step (r.step m)).tmp:=by
  funext t
  simp only[nZ.step,Mem.apply]
  by_cases hp:p.o.dst=some t
  ·have:=(h1 t (D6.trans hp)).2
   have hr:¬r.o.dst=some t:=fun h=>this (D6.trans h)
   simp[hp,hr]
  ·simp[hp]
 have e2:(r.step (p.step m)).var=(p.step (r.step m)).var:=by
  funext i
  by_cases hp:i∈(p.d5 ops).wv
  ·have hr:=(h2 i hp).1
   have Yz:∀o n,(r.d5 ops).pw≠some (i,o,n):=fun o n hq=>h5 i o n hq hp
   rw[oU (ops:=ops) hr Yz]
   have:(r.step m).var i=m.var i:=oU (ops:=ops) hr Yz
   simp only[nZ.step,Mem.apply] at this ⊢
   rw[this]
  ·by_cases hq:∃o n,(p.d5 ops).pw=some (i,o,n)
   ·obtain⟨o,n,hq⟩:=hq
    obtain⟨g1,g2,g3⟩:=h4 i o n hq
    have hpe:∃ks,p.e.pv=some (i,o,ks)/\ks.length=n:=by
     simp only[nZ.d5,Touch.of] at hq
     cases Kb:p.e.pv with
     |none=>rw[Kb] at hq;cases hq
     |some z=>
      obtain⟨j,off,ks⟩:=z
      rw[Kb] at hq
      simp only[av,aY] at hq
      obtain⟨rfl,rfl,rfl⟩:=hq
      exact⟨ks,rfl,rfl⟩
    obtain⟨ks,hpe,hkn⟩:=hpe
    by_cases hs:∃q k,(r.d5 ops).pw=some (i,q,k)
    ·obtain⟨q,k,hs⟩:=hs
     have hre:∃ls,r.e.pv=some (i,q,ls)/\ls.length=k:=by
      simp only[nZ.d5,Touch.of] at hs
      cases hrv:r.e.pv with
      |none=>rw[hrv] at hs;cases hs
      |some z=>
       obtain⟨j,off,ls⟩:=z
       rw[hrv] at hs
       simp only[av,aY] at hs
       obtain⟨rfl,rfl,rfl⟩:=hs
       exact⟨ls,rfl,rfl⟩
     obtain⟨ls,hre,hlk⟩:=hre
     have agl:=g3 q k hs
     simp only[nZ.step,Mem.apply,hpe,hre,bu]
     cases m.var i with
     |none=>rfl
     |some xs=>simp only[dw];rw[KO (by omega)]
    ·have X1:∀o n,(r.d5 ops).pw≠some (i,o,n):=fun o n h=>hs ⟨o,n,h⟩
     rw[oU (ops:=ops) g1 X1]
     have:(r.step m).var i=m.var i:=oU (ops:=ops) g1 X1
     simp only[nZ.step,Mem.apply,hpe] at this ⊢
     rw[this]
   ·have Uc:∀o n,(p.d5 ops).pw≠some (i,o,n):=fun o n h=>hq ⟨o,n,h⟩
    rw[oU (ops:=ops) (p:=p) hp Uc]
    have:(p.step m).var i=m.var i:=oU (ops:=ops) hp Uc
    simp only[nZ.step,Mem.apply] at this ⊢
    rw[this]
 have e3:(r.step (p.step m)).tok=(p.step (r.step m)).tok:=by
  funext i
  by_cases hp:i∈(p.d5 ops).wk
  ·have hr:=(h3 i hp).1
   rw[vm (ops:=ops) hr]
   have:(r.step m).tok i=m.tok i:=vm (ops:=ops) hr
   simp only[nZ.step,Mem.apply] at this ⊢
   rw[this]
  ·rw[vm (ops:=ops) (p:=p) hp]
   have:(p.step m).tok i=m.tok i:=vm (ops:=ops) hp
   simp only[nZ.step,Mem.apply] at this ⊢
   rw[this]
 calc r.step (p.step m)=⟨(r.step (p.step m)).tmp,(r.step (p.step m)).var,(r.step (p.step m)).tok⟩:=rfl
  _=_:=by rw[e1,e2,e3]
def fY(L:Nat->Bool):Nat->List nZ->Mem->Mem
 |_,[],m=>m
 |k,p::r,m=>fY L (k+1) r (if L k then p.step m else m)
theorem tS(L:Nat->Bool):∀(xs ys:List nZ) (k:Nat) (m:Mem),fY L k (xs++ys) m=fY L (k+xs.length) ys (fY L k xs m)
 |[],ys,k,m=>by simp[fY]
 |x::xs,ys,k,m=>by
  simp only[nk,fY,cV]
  rw[tS L xs ys (k+1)]
  congr 1
  omega
theorem oV{L L':Nat->Bool}:∀{xs:List nZ} {k:Nat} {m:Mem},(∀j,j<xs.length->L (k+j)=L' (k+j))->fY L k xs m=fY L' k xs m
 |[],_,_,_=>rfl
 |x::xs,k,m,h=>by
  simp only[fY]
  have h0:=h 0 (by simp)
  simp only[qY] at h0
  rw[h0]
  exact oV fun j hj=>by
   have:=h (j+1) (by simp;omega)
   rwa[show k+(j+1)=k+1+j by omega] at this
theorem GV{E:lW}{ops:Array Oper}:∀{xs:List nZ} {m m':Mem} {k:Nat},D5 E ops m xs m'->m'=fY (fun _=>true) k xs m
 |[],_,_,_,h=>h
 |_::_,_,_,_,h=>by simp only[fY,bu];exact GV h.2.2.2.2.2
theorem GW{ops:Array Oper}{x:Touch}{L:Nat->Bool}:∀{xs:List nZ} {k:Nat} {m m':Mem},kQ x m m'->(∀(j:Nat) p,xs[j]?=some p->L (k+j)=true\/(p.d5 ops).F0 x=false)->kQ x (fY (fun _=>true) k xs m) (fY L k xs m')
 |[],_,_,_,h,_=>h
 |p::xs,k,m,m',h,hL=>by
  simp only[fY,bu]
  refine GW ?_ (fun j r hr=>by
   have:=hL (j+1) r (by simpa using hr)
   rwa[show k+(j+1)=k+1+j by omega] at this)
  have h0:=hL 0 p rfl
  simp only[qY] at h0
  cases hLk:L k with
  |true=>simp only[bu];exact h.ako
  |false=>
   rw[hLk] at h0
   have hh:=h0.resolve_left (by simp)
   simp only[ft,br]
   exact⟨fun t ht=>(h.tmp t ht).trans ((kQ.step hh).tmp t ht).symm,fun i hi=>(h.var i hi).trans ((kQ.step hh).var i hi).symm,fun i hi=>(h.tok i hi).trans ((kQ.step hh).tok i hi).symm,fun i o n hi=>(h.len i o n hi).trans ((kQ.step hh).len i o n hi).symm⟩
theorem D8{ops:Array Oper}{x:Touch}{L:Nat->Bool}:∀{xs:List nZ} {k:Nat} {m:Mem},(∀(j:Nat) p,xs[j]?=some p->L (k+j)=true->(p.d5 ops).F0 x=false)->kQ x m (fY L k xs m)
 |[],_,m,_=>kQ.refl x m
 |p::xs,k,m,hL=>by
  simp only[fY]
  have h0:=hL 0 p rfl
  simp only[qY] at h0
  refine kQ.trans ?_ (D8 fun j r hr hLj=>hL (j+1) r (by simpa using hr) (by rwa[show k+(j+1)=k+1+j by omega]))
  cases hLk:L k with
  |true=>simp only[bu];exact kQ.step (h0 hLk)
  |false=>simp only[ft,br];exact kQ.refl x m
theorem xR{ops:Array Oper}{p:nZ}{L:Nat->Bool}:∀{xs:List nZ} {k:Nat} {m:Mem},(∀(j:Nat) r,xs[j]?=some r->L (k+j)=true->(p.d5 ops).F0 (r.d5 ops)=false)->fY L k xs (p.step m)=p.step (fY L k xs m)
 |[],_,_,_=>rfl
 |r::xs,k,m,hL=>by
  simp only[fY]
  have h0:=hL 0 r rfl
  simp only[qY] at h0
  have Bu:∀(j:Nat) r,xs[j]?=some r->L (k+1+j)=true->(p.d5 ops).F0 (r.d5 ops)=false:=fun j r hr hLj=>hL (j+1) r (by simpa using hr) (by rwa[show k+(j+1)=k+1+j by omega])
  cases hLk:L k with
  |true=>
   simp only[bu]
   rw[Rr (h0 hLk)]
   exact xR Bu
  |false=>
   simp only[ft,br]
   exact xR Bu
theorem IB(h:∀t∈o.looksAt ops,m'.tmp t=m.tmp t):oL ops m' o=oL ops m o:=by
 unfold oL
 cases hg:o.guard with
 |none=>rfl
 |some gw=>
  obtain⟨g,m_⟩:=gw
  simp only
  cases hd:(ops[g]?).bind (·.dst) with
  |none=>rfl
  |some t=>
   simp only
   rw[h t (by simp[Oper.looksAt,hg,hd])]
theorem zm{u9:List Nat}{x:Touch}{i:Nat}:∀{ts:List Touch} {j:Nat},u7 u9 x i ts j=true->∀(l:Nat) y,ts[l]?=some y->x.sF y=false\/(u9.getD (j+l) 0).testBit i=true
 |[],_,_,l,y,hy=>by simp at hy
 |z::ts,j,h,0,y,hy=>by
  simp only[u7,cY,As,xz] at h
  simp at hy
  subst hy
  exact h.1
 |z::ts,j,h,l+1,y,hy=>by
  simp only[u7,cY] at h
  have:=zm h.2 l y (by simpa using hy)
  rwa[show j+1+l=j+(l+1) by omega] at this
theorem BE{u9:List Nat}:∀{ts:List Touch} {k:Nat},tI u9 ts k=true->∀(i j:Nat) x y,i<j->ts[i]?=some x->ts[j]?=some y->x.sF y=false\/(u9.getD (k+j) 0).testBit (k+i)=true
 |[],_,_,i,j,x,y,_,hx,_=>by simp at hx
 |z::ts,k,h,0,j,x,y,pj,hx,hy=>by
  simp only[tI,cY] at h
  simp at hx
  subst hx
  obtain⟨j,rfl⟩:∃j',j=j'+1:=⟨j-1,by omega⟩
  have:=zm h.1 j y (by simpa using hy)
  rwa[show k+1+j=k+(j+1) by omega] at this
 |z::ts,k,h,i+1,j,x,y,pj,hx,hy=>by
  simp only[tI,cY] at h
  obtain⟨j,rfl⟩:∃j',j=j'+1:=⟨j-1,by omega⟩
  have:=BE h.2 i j x y (by omega) (by simpa using hx) (by simpa using hy)
  rwa[show k+1+j=k+(j+1) by omega,show k+1+i=k+(i+1) by omega] at this
theorem D9(o_:List Nat):∀(l:List Edge) (s i:Nat),(l.foldl (fun s e=>if Region.binds .any e then s|||2 ^ e.on|||o_.getD e.on 0 else s) s).testBit i=true->
 s.testBit i=true\/∃e∈l,Region.binds .any e=true/\(e.on=i\/(o_.getD e.on 0).testBit i=true)
 |[],s,i,h=> .inl h
 |e::l,s,i,h=>by
  simp only[jp] at h
  rcases D9 o_ l _ i h with h1|⟨e',B',hb,hx⟩
  ·split at h1
   ·rename_i hb
    rw[Nat.testBit_or,Nat.testBit_or] at h1
    simp only[As] at h1
    rcases h1 with(h1|h1)|h1
    ·exact .inl h1
    ·refine .inr ⟨e,by simp,hb, .inl ?_⟩
     rw[Nat.testBit_two_pow] at h1
     simpa using h1
    ·exact .inr ⟨e,by simp,hb, .inr h1⟩
   ·exact .inl h1
  ·exact .inr ⟨e',by simp[B'],hb,hx⟩
theorem r9:∀(l:List Oper) (o_:List Nat) (i:Nat),i<o_.length->(pu l o_).getD i 0=o_.getD i 0
 |[],o_,i,_=>rfl
 |o::l,o_,i,h=>by
  simp only[pu]
  rw[r9 l _ i (by simp;omega)]
  simp[List.getD,mq h]
theorem D_:∀(l:List Oper) (o_:List Nat) (k:Nat) (o:Oper),l[k]?=some o->∀i,((pu l o_).getD (o_.length+k) 0).testBit i=true->
 ∃e∈o.after,Region.binds .any e=true/\(e.on=i\/(e.on<o_.length+k/\((pu l o_).getD e.on 0).testBit i=true))
 |[],_,_,_,h,_,_=>by simp at h
 |x::l,o_,0,o,h,i,hi=>by
  simp at h
  subst h
  simp only[pu,qY] at hi ⊢
  rw[r9 l _ _ (by simp)] at hi
  have e1:(o_++[x.after.foldl (fun s e=>if Region.binds .any e then s|||2 ^ e.on|||o_.getD e.on 0 else s) 0]).getD o_.length 0=x.after.foldl (fun s e=>if Region.binds .any e then s|||2 ^ e.on|||o_.getD e.on 0 else s) 0:=by
   simp[List.getD]
  rw[e1,<-Array.foldl_toList] at hi
  rcases D9 o_ x.after.toList 0 i hi with h1|⟨e,he,hb,hx⟩
  ·simp at h1
  ·refine⟨e,by simpa using he,hb,?_⟩
   rcases hx with hx|hx
   ·exact .inl hx
   ·right
    have fO:e.on<o_.length:=by
     rcases gq e.on o_.length with h|h
     ·exact h
     ·simp[List.getD,jR h] at hx
    refine⟨fO,?_⟩
    rw[r9 l _ _ (by simp;omega)]
    simpa[List.getD,mq fO] using hx
 |x::l,o_,k+1,o,h,i,hi=>by
  simp only[pu] at hi ⊢
  have:=D_ l (o_++[x.after.foldl (fun s e=>if Region.binds .any e then s|||2 ^ e.on|||o_.getD e.on 0 else s) 0]) k o (by simpa using h) i (by
   rw[iq,M8,show o_.length+1+k=o_.length+(k+1) by omega];exact hi)
  obtain⟨e,he,hb,hx⟩:=this
  refine⟨e,he,hb,hx.imp id (fun⟨h1,h2⟩=>⟨?_,h2⟩)⟩
  simp at h1;omega
theorem BF{ops:List Oper}{L:Nat->Bool}(ly:∀(j:Nat) o,ops[j]?=some o->L j=true->∀e∈o.after,Region.binds .any e=true->L e.on=true):
 ∀(k:Nat) (o:Oper),ops[k]?=some o->(∀e∈o.after,Region.binds .any e=true->L e.on=true)->∀i,((pu ops []).getD k 0).testBit i=true->L i=true:=by
 intro k
 induction k using Nat.strongRecOn with
 |_ k ih=>
  intro o ho YA i hi
  obtain⟨e,he,hb,hx⟩:=D_ ops [] k o ho i (by simpa using hi)
  have rZ:=YA e he hb
  rcases hx with rfl|⟨fO,hx⟩
  ·exact rZ
  ·simp only[eO,gt] at fO
   have M_:e.on<ops.length:=Nat.lt_trans fO (List.getElem?_eq_some_iff.1 ho).1
   have sJ:ops[e.on]?=some ops[e.on]:=cm M_
   exact ih e.on fO _ sJ (ly e.on _ sJ rZ) i hx
open Go.RowKit
theorem KP{ops:List Oper}(h:yU ops=true)(hi:ops[i]?=some o):∀e∈o.after,Region.binds .any e=true->e.on<i:=by
 intro e he hb
 unfold yU at h
 rw[lG] at h
 have hm:(o,i)∈ops.zipIdx:=by
  rw[List.mem_zipIdx_iff_getElem?]
  simpa using hi
 have:=h (o,i) hm
 simp only at this
 rw[Array.all_eq_true_iff_forall_mem] at this
 have:=this e he
 simpa[hb] using this
def unl(n:Nat)(cn:Array Bool):Nat:=((List.range n).filter fun i=>!cn.getD i true).length
theorem D'{cn:Array Bool}(hi:i<n)(hl:cn.getD i true=false):unl n (cn.setIfInBounds i true)+1=unl n cn:=by
 have o9:i<cn.size:=by
  rcases gq i cn.size with h|h
  ·exact h
  ·simp[uO h] at hl
 unfold unl
 induction n with
 |zero=>omega
 |succ n ih=>
  rw[qW,HY,HY,iq,iq]
  by_cases rT:i=n
  ·subst rT
   have e1:((List.range i).filter fun j=>!(cn.setIfInBounds i true).getD j true)=(List.range i).filter fun j=>!cn.getD j true:=by
    apply List.filter_congr
    intro j hj
    rw[tC] at hj
    rw[getD_set_ne true (by omega:i≠j)]
   rw[e1]
   have e2:(cn.setIfInBounds i true).getD i true=true:=by simp[o9]
   simp only[HZ,List.filter_nil,e2,hl,fS,pa,bu,ft,br,eO,M8]
  ·have:=ih (by omega)
   have e2:(cn.setIfInBounds i true).getD n true=cn.getD n true:=getD_set_ne true rT
   simp only[HZ,List.filter_nil,e2]
   omega
theorem NK{cn:Array Bool}(h:unl n cn=0):∀i,i<n->cn.getD i true=true:=by
 intro i hi
 cases hb:cn.getD i true with
 |true=>rfl
 |false=>
  have:=D' hi hb
  omega
theorem KQ:(p.d5 ops).rt=p.o.looksAt ops:=by
 simp only[nZ.d5,Touch.of]
 split<;>rfl
theorem KR:(p.d5 ops).al=p.e.al:=by
 simp only[nZ.d5,Touch.of]
 split<;>rfl
theorem YB(hE:pG E){dU:List nZ}{m0 mf:Mem}(ago:dU.map (·.o)=ops.toList)(hch:D5 E ops m0 dU mf)(akq:∀p∈dU,∀t,p.o.dst=some t->t<F.n)(X0:∀p∈dU,F.gn<=p.nv/\F.gk<=p.nt/\F.gK.length<=p.nv)(ab3:tI (pu ops.toList []) (dU.map (nZ.d5 ops)) 0=true)(Uq:yU ops.toList=true)(hQ:∀a w,(∃γ,ix F γ mf a w/\iy E.gl γ.fr w)->Q .normal a w):∀(Ea:Nat) (cn:Array Bool) (a:Act) (w:World),cn.size=ops.size->unl ops.size cn=Ea->
 (∀(j:Nat) o,ops.toList[j]?=some o->cn.getD j false=true->∀e∈o.after,Region.binds .any e=true->cn.getD e.on false=true)->
 (∃γ,ix F γ (fY (fun i=>cn.getD i false) 0 dU m0) a w/\iy E.gl γ.fr w)->wpAny E.P .any ops Q Ea cn a w:=by
 have dK:dU.length=ops.size:=by
  have:=cu List.length ago
  simpa using this
 have agp:∀(cn:Array Bool),(∀i,i<ops.size->cn.getD i false=true)->fY (fun i=>cn.getD i false) 0 dU m0=mf:=by
  intro cn lz
  rw[GV (k:=0) hch]
  exact oV (fun j hj=>by
   simp only[gt]
   exact lz j (by omega))
 have PR:∀(cn:Array Bool) (i:Nat),cn.size=ops.size->i<ops.size->cn.getD i true=cn.getD i false:=fun cn i hs hi=>by
  have:i<cn.size:=by omega
  simp[this]
 have ab4:∀(cn:Array Bool),cn.size=ops.size->Region.ready .any ops cn=[]->∀i,i<ops.size->cn.getD i false=true:=by
  intro cn hs hr i
  induction i using Nat.strongRecOn with
  |_ i ih=>
   intro hi
   cases hb:cn.getD i false with
   |true=>rfl
   |false=>
    exfalso
    have hoi:ops[i]?=some ops[i]:=Pz hi
    have:i∈Region.ready .any ops cn:=mem_ready.2 ⟨by rw[PR cn i hs hi];exact hb,ops[i],hoi,fun e he hbd=>by
     have fO:=KP Uq (i:=i) (o:=ops[i]) (by simp[hi]) e he hbd
     exact ih e.on fO (by omega)⟩
    rw[hr] at this
    cases this
 intro Ea
 induction Ea with
 |zero=>
  intro cn a w hs hu ly iP
  have lz:∀i,i<ops.size->cn.getD i false=true:=fun i hi=>by rw[<-PR cn i hs hi];exact NK hu i hi
  refine⟨?_,hQ a w (by rw[<-agp cn lz];exact iP)⟩
  apply List.eq_nil_iff_forall_not_mem.2
  intro i hi
  obtain⟨h1,o,ho,_⟩:=mem_ready.1 hi
  have fO:i<ops.size:=(Array.getElem?_eq_some_iff.1 ho).1
  rw[PR cn i hs fO,lz i fO] at h1
  cases h1
 |succ Ea ih=>
  intro cn a w hs hu ly iP
  refine⟨fun hr=>hQ a w (by rw[<-agp cn (ab4 cn hs hr)];exact iP),fun i hi=> ?_⟩
  obtain⟨hun,o,ho,YA⟩:=mem_ready.1 hi
  have fO:i<ops.size:=(Array.getElem?_eq_some_iff.1 ho).1
  have agq:cn.getD i false=false:=by rw[<-PR cn i hs fO];exact hun
  have Ug:ops.toList[i]?=some o:=by simpa using ho
  have Ur:i<dU.length:=by omega
  obtain⟨p,hp⟩:∃p,dU[i]?=some p:=⟨dU[i],cm Ur⟩
  have hpo:p.o=o:=by
   have:=cu (fun l=>l[i]?) ago
   simp only[nm,hp,dw,Ug,av] at this
   exact this
  have NL:dU=dU.take i++p::dU.drop (i+1):=by
   have h1:=(H8 i dU).symm
   have h2:dU.drop i=p::dU.drop (i+1):=by
    rw[M5 Ur]
    congr 1
    have:=cm Ur
    rw[hp] at this
    exact(Option.some.inj this).symm
   rw[h2] at h1
   exact h1
  have Uo:(dU.take i).length=i:=by rw[kG];omega
  have Us:∀(k l:Nat) (x y:nZ),k<l->dU[k]?=some x->dU[l]?=some y->(x.d5 ops).sF (y.d5 ops)=false\/((pu ops.toList []).getD l 0).testBit k=true:=fun k l x y hkl hx hy=>by
   have:=BE ab3 k l _ _ hkl (by rw[nm,hx];rfl) (by rw[nm,hy];rfl)
   simpa using this
  have PS:∀(k:Nat) x,k<i->dU[k]?=some x->cn.getD k false=true\/(x.d5 ops).sF (p.d5 ops)=false:=fun k x hki hx=>by
   rcases Us k i x p hki hx hp with h1|h1
   ·exact .inr h1
   ·exact .inl (BF (L:=fun i=>cn.getD i false) ly i o Ug YA k h1)
  have IC:∀(l:Nat) y,i<l->dU[l]?=some y->cn.getD l false=true->(p.d5 ops).sF (y.d5 ops)=false:=fun l y F5 hy hll=>by
   rcases Us i l p y F5 hp hy with h1|h1
   ·exact h1
   ·exfalso
    have Cb:l<ops.toList.length:=by
     have:=(List.getElem?_eq_some_iff.1 hy).1
     simp;omega
    have sJ:ops.toList[l]?=some ops.toList[l]:=cm Cb
    have:=BF (L:=fun i=>cn.getD i false) ly l _ sJ (ly l _ sJ hll) i h1
    have this:cn.getD i false=true:=this
    rw[agq] at this
    cases this
  let L:Nat->Bool:=fun i=>cn.getD i false
  have hL:L i=false:=agq
  have Cf:fY L 0 dU m0=fY L (i+1) (dU.drop (i+1)) (fY L 0 (dU.take i) m0):=by
   conv=>lhs;rw[NL]
   rw[tS,Uo]
   simp only[fY,gt,hL,ft,br]
  have KS:∀(j:Nat) r,(dU.drop (i+1))[j]?=some r->dU[i+1+j]?=some r:=fun j r hr=>by rw[Au] at hr;exact hr
  have YC:∀(j:Nat) r,(dU.take i)[j]?=some r->j<i/\dU[j]?=some r:=fun j r hr=>by
   rw[rQ] at hr
   split at hr
   ·exact⟨by assumption,hr⟩
   ·cases hr
  have vn:kQ (p.d5 ops) (fY (fun _=>true) 0 (dU.take i) m0) (fY L 0 dU m0):=by
   rw[Cf]
   refine kQ.trans (GW (ops:=ops) (kQ.refl _ _) (fun j r hr=> ?_)) (D8 (ops:=ops) (fun j r hr hLj=> ?_))
   ·obtain⟨MR,xk⟩:=YC j r hr
    rcases PS j r MR xk with h1|h1
    ·left;simpa[L] using h1
    ·right
     simp only[Touch.sF,eh] at h1
     exact h1.2.1
   ·have:=IC (i+1+j) r (by omega) (KS j r hr) hLj
    simp only[Touch.sF,eh] at this
    exact this.2.2
  have agr:fY (fun j=>(cn.setIfInBounds i true).getD j false) 0 dU m0=p.step (fY L 0 dU m0):=by
   have Km:(cn.setIfInBounds i true).getD i false=true:=by
    have:i<cn.size:=by omega
    simp[this]
   have jV:∀j,j≠i->(cn.setIfInBounds i true).getD j false=L j:=fun j hj=>getD_set_ne false (f_ hj)
   conv=>lhs;rw[NL]
   rw[tS,Uo]
   simp only[fY,gt,Km,bu]
   rw[oV (L':=L) (xs:=dU.take i) (fun j hj=>jV _ (by omega)),oV (L':=L) (xs:=dU.drop (i+1)) (fun j hj=>jV _ (by omega))]
   rw[xR (ops:=ops) (fun j r hr hLj=> ?_),<-Cf]
   have:=IC (i+1+j) r (by omega) (KS j r hr) hLj
   simp only[Touch.sF,eh] at this
   exact this.2.1
  obtain⟨mi,hmi⟩:∃mi,mi=fY (fun _=>true) 0 (dU.take i) m0:=⟨_,rfl⟩
  have akr:D5 E ops mi (p::dU.drop (i+1)) mf:=by
   have aux:∀(xs ys:List nZ) (k:Nat) (m:Mem),D5 E ops m (xs++ys) mf->D5 E ops (fY (fun _=>true) k xs m) ys mf:=by
    intro xs
    induction xs with
    |nil=>intro ys k m h;exact h
    |cons x xs ih2=>intro ys k m h;simp only[fY,bu];exact ih2 ys (k+1) _ h.2.2.2.2.2
   rw[hmi]
   refine aux (dU.take i) _ 0 m0 ?_
   rw[<-NL]
   exact hch
  have jI:p.e.al=true->fY L 0 dU m0=mi:=fun Cc=>by
   have Ds:∀(x:nZ),(x.d5 ops).sF (p.d5 ops)=false->False:=fun x hx=>by
    simp only[Touch.sF,eh] at hx
    have h2:(p.d5 ops).al=false:=hx.1.2
    have h3:(p.d5 ops).al=true:=KR.trans Cc
    rw[h3] at h2;cases h2
   have aks:∀(x:nZ),(p.d5 ops).sF (x.d5 ops)=false->False:=fun x hx=>by
    simp only[Touch.sF,eh] at hx
    have h2:(p.d5 ops).al=false:=hx.1.1
    have h3:(p.d5 ops).al=true:=KR.trans Cc
    rw[h3] at h2;cases h2
   have agt:∀(xs:List nZ) (k:Nat) (m:Mem),(∀j,j<xs.length->L (k+j)=false)->fY L k xs m=m:=by
    intro xs
    induction xs with
    |nil=>intro k m _;rfl
    |cons x xs ih3=>
     intro k m hx
     have h0:=hx 0 (by simp)
     simp only[qY] at h0
     simp only[fY,h0,ft,br]
     exact ih3 (k+1) m (fun j hj=>by
      have:=hx (j+1) (by simp;omega)
      rwa[show k+(j+1)=k+1+j by omega] at this)
   rw[Cf,agt,hmi]
   ·refine oV fun j hj=> ?_
    rw[Uo] at hj
    have hjs:j<dU.length:=by omega
    rcases PS j dU[j] hj (cm hjs) with h1|h1
    ·simpa[L] using h1
    ·exact(Ds _ h1).elim
   ·intro j hj
    have hjs:i+1+j<dU.length:=by rw[rR] at hj;omega
    cases TM:L (i+1+j) with
    |false=>rfl
    |true=>exact(aks _ (IC (i+1+j) dU[i+1+j] (by omega) (cm hjs) TM)).elim
  rw[<-hmi] at vn
  obtain⟨hq,he,Gx,Bz,lz,_⟩:=akr
  obtain⟨γ,iP,hg⟩:=iP
  have hw:oL ops (fY L 0 dU m0) o=some p.q:=by
   rw[<-hq,hpo]
   exact IB fun t ht=>vn.tmp t (.inl (by rw[KQ,hpo];exact ht))
  have hd':∀t,o.dst=some t->t<F.n:=fun t ht=>akq p (jD hp) t (by rw[hpo];exact ht)
  have PJ:∀a' w',(∃γ',ix F γ' (p.step (fY L 0 dU m0)) a' w'/\iy E.gl γ'.fr w')->wpAny E.P .any ops Q Ea (cn.setIfInBounds i true) a' w':=by
   intro a' w' xk
   refine ih (cn.setIfInBounds i true) a' w' (by simpa using hs) ?_ ?_ (by rw[agr];exact xk)
   ·have:=D' (n:=ops.size) fO hun
    omega
   ·intro j oj hoj TM e B' hb
    by_cases MR:j=i
    ·subst MR
     rw[Ug] at hoj
     cases hoj
     exact getD_set_true (YA e B' hb)
    ·rw[getD_set_ne false (f_ MR)] at TM
     exact getD_set_true (ly j oj hoj TM e B' hb)
  unfold wpOp
  rw[ho]
  simp only
  rw[zl iP hw]
  cases hpq:p.q with
  |true=>
   rw[hpq] at he
   simp only[bu] at he ⊢
   rw[hpo] at he
   obtain⟨e2,B',DQ,akv,akw,akx,aky⟩:∃e',aA E (fY L 0 dU m0) p.nv p.nt o=some e'/\(∀(M:Mem) d n,M.apply d n e'=M.apply d n p.e)/\e'.al=p.e.al/\e'.nv=p.e.nv/\e'.ut=p.e.ut/\e'.rt=p.e.rt:=by
    cases Cc:p.e.al with
    |true=>rw[jI Cc];exact⟨p.e,he,fun _ _ _=>rfl,Cc,rfl,rfl,rfl⟩
    |false=>
    rw[<-Cc]
    refine F_ he Cc (fun x hx=> ?_) (fun hp0 id gm=>vn.var id (.inl ?_)) (fun id off ks hp0=>vn.len id off ks.length (by simp[nZ.d5,Touch.of,hp0])) (fun k hk=>vn.tok k (.inl ?_))
    ·cases x with
     |tmp t=>
      refine vn.tmp t (.inl ?_)
      rw[KQ,hpo]
      unfold Oper.looksAt
      exact List.mem_append_left _ (List.mem_filterMap.2 ⟨.tmp t,by simpa using hx,rfl⟩)
     |_=>rfl
    ·simpa[nZ.d5,Touch.of,hp0] using gm
    ·simp only[nZ.d5,Touch.of]
     split<;>exact hk
   refine .inl (Oper.wp_mono (fun a' w' hp'=>PJ a' w' ?_) (KK hE iP hg hd' B' (fun Cc=>by rw[akv] at Cc;rw[jI Cc];exact⟨lz.1,lz.2,X0 p (jD hp)⟩) (fun TI=> ?_) (fun k n hk hnk=> ?_)))
   ·obtain⟨γ',h1,h2⟩:=hp'
    refine⟨γ',?_,h2⟩
    simp only[nZ.step,hpo]
    rw[DQ] at h1
    exact h1
   ·rw[akw] at TI
    have hp0:p.e.pv=none:=by
     cases hp0:p.e.pv with
     |none=>rfl
     |some z=>
      obtain⟨id,off,ks⟩:=z
      obtain⟨_,_,_,_,_,_,_,_,_,_,_,_,hz⟩:=D3 he hp0
      rw[hz] at TI
      cases TI
    rw[vn.var p.nv (.inr (by simp[nZ.d5,Touch.of,TI,hp0]))]
    exact Gx TI
   ·rw[akx] at hk
    rw[aky] at hnk
    rw[vn.tok k (.inr (by simp only[nZ.d5,Touch.of];split<;>exact tB.2 ⟨(k,n),hk,rfl⟩))]
    exact Bz k n hk hnk
  |false=>
   rw[hpq] at he
   simp only[ft,br] at he ⊢
   refine PJ _ _ ⟨γ,?_,hg⟩
   simp only[nZ.step,he,hpo,Mem.D4]
   exact iP.put hd' rfl
theorem ix.uI(h:ix F γ m a w):ix F γ m a {w with drawn:=w.drawn+1}/\Ev γ.fr γ.fr w {w with drawn:=w.drawn+1}:=by
 have hb:Below w.heap.size w {w with drawn:=w.drawn+1}:=(Below.refl _ w).drew
 obtain⟨h1,h2⟩:=h.tE hb (yB:=γ.fr) (fun _ _ h=>h) (fun _ _ h=> .inl h)
 exact⟨h1,h2.ev⟩
theorem ID(hE:pG E){uI:Bool}(h:qx E ops uI s=some s')(hr:nY E F s a w)(hQ:∀a w,nY E F s' a w->Q .normal a w):(Code.region id ops uI).wp E.P Q a w:=by
 unfold qx at h
 split at h
 ·cases h
 ·rename_i s1 ts mX
  split at h
  ·rename_i co
   cases h
   cases uI with
   |false=>
    refine wp_region ?_
    have:=PQ hE mX (k:=0) (by simp) hQ hr
    rw[List.range_eq_range']
    simpa using this
   |true=>
    simp only[fS,rM,cY] at co
    obtain⟨⟨ab3,Uq⟩,akz⟩:=co
    obtain⟨dU,h1,h2,h3,h4,h5,h6,h7,h8⟩:=KN mX
    obtain⟨⟨hn,hg1,hg2,hg3⟩,γ,iP,hg⟩:=hr
    obtain⟨jK,akB⟩:=iP.uI
    refine wp_region_any akz ?_
    have Ut:∀i,(Array.replicate ops.size false).getD i false=false:=fun i=>by
     by_cases hi:i<ops.size<;>simp[hi]
    have DS:∀(xs:List nZ) (k:Nat) (m:Mem),fY (fun i=>(Array.replicate ops.size false).getD i false) k xs m=m:=by
     intro xs
     induction xs with
     |nil=>intro k m;rfl
     |cons x xs ih=>
      intro k m
      show fY _ (k+1) xs (if(Array.replicate ops.size false).getD k false=true then x.step m else m)=m
      rw[Ut k,aR (by simp)]
      exact ih (k+1) m
    refine YB hE h1 h3 (fun p hp t ht=>by rw[<-hn];exact h4 p hp t ht) (fun p hp=>⟨aZ hg1 (h6 p hp).1,aZ hg2 (h6 p hp).2,aZ hg3 (h6 p hp).1⟩) (by rw[<-h2];exact ab3) Uq (fun a w hr=>hQ a w ⟨⟨by rw[h5];exact hn,aZ hg1 h7,aZ hg2 h8,aZ hg3 h7⟩,hr⟩) ops.size (Array.replicate ops.size false) a _ (by simp) ?_ ?_ ?_
    ·unfold unl
     rw[List.filter_eq_self.2 (fun i hi=>by rw[tC] at hi;simp[hi])]
     simp
    ·intro j o _ hl
     rw[Ut] at hl
     cases hl
    ·exact⟨γ,by rw[DS];exact jK,hg.mono akB⟩
  ·cases h
open Go.RowKit
theorem ix.bJ(h:ix F γ m a w)(ht:∀t,m'.tmp t=m.tmp t\/m'.tmp t= .bf)(hv:m'.var=m.var)(hk:m'.tok=m.tok):ix F γ m' a w where
 defers:=h.defers
 size:=h.size
 cF:=h.cF
 sk:=h.sk
 xb:=h.xb
 j9:=h.j9
 fR:=h.fR
 tmps t:=by
  rw[hk]
  rcases ht t with h1|h1
  ·rw[h1];exact h.tmps t
  ·rw[h1];trivial
 gh:=by rw[hk];exact h.gh
 vars:=by rw[hv,hk];exact h.vars
 gM:=by rw[hv];exact h.gM
 d4:=h.d4
 h_:=by rw[hv];exact h.h_
 dE:=by rw[hk];exact h.dE
 eP:=by rw[hk];exact h.eP
 jY:=by rw[hk,hv];exact h.jY
theorem xn:∀{fs:List Tmp} {ts:List T},(gG ts fs).length=ts.length/\∀t,(gG ts fs).getD t .skip=ts.getD t .skip\/(gG ts fs).getD t .skip= .bf
 |[],ts=>⟨rfl,fun t=> .inl rfl⟩
 |f::fs,ts=>by
  obtain⟨h1,h2⟩:=xn (fs:=fs) (ts:=ts.set f .bf)
  refine⟨by simp[gG,h1],fun t=> ?_⟩
  simp only[gG]
  rcases h2 t with h3|h3
  ·rw[h3]
   by_cases hft:f=t
   ·subst hft
    by_cases fO:f<ts.length
    ·right;simp[List.getD,fO]
    ·left
     have Dq:ts.length<=f:=Nat.le_of_not_lt fO
     rw[List.set_eq_of_length_le Dq]
   ·left;simp[List.getD,hft]
  ·exact .inr h3
theorem nY.bJ(h:nY E F s a w)(fs:List Tmp):nY E F {s with tmps:=gG s.tmps fs} a w:=by
 obtain⟨⟨hn,X0⟩,γ,hr,hg⟩:=h
 obtain⟨h1,h2⟩:=xn (fs:=fs) (ts:=s.tmps)
 exact⟨⟨by rw[h1];exact hn,X0⟩,γ,hr.bJ h2 rfl rfl,hg⟩
variable{k:Nat}
theorem V.nI(hx:x.aE γ tok w v)(ho:x.yM n=true):
 (x.lm k).aE {γ with ky:=fun i=>if i<n then γ.ky i else none} (fun i=>if i<k then tok i else none) w v:=by
 cases x with
 |c x=>simpa only[V.lm,V.aE] using hx
 |cX sz es t=>
  cases t with
  |exact=>simpa only[V.lm,V.aE,qp] using hx
  |tok i=>
   simp only[V.lm]
   split
   ·rename_i hi
    simp only[V.aE,qp,hi,bu] at hx ⊢
    exact hx
   ·simp only[V.aE]
    exact hx.1
 |fX id off=>
  simp only[V.yM,ij] at ho
  simp only[V.lm,V.aE,ho,bu] at hx ⊢
  exact hx
 |sC id off sz l=>
  simp only[V.yM,ij] at ho
  simp only[V.lm,V.aE,ho,bu] at hx ⊢
  exact hx
 |ifp t id off=>
  simp only[V.yM,ij] at ho
  simp only[V.lm,V.aE,ho,bu] at hx ⊢
  exact hx
 |PB f dA=>
  simp only[V.lm,V.aE] at hx ⊢
  obtain⟨vs,h1,h2⟩:=hx
  refine⟨vs,h1,?_⟩
  simp only[V.yM] at ho
  clear h1
  induction dA generalizing vs with
  |nil=>
   cases vs with
   |nil=>trivial
   |cons _ _=>exact h2.elim
  |cons c cs ih=>
   cases vs with
   |nil=>exact h2.elim
   |cons u us=>
    simp only[pe,cY] at ho
    refine⟨?_,ih ho.2 us h2.2⟩
    have h3:=h2.1
    cases c with
    |inl c=>exact h3
    |inr p=>
     obtain⟨id,off⟩:=p
     have ho1:=ho.1
     simp only[ij] at ho1
     simp only[ph,ho1,bu] at h3 ⊢
     exact h3
theorem Vs.nI:∀{xs:List V} {vs:List Value},bj (V.aE γ tok w) xs vs->xs.all (V.yM n)=true->
 bj (V.aE {γ with ky:=fun i=>if i<n then γ.ky i else none} (fun i=>if i<k then tok i else none) w) (xs.map (V.lm k)) vs
 |[],[],_,_=>trivial
 |x::xs,v::vs,h,ho=>by
  simp only[pe,cY] at ho
  exact⟨V.nI h.1 ho.1,Vs.nI h.2 ho.2⟩
 |[],_::_,h,_=>h.elim
 |_::_,[],h,_=>h.elim
theorem K.nI{x y:K}(hx:x.aE γ tok w v)(hc:x.cut n k=some y):
 y.aE {γ with ky:=fun i=>if i<n then γ.ky i else none} (fun i=>if i<k then tok i else none) w v:=by
 cases x with
 |v x=>
  simp only[K.cut] at hc
  split at hc
  ·cases hc;exact V.nI hx (by assumption)
  ·cases hc
 |agg xs=>
  simp only[K.cut] at hc
  split at hc
  ·rename_i ho
   cases hc
   obtain⟨vs,h1,h2⟩:=hx
   exact⟨vs,h1,Vs.nI h2 ho⟩
  ·cases hc
theorem T.nI{x:T}(hx:x.aE γ tok w v):
 (x.cut n k).aE {γ with ky:=fun i=>if i<n then γ.ky i else none} (fun i=>if i<k then tok i else none) w v:=by
 cases x with
 |k x=>
  simp only[T.cut]
  split
  ·rename_i y hy;exact K.nI hx hy
  ·trivial
 |Kk ks=>
  simp only[T.cut]
  split
  ·rename_i ys hy
   obtain⟨vs,h1,h2⟩:=hx
   refine⟨vs,h1,?_⟩
   clear h1
   induction ks generalizing ys vs with
   |nil=>
    simp at hy
    subst hy
    cases vs with
    |nil=>trivial
    |cons _ _=>exact h2.elim
   |cons z zs ih=>
    cases vs with
    |nil=>exact h2.elim
    |cons u us=>
     rw[fv] at hy
     simp only[j5,j4,ig,av] at hy
     obtain⟨y,hy1,r,hr,rfl⟩:=hy
     exact⟨K.nI h2.1 hy1,ih _ hr us h2.2⟩
  ·trivial
 |bf=>trivial
 |skip=>exact hx
theorem nY.cut(h:nY E F s a w)(hn:F.gn<=n/\F.gk<=k/\F.gK.length<=n)(hc:s.cut n k=some s'):nY E F s' a w:=by
 unfold St.cut at hc
 split at hc
 ·rename_i lz
  cases hc
  obtain⟨⟨dK,hg1,hg2,hg3⟩,γ,hr,hg⟩:=h
  obtain⟨hn1,hn2,hn⟩:=hn
  have Cd:∀i:Nat,((s.vars.take n).map fun xs=>xs.map (V.lm k))[i]?=if i<n then(s.vars[i]?).map (fun xs=>xs.map (V.lm k)) else none:=fun i=>by
   rw[nm,rQ]
   split<;>simp
  have NM:∀i:Nat,(s.dE.take k)[i]?=if i<k then s.dE[i]? else none:=fun i=>by
   rw[rQ]
  have hv:∀i zs,((s.vars.take n).map fun xs=>xs.map (V.lm k))[i]?=some zs->i<n/\∃xs,s.vars[i]?=some xs/\zs=xs.map (V.lm k)/\xs.all (V.yM n)=true:=fun i zs hi=>by
   rw[Cd] at hi
   split at hi
   ·rename_i rT
    simp only[aV] at hi
    obtain⟨xs,h1,rfl⟩:=hi
    refine⟨rT,xs,h1,rfl,?_⟩
    rw[lG] at lz
    refine lz xs (jD (i:=i) ?_)
    rw[rQ,aP rT]
    exact h1
   ·cases hi
  have ht:∀i l,(s.dE.take k)[i]?=some l->s.dE[i]?=some l:=fun i l hi=>by
   rw[NM] at hi
   split at hi
   ·exact hi
   ·cases hi
  have hl:∀i p,(if i<n then γ.ky i else none)=some p->γ.ky i=some p:=fun i p hi=>by
   split at hi
   ·exact hi
   ·cases hi
  have hm:(⟨s.tmps.map (T.cut n k),(s.vars.take n).map (fun xs=>xs.map (V.lm k)),s.dE.take k⟩:St).mem.tok=fun i=>if i<k then s.mem.tok i else none:=funext NM
  refine⟨⟨by simpa using dK,by simp only[jq,kG];omega,by simp only[kG];omega,by simp only[jq,kG];omega⟩,{γ with ky:=fun i=>if i<n then γ.ky i else none},?_,hg⟩
  exact {
   defers:=hr.defers
   size:=hr.size
   cF:=hr.cF
   sk:=hr.sk
   xb:=hr.xb
   j9:=hr.j9
   fR:=fun i b o hi=>hr.fR i b o (hl i _ hi)
   tmps:=fun t=>by
    rw[hm]
    have:(⟨s.tmps.map (T.cut n k),(s.vars.take n).map (fun xs=>xs.map (V.lm k)),s.dE.take k⟩:St).mem.tmp t=(s.mem.tmp t).cut n k:=by
     simp only[St.mem,List.getD,nm]
     cases s.tmps[t]?<;>rfl
    rw[this]
    exact T.nI (hr.tmps t)
   gh:=fun x v n1 k1 hp=>by
    rw[hm]
    obtain⟨⟨h1,h2⟩,h3⟩:=hr.gh x v n1 k1 hp
    refine⟨⟨h1,h2⟩,?_⟩
    rw[<-Gh.Aw γ (aZ h1 hn1),<-Aw s.mem.tok (aZ h2 hn2)] at h3
    exact h3
   vars:=fun i zs hi=>by
    rw[hm]
    obtain⟨rT,xs,h1,rfl,h2⟩:=hv i zs hi
    obtain⟨b,o,k1,⟨vs,k2,k3⟩,k4,k5⟩:=hr.vars i xs h1
    refine⟨b,o,by simp only[rT,bu];exact k1,⟨vs,Vs.nI k2 h2,k3⟩,by simpa using k4,by simpa using k5⟩
   gM:=fun i hi=>by
    simp only
    split
    ·rename_i rT
     have Km:((s.vars.take n).map fun xs=>xs.map (V.lm k))[i]?=none:=hi
     rw[Cd,aP rT] at Km
     exact hr.gM i (by simpa[St.mem] using Km)
    ·rfl
   d4:=fun i p hp=>by
    have:i<n:=lT (List.getElem?_eq_some_iff.1 hp).1 hn
    simp only[this,bu]
    exact hr.d4 i p hp
   h_:=fun i j zs us b o b' o' pj hi hj hli TM=>by
    obtain⟨_,xs,h1,rfl,_⟩:=hv i zs hi
    obtain⟨_,ys,h2,rfl,_⟩:=hv j us hj
    have:=hr.h_ i j xs ys b o b' o' pj h1 h2 (hl i _ hli) (hl j _ TM)
    simpa using this
   dE:=fun i l hi=>hr.dE i l (ht i l hi)
   eP:=fun i j x y pj hi hj=>hr.eP i j x y pj (ht i x hi) (ht j y hj)
   jY:=fun i l j zs b o hi hj TM=>by
    obtain⟨_,xs,h1,rfl,_⟩:=hv j zs hj
    exact hr.jY i l j xs b o (ht i l hi) h1 (hl j _ TM)}
 ·cases hc
theorem ix.ab8(h:ix F γ m a w){t:Tmp}{x:T}(hx:x.aE γ m.tok w (a.tmps.getD t undef)):ix F γ {m with tmp:=fun i=>if i=t then x else m.tmp i} a w:=
 {h with
  tmps:=fun i=>by
   simp only
   split
   ·rename_i hi;subst hi;exact hx
   ·exact h.tmps i}
theorem ix.ab9(h:ix F γ m a w){xs TV:List V}(hv:m.var id=some xs)(dK:TV.length=xs.length)(hx:∀b o vs,γ.ky id=some (b,o)->w.rangeAt b o vs->bj (V.aE γ m.tok w) xs vs->bj (V.aE γ m.tok w) TV vs):
 ix F γ {m with var:=fun i=>if i=id then some TV else m.var i} a w:=by
 have key:∀i zs,(if i=id then some TV else m.var i)=some zs->∃ys,m.var i=some ys/\ys.length=zs.length/\∀b o vs,γ.ky i=some (b,o)->w.rangeAt b o vs->bj (V.aE γ m.tok w) ys vs->bj (V.aE γ m.tok w) zs vs:=fun i zs hi=>by
  split at hi
  ·rename_i he;subst he;cases hi;exact⟨xs,hv,dK.symm,hx⟩
  ·exact⟨zs,hi,rfl,fun _ _ _ _ _ h=>h⟩
 exact {h with
  vars:=fun i zs hi=>by
   obtain⟨ys,h1,h2,h3⟩:=key i zs hi
   obtain⟨b,o,k1,⟨vs,k2,k3⟩,k4,k5⟩:=h.vars i ys h1
   exact⟨b,o,k1,⟨vs,h3 b o vs k1 k3 k2,k3⟩,by rw[<-h2];exact k4,by rw[<-h2];exact k5⟩
  gM:=fun i hi=>by
   simp only at hi
   split at hi
   ·cases hi
   ·exact h.gM i hi
  h_:=fun i j zs us b o b' o' pj hi hj hli TM=>by
   obtain⟨ys,h1,h2,_⟩:=key i zs hi
   obtain⟨ys',Kr,Yh,_⟩:=key j us hj
   have:=h.h_ i j ys ys' b o b' o' pj h1 Kr hli TM
   omega
  jY:=fun i l j zs b o hi hj TM=>by
   obtain⟨ys,h1,_,_⟩:=key j zs hj
   exact h.jY i l j ys b o hi h1 TM}
theorem r_{E:lW}{F:Fm}{a:Act}{w:World}:∀{hs:List (Tmp×Nat)} {ts nX:List T} {vs:List (List V)} {ks TO:List Nat},oN ts ks hs=(nX,TO)->nY E F ⟨ts,vs,ks⟩ a w->nY E F ⟨nX,vs,TO⟩ a w
 |[],ts,nX,vs,ks,TO,h,hr=>by simp only[oN,aY] at h;obtain⟨rfl,rfl⟩:=h;exact hr
 |(t,z)::hs,ts,nX,vs,ks,TO,h,hr=>by
  simp only[oN] at h
  split at h
  ·rename_i sz es ht
   refine r_ h ?_
   obtain⟨⟨hn,g1,g2,g3⟩,γ,iP,hg⟩:=hr
   have htm:=iP.tmps t
   have hm:(⟨ts,vs,ks⟩:St).mem.tmp t= .k (.v (.cX sz es .exact)):=ht
   rw[hm] at htm
   obtain⟨γ',h1,h2,_,h3⟩:=iP.tag (j:=ks.length) (z:=z) (by simp[St.mem]) htm
   have h4:=h1.ab8 (t:=t) (x:= .k (.v (.cX (if es.isEmpty then z else sz) es (.tok ks.length)))) h3
   refine⟨⟨by simpa using hn,g1,aZ g2 (by simp),g3⟩,γ',?_,hg.mono h2.ev⟩
   have fO:t<ts.length:=by
    rcases gq t ts.length with h|h
    ·exact h
    ·simp[List.getD,jR h] at ht
   have e1:(⟨ts.set t (.k (.v (.cX (if es.isEmpty then z else sz) es (.tok ks.length)))),vs,ks++[es.length]⟩:St).mem={tmp:=fun i=>if i=t then .k (.v (.cX (if es.isEmpty then z else sz) es (.tok ks.length))) else(⟨ts,vs,ks⟩:St).mem.tmp i,var:=(⟨ts,vs,ks⟩:St).mem.var,tok:=fun i=>if i=ks.length then some es.length else(⟨ts,vs,ks⟩:St).mem.tok i}:=by
    simp only[St.mem,Mem.mk.injEq,true_and]
    constructor
    ·funext i
     by_cases hi:i=t
     ·subst hi;simp[List.getD,fO]
     ·simp[List.getD,hi,f_ hi]
    ·funext i
     by_cases hi:i=ks.length
     ·subst hi;simp
     ·simp only[hi,br]
      rcases gq i ks.length with h|h
      ·rw[mq h]
      ·rw[jR (by simp;omega),jR h]
   rw[e1]
   exact h4
  ·exact r_ h hr
theorem bj.set{α β:Type}{R:α->β->Prop}:∀{xs:List α} {vs:List β} {i:Nat} {x:α},bj R xs vs->(∀v,vs[i]?=some v->R x v)->bj R (xs.set i x) vs
 |[],[],_,_,_,_=>trivial
 |_::_,v::_,0,_,h,hx=>⟨hx v rfl,h.2⟩
 |_::_,_::_,i+1,_,h,hx=>⟨h.1,bj.set h.2 (fun v hv=>hx v (by simpa using hv))⟩
 |[],_::_,_,_,h,_=>h.elim
 |_::_,[],_,_,h,_=>h.elim
theorem oP{E:lW}{F:Fm}{a:Act}{w:World}:∀{hs:List (Nat×Nat×Nat)} {ts:List T} {vs jQ:List (List V)} {ks TO:List Nat},pT vs ks hs=(jQ,TO)->nY E F ⟨ts,vs,ks⟩ a w->nY E F ⟨ts,jQ,TO⟩ a w
 |[],ts,vs,jQ,ks,TO,h,hr=>by simp only[pT,aY] at h;obtain⟨rfl,rfl⟩:=h;exact hr
 |(id,off,z)::hs,ts,vs,jQ,ks,TO,h,hr=>by
  simp only[pT] at h
  split at h
  ·rename_i xs hx
   split at h
   ·rename_i sz es hxo
    refine oP h ?_
    obtain⟨⟨hn,g1,g2,g3⟩,γ,iP,hg⟩:=hr
    obtain⟨b,o,k1,⟨us,k2,k3⟩,_⟩:=iP.vars id xs hx
    obtain⟨v,hv,hrv⟩:=k2.get off _ hxo
    obtain⟨γ',h1,h2,uW,h3⟩:=iP.tag (j:=ks.length) (z:=z) (by simp[St.mem]) hrv
    have h4:=h1.ab9 (id:=id) (xs:=xs) (TV:=xs.set off (.cX (if es.isEmpty then z else sz) es (.tok ks.length))) hx (by simp) (fun b' o' us' Ay xk akE=>by
     rw[uW,k1] at Ay
     cases Ay
     refine akE.set (fun v' Kq=> ?_)
     have e1:=k3 off v hv
     have e2:=xk off v' Kq
     rw[e1] at e2
     cases e2
     exact h3)
    refine⟨⟨hn,by simpa using g1,aZ g2 (by simp),by simpa using g3⟩,γ',?_,hg.mono h2.ev⟩
    have fO:id<vs.length:=(List.getElem?_eq_some_iff.1 hx).1
    have e1:(⟨ts,vs.set id (xs.set off (.cX (if es.isEmpty then z else sz) es (.tok ks.length))),ks++[es.length]⟩:St).mem={tmp:=(⟨ts,vs,ks⟩:St).mem.tmp,var:=fun i=>if i=id then some (xs.set off (.cX (if es.isEmpty then z else sz) es (.tok ks.length))) else(⟨ts,vs,ks⟩:St).mem.var i,tok:=fun i=>if i=ks.length then some es.length else(⟨ts,vs,ks⟩:St).mem.tok i}:=by
     simp only[St.mem,Mem.mk.injEq,true_and]
     constructor
     ·funext i
      by_cases hi:i=id
      ·subst hi;simp[fO]
      ·simp[hi,f_ hi]
     ·funext i
      by_cases hi:i=ks.length
      ·subst hi;simp
      ·simp only[hi,br]
       rcases gq i ks.length with h|h
       ·rw[mq h]
       ·rw[jR (by simp;omega),jR h]
    rw[e1]
    exact h4
   ·exact oP h hr
  ·exact oP h hr
open Go.RowKit
theorem nY.head(h:nY E F s a w)(KT:bY):nY E F (s.head KT) a w:=by
 unfold St.head
 have h1:=r_ (vs:=s.vars) (nX:=(oN s.tmps s.dE KT.AI).1) (TO:=(oN s.tmps s.dE KT.AI).2) rfl h
 have h2:=oP (jQ:=(pT s.vars (oN s.tmps s.dE KT.AI).2 KT.PF).1) (TO:=(pT s.vars (oN s.tmps s.dE KT.AI).2 KT.PF).2) rfl h1
 exact h2.bJ KT.bJ
def dJ.IE:dJ->Exit
 | .normal=> .normal
 | .exit id=> .exit id
 | .ret=> .ret
theorem PT{f:St->Option (dJ×St)}{g:St->Option St}:∀(n:Nat) (s s':St),yV f g n s≠some (.normal,s')
 |0,s,s',h=>by simp[yV] at h
 |n+1,s,s',h=>by
  simp only[yV] at h
  split at h
  ·split at h
   ·exact PT n _ _ h
   ·cases h
  ·rename_i jV
   exact jV s' h
theorem Eb{E:lW}{F:Fm}{c:Code}{f:St->Option (dJ×St)}{g:St->Option St}{Q:Exit->Act->World->Prop}
 (hf:∀(s:St) (e:dJ) (s':St) (Q':Exit->Act->World->Prop) (a:Act) (w:World),f s=some (e,s')->nY E F s a w->(∀a' w',nY E F s' a' w'->Q' e.IE a' w')->c.wp E.P Q' a w)
 (hg:∀(s s':St) (a:Act) (w:World),g s=some s'->nY E F s a w->nY E F s' a w):∀(n:Nat) (s:St) (e:dJ) (s':St) (a:Act) (w:World),yV f g n s=some (e,s')->nY E F s a w->(∀a' w',nY E F s' a' w'->Q e.IE a' w')->
 Code.rounds E.P c Q n a w
 |0,s,e,s',a,w,h,_,_=>by simp[yV] at h
 |n+1,s,e,s',a,w,h,hr,hQ=>by
  rw[rounds_succ]
  have lz:=h
  simp only[yV] at h
  split at h
  ·rename_i s1 xK
   split at h
   ·rename_i s2 X1
    exact hf s .normal s1 _ a w xK hr (fun a' w' xk=>Eb hf hg n s2 e s' a' w' h (hg s1 s2 a' w' X1 xk) hQ)
   ·cases h
  ·cases e with
   |normal=>exact absurd lz (PT (n+1) s s')
   |exit id=>exact hf s _ s' _ a w h hr (fun a' w' xk=>hQ a' w' xk)
   |ret=>exact hf s _ s' _ a w h hr (fun a' w' xk=>hQ a' w' xk)
theorem i9{E:lW}(hE:pG E){F:Fm}{H:Nat->bY}{n:Nat}:∀(c:Code) (s:St) (e:dJ) (s':St) (Q:Exit->Act->World->Prop) (a:Act) (w:World),cz E H n c s=some (e,s')->nY E F s a w->
 (∀a' w',nY E F s' a' w'->Q e.IE a' w')->c.wp E.P Q a w
 | .skip,s,e,s',Q,a,w,h,hr,hQ=>by
   simp only[cz,av,aY] at h
   obtain⟨rfl,rfl⟩:=h
   exact wp_skip (hQ a w hr)
 | .region id ops uI,s,e,s',Q,a,w,h,hr,hQ=>by
   simp only[cz] at h
   split at h
   ·rename_i s1 xK
    simp only[av,aY] at h
    obtain⟨rfl,rfl⟩:=h
    exact ID hE xK hr hQ
   ·cases h
 | .seq x y,s,e,s',Q,a,w,h,hr,hQ=>by
   simp only[cz] at h
   refine wp_seq ?_
   split at h
   ·rename_i s1 xK
    exact i9 hE x s _ s1 _ a w xK hr (fun a' w' xk=>i9 hE y s1 e s' Q a' w' h xk hQ)
   ·rename_i jV
    cases e with
    |normal=>exact absurd h (jV s')
    |exit id=>exact i9 hE x s _ s' _ a w h hr (fun a' w' xk=>hQ a' w' xk)
    |ret=>exact i9 hE x s _ s' _ a w h hr (fun a' w' xk=>hQ a' w' xk)
 | .cond c x y,s,e,s',Q,a,w,h,hr,hQ=>by
   simp only[cz] at h
   have hc:∀b,(E.ev s.mem c).yQ=some b->a.eval c= .bool b:=fun b hb=>by
    obtain⟨_,γ,iP,hg⟩:=hr
    have:=mr iP hg c
    rw[DG hb,ck] at this
    exact this.1
   split at h
   ·rename_i hb
    exact wp_cond_true (hc true hb) (i9 hE x s e s' Q a w h hr hQ)
   ·rename_i hb
    exact wp_cond_false (hc false hb) (i9 hE y s e s' Q a w h hr hQ)
   ·cases h
 | .block id b,s,e,s',Q,a,w,h,hr,hQ=>by
   simp only[cz] at h
   refine wp_block ?_
   split at h
   ·rename_i i s1 xK
    refine i9 hE b s _ s1 _ a w xK hr (fun a' w' xk=> ?_)
    simp only[dJ.IE,Exit.inBlock]
    split at h
    ·rename_i hi
     simp only[av,aY] at h
     obtain⟨rfl,rfl⟩:=h
     rw[aP hi]
     exact hQ a' w' xk
    ·rename_i hi
     simp only[av,aY] at h
     obtain⟨rfl,rfl⟩:=h
     rw[aR hi]
     exact hQ a' w' xk
   ·rename_i jV
    refine i9 hE b s e s' _ a w h hr (fun a' w' xk=> ?_)
    cases e with
    |exit i=>exact absurd h (jV i s')
    |normal=>exact hQ a' w' xk
    |ret=>exact hQ a' w' xk
 | .loop b,s,e,s',Q,a,w,h,hr,hQ=>by
   simp only[cz] at h
   refine wp_loop_rounds n ?_
   have hh:=hr.head (H (c_ b))
   have X0:=hh.1.2
   exact Eb (E:=E) (F:=F) (c:=b) (Q:=Q) (f:=fun s1=>cz E H n b s1)
    (g:=fun s1=>(s1.cut (s.head (H (c_ b))).vars.length (s.head (H (c_ b))).dE.length).map fun s2=>{s2 with tmps:=gG s2.tmps (H (c_ b)).bJ})
    (fun s1 e1 s2 Q' a1 w1 h1 sr hQ1=>i9 hE b s1 e1 s2 Q' a1 w1 h1 sr hQ1)
    (fun s1 s2 a1 w1 h1 sr=>by
      simp only[aV] at h1
      obtain⟨s3,hs3,rfl⟩:=h1
      exact(sr.cut X0 hs3).bJ _) n (s.head (H (c_ b))) e s' a w h hh hQ
 | .exit id,s,e,s',Q,a,w,h,hr,hQ=>by
   simp only[cz,av,aY] at h
   obtain⟨rfl,rfl⟩:=h
   exact wp_exit (hQ a w hr)
 | .ret,s,e,s',Q,a,w,h,hr,hQ=>by
   simp only[cz,av,aY] at h
   obtain⟨rfl,rfl⟩:=h
   exact wp_ret (hQ a w hr)
 | .rangeFunc _ _ _ _,s,e,s',_,_,_,h,_,_=>by simp[cz] at h
 | .scope _,s,e,s',_,_,_,h,_,_=>by simp[cz] at h
 | .label _,s,e,s',_,_,_,h,_,_=>by simp[cz] at h
 | .goto _,s,e,s',_,_,_,h,_,_=>by simp[cz] at h
 | .refuse _,s,e,s',_,_,_,h,_,_=>by simp[cz] at h
open Go.RowKit
def AR(tmps:Array Value):ResultVar->Sem Value
 | .tmp t=>pure (tmps.getD t undef)
 | .cell a t=>do loadVar t (<-asAddr (tmps.getD a undef))
theorem BG{P:Program}{tmps:Array Value}{w:World}{f:ResultVar->Sem Value}:∀{rs:List ResultVar} {us:List Value},bj (fun r u=>(f r).run P w= .ok u w) rs us->(rs.mapM f).run P w= .ok us w
 |[],[],_=>by simp
 |r::rs,u::us,h=>by
  rw[fv]
  simp only[Sem.run_bind,h.1,Result.andThen_ok,BG (tmps:=tmps) h.2,Sem.run_pure]
 |[],_::_,h=>h.elim
 |_::_,[],h=>h.elim
variable{fn:Func}
theorem BH{tmps:Array Value}(h:bj (fun r u=>(AR tmps r).run P w= .ok u w) fn.results.toList us):
 (results fn tmps).run P w= .ok (u_ us) w:=by
 have e:results fn tmps=(do let vs<-fn.results.mapM (AR tmps);pure (if h:vs.size=1 then vs[0] else .tuple vs)):=by
  unfold results
  congr 1
 rw[e,Array.mapM_eq_mapM_toList]
 have:=BG (tmps:=tmps) h
 simp only[map_eq_pure_bind,Sem.run_bind,this,Result.andThen_ok,Sem.run_pure]
 match us with
 |[]=>rfl
 |[u]=>rfl
 |u::v::r=>simp[u_]
theorem tT{E:lW}{F:Fm}{s:St}{γ:Gh}{a:Act}{w:World}(h:ix F γ s.mem a w):∀{rs:List ResultVar} {ks:List K},rs.mapM (xE E.P s)=some ks->
 ∃us:List Value,bj (K.aE γ s.mem.tok w) ks us/\bj (fun r u=>(AR a.tmps r).run E.P w= .ok u w) rs us
 |[],ks,hk=>by simp at hk;subst hk;exact⟨[],trivial,trivial⟩
 |r::rs,ks,hk=>by
  rw[fv] at hk
  simp only[j5,j4,ig,av] at hk
  obtain⟨k,MS,TO,MT,rfl⟩:=hk
  obtain⟨us,h1,h2⟩:=tT h MT
  suffices hs:∃u,K.aE γ s.mem.tok w k u/\(AR a.tmps r).run E.P w= .ok u w by
   obtain⟨u,hu,hr⟩:=hs
   exact⟨u::us,⟨hu,h1⟩,⟨hr,h2⟩⟩
  cases r with
  |tmp t=>
   simp only[xE] at MS
   split at MS
   ·rename_i x hx
    cases MS
    have:=h.tmps t
    rw[show s.mem.tmp t=s.tmps.getD t .skip from rfl,hx] at this
    exact⟨_,this,by simp only[AR,Sem.run_pure]⟩
   ·cases MS
  |cell b t=>
   simp only[xE] at MS
   split at MS
   ·rename_i id off hx
    split at MS
    ·rename_i xs DW
     have hp:=h.tmps b
     rw[show s.mem.tmp b=s.tmps.getD b .skip from rfl,hx] at hp
     simp only[T.aE,K.aE,V.aE] at hp
     obtain⟨b',o,hl,hp⟩:=hp
     obtain⟨b'',o'',Kr,⟨vs,Yh,h3'⟩,_⟩:=h.vars id xs DW
     rw[hl] at Kr;cases Kr
     obtain⟨v,ka,py⟩:=xG MS (Yh.drop off) (pU h3' off)
     refine⟨v,py,?_⟩
     simp only[AR,hp,asAddr,Sem.run_bind,Sem.run_pure,Result.andThen_ok]
     simpa[Instr.loadAt,Instr.sureAddr,asAddr] using ka
    ·cases MS
   ·cases MS
theorem BI{F:Fm}{s:St}{m:Mem}{γ:Gh}{a:Act}{w:World}(h:ix F γ m a w)(hm:m.tok=s.mem.tok):∀{ks:List K} {us:List Value} {rs:List au},ks.mapM (yW s)=some rs->bj (K.aE γ s.mem.tok w) ks us->bj (au.aE γ.fr F.w_ w) rs us
 |[],us,rs,hr,hu=>by
  simp at hr;subst hr
  cases us with
  |nil=>trivial
  |cons _ _=>exact hu.elim
 |k::ks,[],rs,hr,hu=>hu.elim
 |k::ks,u::us,rs,hr,hu=>by
  rw[fv] at hr
  simp only[j5,j4,ig,av] at hr
  obtain⟨r,sr,Ke,Yz,rfl⟩:=hr
  refine⟨?_,BI h hm Yz hu.2⟩
  have hk:=hu.1
  unfold yW at sr
  split at sr
  ·rename_i es0
   cases sr
   simp only[K.aE,V.aE,qp] at hk
   obtain⟨h1,b,n,rfl⟩:=hk
   have hn:n=es0.length:=by simp only[C.aE] at h1;obtain⟨_,_,_,jI,h2,_⟩:=h1;simp at jI;exact jI.2.1.trans h2
   rw[hn] at h1 ⊢
   exact⟨h1,b,_,rfl,aL _, .inl rfl⟩
  ·rename_i sz es i
   simp only[K.aE,V.aE,qp] at hk
   obtain⟨h1,n,h2,h3,h4⟩:=hk
   split at sr
   ·rename_i ht
    cases sr
    have hn:n=es.length:=by
     have:s.mem.tok i=some es.length:=ht
     rw[this] at h2;cases h2;rfl
    subst hn
    obtain⟨h5,h6⟩:=h4 rfl
    obtain⟨k1,k2⟩:=h.dE i _ (by rw[hm];exact h2)
    refine⟨h1,_,_,h5,k1,?_⟩
    rcases k2 with k2|⟨b,k2,k3,k4,k5⟩
    ·exact .inl k2
    ·rw[h6] at k3 k4 k5
     exact .inr ⟨b,k2,k3,k4,k5⟩
   ·cases sr;exact h1
  ·rename_i x _ _
   simp only[aV] at sr
   obtain⟨c,hc,rfl⟩:=sr
   exact Cz hc hk
  ·simp only[aV] at sr
   obtain⟨cs,hc,rfl⟩:=sr
   simp only[K.aE] at hk
   obtain⟨vs,rfl,Rf⟩:=hk
   exact⟨vs,rfl,nF hc Rf⟩
theorem GX{k:K}(hr:yW s k=some (.top sz es))(hk:K.aE γ s.mem.tok w k u)(hb:iC u=some b):
 ∃i,k= .v (.cX sz es (.tok i))/\s.mem.tok i=some es.length/\(γ.tk i).cap≠es.length/\(γ.tk i).cF.map (·.block)=some b:=by
 unfold yW at hr
 split at hr
 ·simp only[K.aE,V.aE,qp] at hk
  obtain⟨h1,b',n,rfl⟩:=hk
  cases b'<;>simp[iC] at hb
 ·rename_i wi Cy i
  split at hr
  ·rename_i ht
   cases hr
   simp only[K.aE,V.aE,qp] at hk
   obtain⟨h1,n,h2,h3,h4⟩:=hk
   have YD:s.mem.tok i=some es.length:=ht
   have hn:n=es.length:=by rw[YD] at h2;cases h2;rfl
   subst hn
   obtain⟨h5,h6⟩:=h4 rfl
   refine⟨i,rfl,YD,?_,?_⟩
   ·intro hc
    rw[h5,hc] at hb
    cases uV:(γ.tk i).cF<;>simp[iC,uV] at hb
   ·rw[h5] at hb
    cases uV:(γ.tk i).cF with
    |none=>simp[iC,uV] at hb
    |some ad=>
     simp only[iC,uV] at hb
     split at hb
     ·cases hb
     ·simpa using hb
  ·cases hr
 ·simp only[aV] at hr
  obtain⟨_,_,hx⟩:=hr;cases hx
 ·simp only[aV] at hr
  obtain⟨_,_,hx⟩:=hr;cases hx
theorem KU{α β:Type}{f:α->Option β}:∀{xs:List α} {ys:List β},xs.mapM f=some ys->∀(i:Nat) (y:β),ys[i]?=some y->∃x,xs[i]?=some x/\f x=some y
 |[],ys,h,i,y,hy=>by simp at h;subst h;simp at hy
 |x::xs,ys,h,i,y,hy=>by
  rw[fv] at h
  simp only[j5,j4,ig,av] at h
  obtain⟨z,hz,zs,hzs,rfl⟩:=h
  cases i with
  |zero=>simp at hy;subst hy;exact⟨x,rfl,hz⟩
  |succ i=>simp at hy ⊢;exact KU hzs i y hy
theorem NO{ks:List K}(h:ks[j]?=some (.v (.cX sz es (.tok i)))):i∈px ks:=by
 induction ks generalizing j with
 |nil=>simp at h
 |cons k ks ih=>
  cases j with
  |zero=>simp at h;subst h;simp[px]
  |succ j=>
   simp at h
   have:=ih h
   unfold px
   split
   ·rename_i jI;cases jI
   ·rename_i jI;cases jI;exact ch _ this
   ·rename_i jI;cases jI;exact this
theorem Ga{k:K}{ks:List K}(h:kz (px (k::ks))=true):kz (px ks)=true:=by
 unfold px at h
 split at h
 ·rename_i jI;cases jI
 ·rename_i jI;cases jI;simp only[kz,cY] at h;exact h.2
 ·rename_i jI;cases jI;exact h
theorem Ec{F:Fm}{s:St}{m:Mem}{γ:Gh}{a:Act}{w:World}(h:ix F γ m a w)(hm:m.tok=s.mem.tok):∀{ks:List K} {us:List Value} {rs:List au},ks.mapM (yW s)=some rs->bj (K.aE γ s.mem.tok w) ks us->kz (px ks)=true->lX rs us
 |[],us,rs,hr,hu,_=>by simp at hr;subst hr;simp[lX]
 |k::ks,[],rs,hr,hu,_=>hu.elim
 |k::ks,u::us,rs,hr,hu,hd=>by
  rw[fv] at hr
  simp only[j5,j4,ig,av] at hr
  obtain⟨r,sr,Ke,Yz,rfl⟩:=hr
  have ih:=Ec h hm Yz hu.2 (Ga hd)
  cases r with
  |c _=>exact ih
  |agg _=>exact ih
  |top sz es=>
   refine⟨fun j wi Cy u' hj XW b hb m9=> ?_,ih⟩
   obtain⟨i,rfl,h1,h2,h3⟩:=GX sr hu.1 hb
   obtain⟨k',hk',MT⟩:=KU Yz j _ hj
   obtain⟨u'',hu1,hu2⟩:=hu.2.get j k' hk'
   rw[XW] at hu1;cases hu1
   obtain⟨i',rfl,g1,g2,g3⟩:=GX MT hu2 m9
   have Cf:=NO hk'
   simp only[px,kz,cY,xz,M3,H'] at hd
   have jV:i≠i':=fun he=>hd.1 (by rw[he];exact Cf)
   exact h.eP i i' _ _ jV (by rw[hm];exact h1) (by rw[hm];exact g1) h2 g2 (h3.trans g3.symm)
theorem xp{F:Fm}{s:St}{m:Mem}{γ:Gh}{a:Act}{w:World}(h:ix F γ m a w):∀{n k:Nat} {r:List (List C)} {ps:List (Nat×Nat)},(∀i,i<k+n->m.var i=s.vars[i]?)->wj s n k=some r->ps.length=n->(∀(j:Nat) p,ps[j]?=some p->F.gK[k+j]?=some p)->bj (rY γ.fr w) r ps
 |0,k,r,ps,_,hr,hn,_=>by
  simp only[wj,av] at hr
  subst hr
  cases ps with
  |nil=>trivial
  |cons _ _=>simp at hn
 |n+1,k,r,[],_,hr,hn,_=>by simp at hn
 |n+1,k,r,p::ps,hmv,hr,hn,hp=>by
  simp only[wj] at hr
  split at hr
  ·rename_i xs r' DW xk
   split at hr
   ·rename_i cs mv
    cases hr
    refine⟨?_,xp h (fun i hi=>hmv i (by omega)) xk (by simpa using hn) (fun j q hq=>by
     have:=hp (j+1) q (by simpa using hq)
     rwa[show k+(j+1)=k+1+j by omega] at this)⟩
    have hl:=h.d4 k p (hp 0 p rfl)
    obtain⟨b,o,h1,⟨vs,h2,h3⟩,h4,h5⟩:=h.vars k xs (by rw[hmv k (by omega)];exact DW)
    rw[hl] at h1;cases h1
    have dK:cs.length=xs.length:=kB mv
    refine⟨⟨vs,nF mv h2,h3⟩,?_,fun j hj=>(h5 j (by omega)).1⟩
    intro j hj
    exact h4 j (by omega)
   ·cases hr
  ·cases hr
def Rt(sz:Nat):Value->Ib
 | .slice a _ cap=>⟨a,cap,sz⟩
 |_=>default
def tU:List A->List Value->Ib
 | .top sz _::_,v::_=>Rt sz v
 |_::xs,_::vs=>tU xs vs
 |_,_=>default
theorem tV:∀{xs:List A},iN xs=[]->kA xs=true
 |[],_=>rfl
 |x::xs,h=>by
  cases x<;>simp only[iN] at h
  case top=>cases h
  all_goals
   have:=tV h
   simp only[kA,pe,cY] at this ⊢
   exact⟨trivial,this⟩
theorem IF{Fr:Nat->Nat->Prop}{w:World}{gK:List (Nat×Nat)}:∀{xs:List A} {vs:List Value},(iN xs).length<=1->bj (A.aE Fr w gK) xs vs->iN xs≠[]->
 ∃(sz:Nat) (es:List (List C)) (v:Value),iN xs=[es.length]/\tU xs vs=Rt sz v/\A.aE Fr w gK (.top sz es) v/\(∀b o,yY (.top sz es) v b o->nB xs vs b o)/\∀(t:Nat) wi Cy,xs[t]?=some (.top wi Cy)->wi=sz/\Cy=es/\vs[t]?=some v
 |[],_,_,_,hn=>absurd rfl hn
 |x::xs,[],_,h,_=>h.elim
 |x::xs,v::vs,hl,h,hn=>by
  have rX:iN (x::xs)=iN xs->tU (x::xs) (v::vs)=tU xs vs->(∀sz es,x≠ .top sz es)->∃(sz:Nat) (es:List (List C)) (u:Value),iN (x::xs)=[es.length]/\tU (x::xs) (v::vs)=Rt sz u/\A.aE Fr w gK (.top sz es) u/\(∀b o,yY (.top sz es) u b o->nB (x::xs) (v::vs) b o)/\∀(t:Nat) wi Cy,(x::xs)[t]?=some (.top wi Cy)->wi=sz/\Cy=es/\(v::vs)[t]?=some u:=fun e1 e2 jV=>by
   rw[e1] at hl hn
   obtain⟨sz,es,u,g1,g2,g3,g4,g5⟩:=IF hl h.2 hn
   refine⟨sz,es,u,by rw[e1,g1],by rw[e2,g2],g3,fun b o ho=> .inr (g4 b o ho),fun t wi Cy ht=> ?_⟩
   cases t with
   |zero=>simp at ht;exact absurd ht (jV _ _)
   |succ t=>exact g5 t wi Cy (by simpa using ht)
  cases x with
  |top sz es=>
   simp only[iN,cV] at hl
   have YE:iN xs=[]:=rN (by omega)
   refine⟨sz,es,v,by simp only[iN,YE],rfl,h.1,fun b o ho=> .inl ho,fun t wi Cy ht=> ?_⟩
   cases t with
   |zero=>simp at ht;exact⟨ht.1.symm,ht.2.symm,rfl⟩
   |succ t=>
    have Ds:=tV YE
    simp only[kA,lG] at Ds
    have:=Ds (.top wi Cy) (jD (by simpa using ht))
    simp at this
  |c _=>exact rX rfl rfl (fun _ _=>by simp)
  |agg _=>exact rX rfl rfl (fun _ _=>by simp)
  |imp _=>exact rX rfl rfl (fun _ _=>by simp)
  |nil=>exact rX rfl rfl (fun _ _=>by simp)
variable{ip:List (List C)}
theorem Ru{xs:List A}{gK:List (Nat×Nat)}(FW:∀b o,Fr b o->b<w.heap.size)(hg:iy E.gl Fr w)(hl:bj (rY Fr w) ip gK)(ha:AK ip gK)(hx:bj (A.aE Fr w gK) xs vs)(jV:ip.all (fun cs=>!cs.isEmpty)=true)(Ri:(iN xs).length<=1):
 nY E ⟨Fr,fun b o=>DE ip gK b o\/nB xs vs b o,w,xs.length+(fn.ntmps-xs.length),gK,fun b=>∀p∈gK,p.1≠b,fun _ _ _ _=>False,0,0⟩ (start fn xs ip) {tmps:=vs.toArray++Array.replicate (fn.ntmps-vs.toArray.size) undef,defers:=[]} w:=by
 have dK:=hx.length
 have hll:=hl.length
 have uW:∀(k:Nat) p,gK[k]?=some p->∃cs,ip[k]?=some cs/\rY Fr w cs p/\cs≠[]:=fun k p hk=>by
  have fO:k<ip.length:=by rw[hll];exact(List.getElem?_eq_some_iff.1 hk).1
  obtain⟨q,hq,hr⟩:=hl.get k ip[k] (cm fO)
  rw[hk] at hq;cases hq
  refine⟨_,cm fO,hr,fun he=> ?_⟩
  have:=lG.1 jV _ (Dn fO)
  rw[he] at this
  simp at this
 refine⟨⟨by simp[start],dh _,dh _,by simp only[start,jq];rw[hll];exact aL _⟩,{fr:=Fr,ky:=fun k=>gK[k]?,tk:=fun _=>tU xs vs},?_,hg⟩
 have Cd:∀(id:Nat) (ys:List V),(start fn xs ip).mem.var id=some ys->∃cs,ip[id]?=some cs/\ys=cs.map .c:=fun id ys hv=>by
  simp only[St.mem,start,nm,aV] at hv
  obtain⟨cs,h1,h2⟩:=hv
  exact⟨cs,h1,h2.symm⟩
 have NM:∀(i n:Nat),(start fn xs ip).mem.tok i=some n->i=0/\∃sz es v,n=es.length/\tU xs vs=Rt sz v/\A.aE Fr w gK (.top sz es) v/\∀b o,yY (.top sz es) v b o->nB xs vs b o:=fun i n hi=>by
  simp only[St.mem,start] at hi
  have jV:iN xs≠[]:=fun he=>by rw[he] at hi;simp at hi
  obtain⟨sz,es,v,g1,g2,g3,g4,_⟩:=IF Ri hx jV
  rw[g1] at hi
  cases i with
  |zero=>simp at hi;exact⟨rfl,sz,es,v,hi.symm,g2,g3,g4⟩
  |succ i=>simp at hi
 exact {
  defers:=rfl
  size:=by simp[dK]
  cF:= .refl _ _
  sk:=fun _ _ h=>h
  xb:=fun _ _ h=> .inl h
  j9:=FW
  fR:=fun id b o h=>by
   obtain⟨cs,h1,⟨_,h3,_⟩,h4⟩:=uW id _ h
   have F6:0<cs.length:=by cases cs with|nil=>exact absurd rfl h4|cons _ _=>simp
   obtain⟨u,hu⟩:=Option.isSome_iff_exists.1 (h3 0 F6).1
   exact World.block_lt_of_cell? w _ hu
  tmps:=fun t=>by
   simp only[St.mem,start]
   by_cases ht:t<xs.length
   ·have hv:t<vs.length:=by omega
    obtain⟨v,hv1,Ed⟩:=hx.get t xs[t] (cm ht)
    have e1:(xs.map A.toT++List.replicate (fn.ntmps-xs.length) T.skip).getD t .skip=xs[t].toT:=by
     rw[eX,mq (by simpa using ht)]
     simp[cm ht]
    have e2:(vs.toArray++Array.replicate (fn.ntmps-vs.toArray.size) undef).getD t undef=v:=by
     rw[Py,Gu (by simpa using hv)]
     simp[hv1]
    rw[e1,e2]
    cases hxt:xs[t] with
    |c x=>rw[hxt] at Ed;exact Ed
    |agg ys=>
     rw[hxt] at Ed
     obtain⟨us,h1,h2⟩:=Ed
     exact⟨us,h1,V.g_ h2⟩
    |imp k=>
     rw[hxt] at Ed
     obtain⟨b,o,h1,h2⟩:=Ed
     exact⟨b,o,h1,by rw[h2];rfl⟩
    |nil=>
     rw[hxt] at Ed
     obtain⟨a,rfl⟩:=Ed
     simp only[A.toT,T.aE,K.aE,V.aE,C.aE,qp]
     exact⟨⟨a,0,0,rfl,rfl,aL _, .inl ⟨rfl,rfl⟩⟩,a,0,rfl⟩
    |top sz es=>
     rw[hxt] at Ed
     have agv:xs[t]?=some (.top sz es):=by rw[cm ht,hxt]
     have jV:iN xs≠[]:=fun he=>by
      have Ds:=tV he
      simp only[kA,lG] at Ds
      have:=Ds (.top sz es) (jD agv)
      simp at this
     obtain⟨wi,Cy,v',g1,g2,g3,g4,g5⟩:=IF Ri hx jV
     obtain⟨rfl,rfl,Kq⟩:=g5 t _ _ agv
     rw[hv1] at Kq;cases Kq
     obtain⟨h1,cF,cap,rfl,_⟩:=Ed
     simp only[A.toT,T.aE,K.aE,V.aE,qp]
     exact⟨h1,es.length,by rw[g1];rfl,aL _,fun _=>⟨by rw[g2];rfl,by rw[g2];rfl⟩⟩
   ·have e1:(xs.map A.toT++List.replicate (fn.ntmps-xs.length) T.skip).getD t .skip= .skip:=by
     rw[eX,tw (by simpa using ht)]
     rw[List.getElem?_replicate]
     split<;>rfl
    have e2:(vs.toArray++Array.replicate (fn.ntmps-vs.toArray.size) undef).getD t undef=undef:=by
     rw[Py,Array.getElem?_append_right (by simp;omega)]
     rw[Array.getElem?_replicate]
     split<;>rfl
    rw[e1,e2]
    rfl
  vars:=fun id ys hv=>by
   obtain⟨cs,h1,rfl⟩:=Cd id ys hv
   obtain⟨p,hp,⟨us,h2,h3⟩,h4,h5⟩:=hl.get id cs h1
   refine⟨p.1,p.2,hp,⟨us,V.g_ h2,h3⟩,by simpa using h4,fun j hj=> ?_⟩
   have hj':j<cs.length:=by simpa using hj
   exact⟨h5 j hj', .inl (.inl ⟨id,cs,p,h1,hp,rfl,by simp,by simp;omega⟩)⟩
  gM:=fun id hv=>by
   simp only[St.mem,start,nm,H_,M6] at hv ⊢
   omega
  gh:=fun _ _ _ _ hp=>hp.elim
  d4:=fun k p h=>h
  h_:=fun id Yd ys zs b o b' o' jV h1 h2 h3 h4=>by
   obtain⟨cs,k1,rfl⟩:=Cd id ys h1
   obtain⟨ds,k2,rfl⟩:=Cd Yd zs h2
   simpa using ha id Yd cs ds _ _ jV k1 k2 h3 h4
  dE:=fun i n hi=>by
   obtain⟨_,sz,es,v,rfl,g2,⟨h1,cF,cap,rfl,h3,h4⟩,g4⟩:=NM i n hi
   simp only[Dp,g2,Rt]
   refine⟨h3,?_⟩
   by_cases hc:cap=es.length
   ·exact .inl hc
   ·obtain⟨b,hb,Is,jZ,rS⟩:=h4.resolve_left hc
    exact .inr ⟨b,hb, .inr ⟨Is,fun o ho=> .inr (g4 b o (by rw[hb];exact⟨hc,rfl,ho⟩))⟩,jZ,rS⟩
  eP:=fun i j n k pj hi hj=>by
   exact absurd ((NM i n hi).1.trans (NM j k hj).1.symm) pj
  jY:=fun i n id ys b o hi hv hl hc=>by
   obtain⟨_,sz,es,v,rfl,g2,⟨h1,cF,cap,rfl,h3,h4⟩,g4⟩:=NM i n hi
   simp only[g2,Rt] at hc ⊢
   obtain⟨b',hb,Is,_⟩:=h4.resolve_left hc
   rw[hb]
   simp only[dw,ne_eq,av]
   rintro rfl
   exact Is (b',o) (jD hl) rfl}
def V.kb(nl:Nat):V->List Nat
 | .sC id _ _ _=>if nl<=id then[id] else[]
 |_=>[]
def K.kb(nl:Nat):K->List Nat
 | .v x=>x.kb nl
 | .agg xs=>xs.flatMap (V.kb nl)
variable{nl:Nat}
theorem V.kX(h:ix F γ s.mem a w)(jr:Ex γ γ' s.mem.tok s.mem.tok w w)(rS:∀b o,γ.fr b o->γ'.fr b o)(hx:x.aE γ s.mem.tok w v)(yC:∀id∈x.kb nl,∀ys b o,s.mem.var id=some ys->γ.ky id=some (b,o)->∀j,j<ys.length->γ'.fr b (o+j)):(x.still s nl).aE γ' s.mem.tok w v:=by
 cases x with
 |sC id off sz n=>
  simp only[V.still]
  split
  ·rename_i rZ
   split
   ·rename_i es xJ
    simp only[ig] at xJ
    obtain⟨cs,mv,hch⟩:=xJ
    simp only[V.aE] at hx
    obtain⟨b,o,cap,hl,rfl,oS⟩:=hx
    have xN:=tO h mv rS (yC id (by simp[V.kb,rZ])) hl
    obtain⟨hr,dK⟩:=rA hch xN
    simp only[V.aE,C.aE]
    exact⟨_,n,cap,rfl,dK.symm,oS, .inr ⟨b,o+off,rfl,hr⟩⟩
   ·exact V.aE.mono jr _ _ hx
  ·exact V.aE.mono jr _ _ hx
 |_=>exact V.aE.mono jr _ _ hx
theorem Vs.kX(h:ix F γ s.mem a w)(jr:Ex γ γ' s.mem.tok s.mem.tok w w)(rS:∀b o,γ.fr b o->γ'.fr b o):∀{xs:List V} {vs:List Value},bj (V.aE γ s.mem.tok w) xs vs->
 (∀id∈xs.flatMap (V.kb nl),∀ys b o,s.mem.var id=some ys->γ.ky id=some (b,o)->∀j,j<ys.length->γ'.fr b (o+j))->bj (V.aE γ' s.mem.tok w) (xs.map (V.still s nl)) vs
 |[],[],_,_=>trivial
 |x::xs,v::vs,hx,yC=>⟨V.kX h jr rS hx.1 (fun id gm=>yC id (by simp only[pg,df];exact .inl gm)),Vs.kX h jr rS hx.2 (fun id gm=>yC id (by simp only[pg,df];exact .inr gm))⟩
 |[],_::_,h,_=>h.elim
 |_::_,[],h,_=>h.elim
theorem Ks.kX(h:ix F γ s.mem a w)(jr:Ex γ γ' s.mem.tok s.mem.tok w w)(rS:∀b o,γ.fr b o->γ'.fr b o):∀{ks:List K} {us:List Value},bj (K.aE γ s.mem.tok w) ks us->
 (∀id∈ks.flatMap (K.kb nl),∀ys b o,s.mem.var id=some ys->γ.ky id=some (b,o)->∀j,j<ys.length->γ'.fr b (o+j))->bj (K.aE γ' s.mem.tok w) (ks.map (K.still s nl)) us
 |[],[],_,_=>trivial
 |k::ks,u::us,hx,yC=>by
  refine⟨?_,Ks.kX h jr rS hx.2 (fun id gm=>yC id (by simp only[pg,df];exact .inr gm))⟩
  have agw:∀id∈k.kb nl,∀ys b o,s.mem.var id=some ys->γ.ky id=some (b,o)->∀j,j<ys.length->γ'.fr b (o+j):=fun id gm=>yC id (by simp only[pg,df];exact .inl gm)
  have Ce:=hx.1
  cases k with
  |v x=>exact V.kX h jr rS Ce agw
  |agg xs=>
   obtain⟨vs,hv,Rf⟩:=Ce
   exact⟨vs,hv,Vs.kX h jr rS Rf agw⟩
 |[],_::_,h,_=>h.elim
 |_::_,[],h,_=>h.elim
theorem V.mE(h:ix F γ s.mem a w)(hx:x.aE γ s.mem.tok w v):∀id∈x.kb nl,(s.mem.var id).isSome=true/\nl<=id:=by
 intro id gm
 cases x with
 |sC Yd off sz n=>
  simp only[V.kb] at gm
  split at gm
  ·rename_i rZ
   simp only[nr] at gm
   subst gm
   simp only[V.aE] at hx
   obtain⟨b,o,cap,hl,_⟩:=hx
   refine⟨?_,rZ⟩
   cases hq:s.mem.var id with
   |none=>rw[h.gM id hq] at hl;cases hl
   |some _=>rfl
  ·simp at gm
 |_=>simp[V.kb] at gm
theorem Ks.mE(h:ix F γ s.mem a w):∀{ks:List K} {us:List Value},bj (K.aE γ s.mem.tok w) ks us->∀id∈ks.flatMap (K.kb nl),(s.mem.var id).isSome=true/\nl<=id
 |[],[],_,id,gm=>by simp at gm
 |k::ks,u::us,hx,id,gm=>by
  simp only[pg,df] at gm
  rcases gm with gm|gm
  ·have Ce:=hx.1
   cases k with
   |v x=>exact V.mE h Ce id gm
   |agg xs=>
    obtain⟨vs,_,Rf⟩:=Ce
    obtain⟨x,hxm,gm⟩:=List.mem_flatMap.1 gm
    obtain⟨i,hi,rfl⟩:=Do hxm
    obtain⟨v,_,hv⟩:=Rf.get i _ (cm hi)
    exact V.mE h hv id gm
  ·exact Ks.mE h hx.2 id gm
 |[],_::_,h,_,_=>h.elim
 |_::_,[],h,_,_=>h.elim
theorem Uu(hE:pG E){H:Nat->bY}{f:FuncId}(hf:E.P.funcs[f]?=some fn){xs:List A}{rs:List au}{cy:List (List C)}(h:AJ E H n fn xs ip=some (rs,cy)):Bp E.P E.gl f xs ip rs cy:=by
 intro Fr w gK vs FW hg hl ha hx
 unfold AJ at h
 split at h
 ·cases h
 ·rename_i c hc
  split at h
  ·rename_i e s mX
   split at h
   ·rename_i he
    obtain⟨he,jV,Ri⟩:=he
    split at h
    ·rename_i rs0 r0 oh akF
     split at h
     ·rename_i aa7
      cases h
      have Ee:=Ru (E:=E) (fn:=fn) FW hg hl ha hx jV Ri
      refine calls_of_wp hf hc (i9 hE c _ e s _ _ w mX Ee (fun a' w' hr=> ?_))
      ·suffices hs:a'.defers=[]/\∃v,(results fn a'.tmps).run E.P w'= .ok v w'/\(fun(e:Ending) (w':World)=>∃(us:List Value) (oI:Nat->Nat->Prop),e= .returned (u_ us)/\bX (fun b o=>DE ip gK b o\/nB xs vs b o) w w'/\(∀b o,Fr b o->oI b o)/\
        (∀b o,oI b o->Fr b o\/((w.heap.size<=b\/nB xs vs b o)/\b<w'.heap.size))/\bj (au.aE oI (fun b lo=>w.heap.size<=b\/∀o,lo<=o->nB xs vs b o) w') rs us/\lX rs us/\bj (rY oI w') cy gK/\cy.map List.length=ip.map List.length) (.returned v) w' by
        rcases he with rfl|rfl<;>exact hs
       obtain⟨_,γ,iP,hgl⟩:=hr
       unfold yX at oh
       split at oh
       ·rename_i ks NH
        split at oh
        ·rename_i agl
         obtain⟨us,agx,ka⟩:=tT iP NH
         have agy:=Ks.mE (nl:=ip.length) iP agx
         obtain⟨γ',_,_,e3,e4,jK,TF⟩:=iP.It (ks.flatMap (K.kb ip.length)) (fun id gm=>(agy id gm).1)
         have TG:=Ks.kX iP TF e3 agx e4
         have Cb:=xp jK (s:=s) (fun i hi=>by
          simp only
          rw[aR (fun hm=>by have:=(agy i hm).2;omega)]
          rfl) akF hl.length.symm (fun j p hp=>by simpa using hp)
         refine⟨iP.defers,u_ us,BH ka,us,γ'.fr,rfl,jK.cF,jK.sk,fun b o hb=> ?_,(BI (s:=s) jK rfl oh TG).mono (fun r u hu=>hu.mono fun b lo F8=> ?_),Ec (s:=s) jK rfl oh TG agl,Cb,aa7⟩
         ·rcases jK.xb b o hb with h1|(h1|h1)|h1
          ·exact .inl h1
          rotate_left
          ·exact .inr ⟨.inr h1,jK.j9 b o hb⟩
          ·exact .inr ⟨.inl h1,jK.j9 b o hb⟩
          exfalso
          obtain⟨k,cs,p,MS,MT,rfl,hk4,hk5⟩:=h1
          have hkl:(cy.map List.length)[k]?=some cs.length:=by rw[aa7,nm,MS];rfl
          rw[nm,aV] at hkl
          obtain⟨ds,hd1,KV⟩:=hkl
          obtain⟨p',hp1,hp2⟩:=Cb.get k ds hd1
          rw[MT] at hp1
          cases hp1
          have:=hp2.2.2 (o-p.2) (by omega)
          rw[show p.2+(o-p.2)=o by omega] at this
          exact this hb
         ·rcases F8 with F8|⟨akG,akH⟩
          ·exact .inl F8
          ·refine .inr fun o ho=>(akH o ho).resolve_left fun rT=> ?_
           obtain⟨k,cs,p,_,MT,hk3,_⟩:=rT
           exact akG p (jD MT) hk3
        ·cases oh
       ·cases oh
     ·cases h
    ·cases h
   ·cases h
  ·cases h
theorem IG(hE:pG E){H:Nat->bY}{f:FuncId}(hf:E.P.funcs[f]?=some fn){ks:List K}{vs:List (List V)}{ts:List Nat}{rs:List K}{jQ:List (List V)}{nX:List Nat}(h:tK E H n fn ks vs ts=some (rs,jQ,nX)):DF E.P E.gl f ks vs ts rs jQ nX:=by
 intro F γ tmp a w us iP hg h1 h2 h3 hk
 unfold tK at h
 split at h
 ·cases h
 ·rename_i c hc
  split at h
  ·rename_i e s mX
   split at h
   ·rename_i he
    split at h
    ·rename_i rs0 oh
     cases h
     have dK:=hk.length
     let F':Fm:={F with n:=ks.length+(fn.ntmps-ks.length),gh:=fun x v i j=>(i=vs.length/\j=ts.length/\∃t,x=tmp t/\v=a.tmps.getD t undef)\/F.gh x v i j,gn:=vs.length,gk:=ts.length}
     have Cb:∀i p,γ.ky i=some p->i<vs.length:=fun i p hp=>by
      rcases gq i vs.length with hi|hi
      ·exact hi
      ·have:=iP.gM i (jR hi)
       rw[hp] at this;cases this
     have hto:∀i l,ts[i]?=some l->i<ts.length:=fun i l hi=>(List.getElem?_eq_some_iff.1 hi).1
     have hup:Ex γ (γ.lx vs.length) (fun i=>ts[i]?) (lx (fun i=>ts[i]?) ts.length) w w:={
      ev:= .refl _ _
      ky:=fun i p hp=>by simp only[Gh.lx];rw[aP (Cb i p hp)];exact hp
      tok:=fun i l hl=>by simp only[Dm.lx];rw[aP (hto i l hl)];exact .inl ⟨hl,rfl⟩}
     have Ee:nY E F' (DD fn ks vs ts) {tmps:=us.toArray++Array.replicate (fn.ntmps-us.toArray.size) undef,defers:=[]} w:=by
      refine⟨⟨by simp[DD,F'],aL _,aL _,h3⟩,γ,?_,hg⟩
      exact {
       defers:=rfl
       size:=by simp[dK,F']
       cF:=iP.cF
       sk:=iP.sk
       xb:=iP.xb
       j9:=iP.j9
       fR:=iP.fR
       tmps:=fun t=>by
        simp only[St.mem,DD]
        by_cases ht:t<ks.length
        ·obtain⟨v,hv1,Ed⟩:=hk.get t ks[t] (cm ht)
         have hv:t<us.length:=by omega
         have e1:(ks.map T.k++List.replicate (fn.ntmps-ks.length) T.skip).getD t .skip= .k ks[t]:=by
          rw[eX,mq (by simpa using ht)]
          simp[cm ht]
         have e2:(us.toArray++Array.replicate (fn.ntmps-us.toArray.size) undef).getD t undef=v:=by
          rw[Py,Gu (by simpa using hv)]
          simp[hv1]
         rw[e1,e2]
         exact Ed
        ·have e1:(ks.map T.k++List.replicate (fn.ntmps-ks.length) T.skip).getD t .skip= .skip:=by
          rw[eX,tw (by simpa using ht)]
          rw[List.getElem?_replicate]
          split<;>rfl
         have e2:(us.toArray++Array.replicate (fn.ntmps-us.toArray.size) undef).getD t undef=undef:=by
          rw[Py,Array.getElem?_append_right (by simp;omega)]
          rw[Array.getElem?_replicate]
          split<;>rfl
         rw[e1,e2]
         rfl
       gh:=fun x v i j hp=>by
        rcases hp with⟨rfl,rfl,t,rfl,rfl⟩|hp
        ·exact⟨⟨aL _,aL _⟩,T.aE.mono hup _ _ (iP.tmps t)⟩
        ·obtain⟨⟨g1,g2⟩,g3⟩:=iP.gh x v i j hp
         exact⟨⟨aZ g1 h1,aZ g2 h2⟩,g3⟩
       vars:=iP.vars
       gM:=iP.gM
       d4:=iP.d4
       h_:=iP.h_
       dE:=iP.dE
       eP:=iP.eP
       jY:=iP.jY}
     refine calls_of_wp hf hc (i9 hE c _ e s _ _ w mX Ee (fun a' w' hr=> ?_))
     suffices hs:a'.defers=[]/\∃v,(results fn a'.tmps).run E.P w'= .ok v w'/\(fun(e:Ending) (w':World)=>∃(xs:List Value) (γ':Gh),e= .returned (u_ xs)/\ix F γ' ⟨tmp,fun i=>s.vars[i]?,fun i=>s.dE[i]?⟩ a w'/\iy E.gl γ'.fr w'/\bj (K.aE γ' (fun i=>s.dE[i]?) w') rs xs) (.returned v) w' by
      rcases he with rfl|rfl<;>exact hs
     obtain⟨_,γ',jK,hgl⟩:=hr
     obtain⟨xs,DW,ka⟩:=tT jK oh
     refine⟨jK.defers,u_ xs,BH ka,xs,γ',rfl,?_,hgl,DW⟩
     exact {
      defers:=iP.defers
      size:=iP.size
      cF:=jK.cF
      sk:=jK.sk
      xb:=jK.xb
      j9:=jK.j9
      fR:=jK.fR
      tmps:=fun t=>T.aE.mono (Ex.all _ _ _ _ _) _ _ (jK.gh (tmp t) (a.tmps.getD t undef) vs.length ts.length (.inl ⟨rfl,rfl,t,rfl,rfl⟩)).2
      gh:=fun x v i j hp=>⟨(iP.gh x v i j hp).1,(jK.gh x v i j (.inr hp)).2⟩
      vars:=jK.vars
      gM:=jK.gM
      d4:=jK.d4
      h_:=jK.h_
      dE:=jK.dE
      eP:=jK.eP
      jY:=jK.jY}
    ·cases h
   ·cases h
  ·cases h
open Go.RowKit
def jh:List Prop->Prop
 |[]=>True
 |p::ps=>p/\jh ps
variable{ps:List Prop}
theorem iV{qs:List Prop}:jh (ps++qs)↔jh ps/\jh qs:=by
 induction ps with
 |nil=>simp[jh]
 |cons p ps ih=>simp[jh,ih,and_assoc]
def PU(x:Option Bool)(gs:List G):Option (Bool×List G×List Prop):=
 match x,gs with
 |some b, .b v::gs=>some (v,gs,[b=v])
 |_,_=>none
theorem BJ{x:Option Bool}{gs oW:List G}{v:Bool}(h:PU x gs=some (v,oW,ps))(hp:jh ps):x=some v:=by
 unfold PU at h
 split at h
 ·cases h;rw[hp.1]
 ·cases h
def IH(ops:Array Oper)(m:Mem)(o:Oper)(gs:List G):Option (Bool×List G×List Prop):=
 match o.guard with
 |none=>some (true,gs,[])
 |some (j,m_)=>
  match(ops[j]?).bind (·.dst) with
  |none=>some (false,gs,[])
  |some t=>match m.tmp t with
   | .skip=>some (false,gs,[])
   |x=>match PU x.yQ gs with
    |some (b,gs,ps)=>some (b==m_,gs,ps)
    |none=>none
theorem Gb{gs oW:List G}(h:IH ops m o gs=some (q,oW,ps))(hp:jh ps):oL ops m o=some q:=by
 unfold IH at h
 unfold oL
 split at h
 ·rename_i hg;cases h;simp only[hg]
 ·rename_i j m_ hg
  simp only[hg]
  split at h
  ·rename_i ht;cases h;simp only[ht]
  ·rename_i t ht
   simp only[ht]
   split at h
   ·rename_i hx;cases h;simp only[hx]
   ·rename_i x hx jV
    simp only
    split at h
    ·rename_i b Uv X2 hb
     cases h
     have:=BJ hb hp
     cases Ym:m.tmp t with
     |skip=>exact absurd Ym (fun hs=>jV hs)
     |_=>rw[Ym] at this;simp only[this]
    ·cases h
def PW(m:Mem)(nt:Nat)(ls:List (Nat×Nat×List C))(rs:List Nat)(rp:List au)(ip:List (List C)):Option uN:=
 match ls,ip with
 |[],[]=>if rs.isEmpty||rp.all au.Rd then some {dst:=Ca (kP nt rp).1,ut:=(kP nt rp).2,rv:=rs} else some {dst:=Ca (kP nt rp).1,uv:=rs.map fun id=>(id,[]),ut:=(kP nt rp).2,rv:=rs}
 |[(id,off,cs)],[ds]=>
  match m.var id with
  |some ys=>if rs.isEmpty/\ds.length=cs.length then some {dst:=Ca (kP nt rp).1,uv:=[(id,ys.take off++ds.map .c++ys.drop (off+ds.length))],ut:=(kP nt rp).2,rv:=[id]} else none
  |none=>none
 |_,_=>none
def II(E:lW)(m:Mem)(nt:Nat)(g:FuncId)(extra:List C)(tm:List TypeId)(args:List T)(rp:List au)(ip:List (List C)):Option (uN×List Prop):=
 match gu E.P m tm args 0 with
 |some (as,ls,rs)=>
  match PW m nt ls rs rp ip with
  |some e=>some (e,[E.F g (as++extra.map .c) (ls.map (·.2.2))=some (rp,ip)])
  |none=>none
 |none=>none
theorem Gc{extra:List C}{args:List T}{rp:List au}(h:II E m nt g extra tm args rp ip=some (e,ps))(hp:jh ps):
 pm E m nt g extra tm args=some e:=by
 unfold II at h
 split at h
 ·rename_i as ls rs ha
  split at h
  ·rename_i e' he
   cases h
   have hF:=hp.1
   simp only[pm,ha,hF]
   rw[<-he]
   unfold PW
   rfl
  ·cases h
 ·cases h
def Rw:List A->List T->Option (List A×Nat×Nat)
 |a::as,x::xs=>
  match x with
  | .k (.v (.cX sz es (.tok j)))=>some (.top sz es::as,j,es.length)
  |_=>(Rw as xs).map fun r=>(a::r.1,r.2)
 |_,_=>none
theorem Ef{m:Mem}:∀{as:List A} {xs:List T} {uH:List A} {j l:Nat},Rw as xs=some (uH,j,l)->m.tok j=some l->AH m as xs=some (uH,j,l)
 |a0::as,x::xs,uH,j,l,h,hj=>by
  simp only[Rw] at h
  unfold AH
  split at h
  ·cases h
   simp only
   rw[aP hj]
  ·rename_i jV
   simp only[aV] at h
   obtain⟨⟨as1,j1,n1⟩,hr,he⟩:=h
   simp only[aY] at he
   obtain⟨rfl,rfl,rfl⟩:=he
   split
   ·exact absurd rfl (jV _ _ _)
   ·rw[Ef hr hj]
    rfl
 |[],_,_,_,_,h,_=>by simp[Rw] at h
 |_::_,[],_,_,_,h,_=>by simp[Rw] at h
def KW(E:lW)(m:Mem)(nt:Nat)(g:FuncId)(extra:List C)(tm:List TypeId)(args:List T)(rp:List au)(ip:List (List C)):Option (uN×List Prop):=
 match gu E.P m tm args 0,ip with
 |some (as,[],[]),[]=>
  match Rw as args with
  |some (uH,j,l)=>
   match m.tok j with
   |some n=>if j<nt then some (u6 nt j l rp,[n=l,E.F g (uH++extra.map .c) []=some (rp,[])]) else none
   |none=>none
  |none=>none
 |_,_=>none
def IJ(E:lW)(m:Mem)(nt:Nat)(g:FuncId)(extra:List C)(tm:List TypeId)(args:List T)(rp:List au)(ip:List (List C)):Option (uN×List Prop):=
 if(E.tp g&&args.any T.aaT)=true then KW E m nt g extra tm args rp ip else II E m nt g extra tm args rp ip
theorem zn{extra:List C}{args:List T}{rp:List au}(h:IJ E m nt g extra tm args rp ip=some (e,ps))(hp:jh ps):
 sD E m nt g extra tm args=some e:=by
 unfold IJ at h
 unfold sD
 split at h
 ·rename_i hc
  rw[aP hc]
  unfold KW at h
  split at h
  ·rename_i as dB
   split at h
   ·rename_i uH j l DI
    split at h
    ·rename_i n hn
     split at h
     ·rename_i hjn
      cases h
      have hl:n=l:=hp.1
      subst hl
      have hF:=hp.2.1
      have agz:=Ef DI hn
      simp only[tH,dB,agz,hF,hjn,bu]
     ·cases h
    ·cases h
   ·cases h
  ·cases h
 ·rename_i hc
  rw[aR hc]
  exact Gc h hp
def xT(x:Option T)(d v:Nat):Option Prop:=
 match x with
 |none=>some (v=d)
 |some x=>match x.rW with|some (_,i)=>some (i=(v:Int))|none=>none
theorem pY{x:Option T}{d v top:Nat}{p:Prop}(h:xT x d v=some p)(hp:p)(hv:v<=top):qt x d top=some v:=by
 unfold xT at h
 unfold qt
 split at h
 ·cases h;simp only;rw[hp]
 ·split at h
  ·rename_i hx
   cases h
   simp only[hx]
   rw[hp,aP (by omega)]
   simp
  ·cases h
def NP(E:lW)(m:Mem)(nt:Nat)(o:Oper)(g:G):Option (uN×List Prop):=
 match o.op with
 | .pick c a b=>match(E.ev m c).yQ,g with
   |some q, .b v=>some ({dst:=if v then E.ev m a else E.ev m b},[q=v])
   |_,_=>none
 | .call {callee:= .value f,args,argTypes}=>
   match g with
   | .call rp ip=>
     match(E.ev m f).cell? with
     |some (.PB g [])=>if(uz E o||E.il g)=true then none else IJ E m nt g [] argTypes.toList (nA E.P argTypes.toList (args.toList.map (E.ev m))) rp ip
     |some (.c (.fn g dA))=>if(uz E o||E.il g)=true then none else IJ E m nt g dA argTypes.toList (nA E.P argTypes.toList (args.toList.map (E.ev m))) rp ip
     |_=>none
   |_=>none
 | .indexAddr t x i=>
   match g,E.P.underlying t with
   | .at j,some (.array _ _)=>
     match(E.ev m i).rW with
     |some (k,iv)=>(oe E.P t (E.ev m x) (.pure (.int k (j:Int)))).map fun r=>({dst:=r},[iv=(j:Int)])
     |none=>none
   | .fF j c,some (.slice e)=>
     if(E.P.info? e).isNone then none else
     match(E.ev m x).cell? with
     |some (.sC _ _ _ _)=>none
     |some v=>
      match v.lj,(E.ev m i).rW with
      |some (sz,es),some (_,iv)=>if sz=E.P.cellsOf e then some ({dst:= .k (.v (.c (.fJ c)))},[iv=(j:Int),es[j]?=some c]) else none
      |_,_=>none
     |none=>none
   |_,_=>none
 | .index t x i=>
   match g,E.P.underlying t,E.ev m x,(E.ev m i).rW with
   | .at j,some (.array _ _),x,some (k,iv)=>(Dy E.P t x (.pure (.int k (j:Int)))).map fun r=>({dst:=r},[iv=(j:Int)])
   | .i7 j b,some .string, .k (.v (.c (.raw (.string s)))),some (_,iv)=>some ({dst:= .pure (.int .u8 b.toNat)},[iv=(j:Int),s[j]?=some b])
   |_,_,_,_=>none
 | .lookup t x i ok=>
   match g,DA E.P t (E.ev m x) (E.ev m i) with
   | .look n b,some (q,key,qv,es)=>some ({dst:=Cv qv ok (n,b)},[GE q key qv es=some (n,b)])
   |_,_=>none
 | .slice t x lo hi mx=>
   match g,mx,E.P.underlying t,(E.ev m x).cell? with
   | .cut l h _,none,some .string,some (.c (.raw (.string s)))=>
     match xT (hi.map (E.ev m)) s.size h,xT (lo.map (E.ev m)) 0 l with
     |some p,some q=>some ({dst:= .pure (.string (s.extract l h))},[p,q,l<=h,h<=s.size])
     |_,_=>none
   | .cut l h fs,none,some (.slice e),some v=>
     match v.lj with
     |some (sz,es)=>
      if sz=E.P.cellsOf e/\(E.P.info? e).isSome=true then
       match xT (hi.map (E.ev m)) es.length h,xT (lo.map (E.ev m)) 0 l with
       |some p,some q=>
        some ({dst:=match v,hi with
         | .cX _ _ .exact,none=> .k (.v (.cX (E.P.cellsOf e) fs .exact))
         |_,_=> .k (.v (.c (.slice (E.P.cellsOf e) fs)))},[p,q,l<=h,h<=es.length,(es.take h).drop l=fs])
       |_,_=>none
      else none
     |none=>none
   |_,_,_,_=>none
 | .binOp op _ x y _=>
   match g,(E.ev m x).rV,(E.ev m y).rV with
   | .ok,some (.int k a),some (.int k' b)=>
     match op with
     | .quo=>if k=k' then some ({dst:= .pure (.int k (k.wrap (a.tdiv b)))},[b≠0]) else none
     | .rem=>if k=k' then some ({dst:= .pure (.int k (a.tmod b))},[b≠0]) else none
     | .shl=>some ({dst:= .pure (.int k (k.wrap (a*2 ^ (min b.toNat k.bits))))},[0<=b])
     | .shr=>some ({dst:= .pure (.int k (a.fdiv (2 ^ (min b.toNat k.bits))))},[0<=b])
     |_=>none
   | .ok,some (.string a),some (.string b)=>
     match op with
     | .add=>some ({dst:= .pure (.string (a++b))},[a.size+b.size<=9223372036854775807])
     |_=>none
   |_,_,_=>none
 | .call {callee:= .builtin .len,args,argTypes}=>
   match g,argTypes.toList,args.toList with
   | .len n,t::_,[x]=>
     match E.P.underlying t,E.ev m x with
     |some (.slice _), .k (.v (.c (.slice _ es)))=>some ({dst:= .pure (.int .i64 n)},[es.length=n])
     |some (.slice _), .k (.v (.cX _ es _))=>some ({dst:= .pure (.int .i64 n)},[es.length=n])
     |_,_=>none
   |_,_,_=>none
 | .makeSlice t l c=>
   match g,E.P.underlying t,(E.ev m l).rW,(E.ev m c).rW with
   | .at k,some (.slice e),some (_,x),some (_,y)=>
     match(u4 E.P e).bind (·.mapM V.GB),E.P.info? e with
     |some z,some i=>
      if uz E o=false/\z.length=E.P.cellsOf e/\0<E.P.cellsOf e/\i.bytes<=131072 then
       some ({dst:= .k (.v (.cX (E.P.cellsOf e) (List.replicate k z) .exact))},[x=(k:Int),y=(k:Int),k<=yR])
      else none
     |_,_=>none
   |_,_,_,_=>none
 | .convert iY dst x=>
   match g,GC E.P iY dst (E.ev m x) with
   | .str ns,some es=>some ({dst:= .pure (.string (dc ns))},[tF es=some ns])
   |_,_=>none
 | .call {callee:= .builtin .append,args,argTypes}=>
   match g,argTypes.toList,args.toList.map (E.ev m) with
   | .app gs,[t,tx],[s,x]=>
     match E.P.underlying t,s.cell?,qu E.P tx x with
     |some (.slice e),some (.cX sz es tk),some (wi,fs)=>
      match E.P.info? e with
      |some i=>
       if uz E o=true then none else
       if 0<i.size/\i.bytes<=131072/\i.zero.map (·.cells.size)=some i.size/\(sz=i.size\/es=[])/\(wi=i.size\/fs=[]) then
        match tk with
        | .exact=>some ({dst:= .k (.v (.cX i.size gs (.tok nt))),ut:=[(nt,gs.length)]},[es++fs=gs,gs.length<=yR])
        | .tok j=>match m.tok j with
          |some n=>if sz=i.size then some ({dst:= .k (.v (.cX sz gs (.tok j))),ut:=[(j,gs.length)],rt:=[j]},[es++fs=gs,gs.length<=yR,n=es.length]) else none
          |none=>none
       else none
      |none=>none
     |_,_,_=>none
   |_,_,_=>none
 |_=>none
def Uw(E:lW)(m:Mem)(nv:Nat)(o:Oper)(ys:List V):Option (uN×List Prop):=
 match o.op with
 | .call {callee:= .builtin .append,args,argTypes}=>
   match argTypes.toList,args.toList.map (E.ev m) with
   |[t,tx],[s,x]=>
    match E.P.underlying t,s.cell?,qu E.P tx x with
    |some (.slice e),some (.cX _ [] .exact),some (wi,fs)=>
     match E.P.info? e with
     |some i=>
      if uz E o=true/\0<i.size/\i.bytes<=131072/\i.zero.map (·.cells.size)=some i.size/\wi=i.size then
       some ({dst:= .k (.v (.sC nv 0 i.size fs.length)),nv:=some ys},[fs.flatten.map .c=ys,0<fs.length,fs.length<=yR])
      else none
     |none=>none
    |_,_,_=>none
   |_,_=>none
 | .call {callee:= .value f,args,argTypes}=>
   match(E.ev m f).cell? with
   |some (.PB g [])|some (.c (.fn g []))=>
    match E.cl g,nA E.P argTypes.toList (args.toList.map (E.ev m)) with
    |some sz,[x]=>
     match x.cell? with
     |some v=>
      match v.lj with
      |some (wi,es)=>if uz E o=true/\wi=sz then some ({dst:= .k (.v (.sC nv 0 sz es.length)),nv:=some ys},[es.flatten.map .c=ys,0<es.length,es.length<=yR]) else none
      |none=>none
     |none=>none
    |_,_=>none
   |_=>none
 | .makeSlice t l c=>
   match E.P.underlying t,(E.ev m l).rW,(E.ev m c).rW with
   |some (.slice e),some (_,x),some (_,y)=>
    match(u4 E.P e).bind (·.mapM V.GB),E.P.info? e with
    |some z,some i=>
     if uz E o=true/\z.length=E.P.cellsOf e/\0<E.P.cellsOf e/\i.bytes<=131072 then
      some ({dst:= .k (.v (.sC nv 0 (E.P.cellsOf e) x.toNat)),nv:=some ys},[y=x,0<=x,x<=(yR:Int),(List.replicate x.toNat z).flatten.map .c=ys])
     else none
    |_,_=>none
   |_,_,_=>none
 |_=>none
def acb(E:lW)(m:Mem)(o:Oper)(j:Nat):Option (uN×List Prop):=
 match o.op with
 | .indexAddr t x i=>
   match E.P.underlying t,(E.ev m x).cell?,(E.ev m i).rW with
   |some (.slice e),some (.sC id off sz n),some (_,iv)=>if(E.P.info? e).isSome=true/\sz=E.P.cellsOf e then some ({dst:= .k (.v (.fX id (off+j*sz)))},[iv=(j:Int),j<n]) else none
   |_,_,_=>none
 |_=>none
def acd(E:lW)(m:Mem)(o:Oper)(ys:List V):Option (uN×List Prop):=
 match o.op with
 | .store t a x=>
   match(E.ev m a).cell?,(Kw E.P t (E.ev m x)).k? with
   |some (.fX id off),some k=>
    match m.var id with
    |some xs=>if k.cells.length=E.P.cellsOf t/\(E.P.info? t).isSome=true/\DC E o=true/\(k.cells.flatMap V.fT).isEmpty=true then some ({dst:= .skip,uv:=[(id,ys)],rv:=[id]},[off+k.cells.length<=xs.length,xs.take off++k.cells.map V.T8++xs.drop (off+k.cells.length)=ys]) else none
    |none=>none
   |_,_=>none
 | .load t a=>
   match(E.ev m a).cell?,ys with
   |some (.fX id off),[v]=>
    match m.var id with
    |some xs=>if ny E.P t=some false then some ({dst:= .k (.v v),rv:=[id]},[xs[off]?=some v]) else none
    |none=>none
   |_,_=>none
 |_=>none
def KX(m:Mem):List V->List (List (List C))->Option (List V×List Prop)
 |[],[]=>some ([],[])
 | .sC id off sz n::r,Na=>
   match Na with
   |es::Na=>match KX m r Na with|some (cs,ps)=>some (.c (.slice sz es)::cs,((yS m id off).bind (pk sz n)=some es)::ps)|none=>none
   |[]=>none
 |x::r,Na=>match KX m r Na with|some (cs,ps)=>some (x.T8::cs,ps)|none=>none
 |[],_::_=>none
theorem xU{m:Mem}:∀{ks:List V} {Na:List (List (List C))} {cs:List V} {ps:List Prop},KX m ks Na=some (cs,ps)->jh ps->ks.mapM (V.Ie m)=some cs
 |[],[],cs,ps,h,_=>by simp only[KX,av,aY] at h;obtain⟨rfl,_⟩:=h;rfl
 |[],_::_,_,_,h,_=>by simp[KX] at h
 |x::r,Na,cs,ps,h,hp=>by
  cases x with
  |sC id off sz n=>
   simp only[KX] at h
   split at h
   ·split at h
    ·rename_i cs' ps' hr
     cases h
     rw[fv,xU hr hp.2]
     have h1:=hp.1
     simp only[V.Ie,h1]
     rfl
    ·cases h
   ·cases h
  |_=>
   simp only[KX] at h
   split at h
   ·rename_i cs' ps' hr
    cases h
    rw[fv,xU hr hp]
    rfl
   ·cases h
theorem KY{m:Mem}:∀{ks:List V},(ks.flatMap V.fT).isEmpty=true->ks.mapM (V.Ie m)=some (ks.map V.T8)
 |[],_=>rfl
 |x::r,h=>by
  cases x with
  |sC id off sz n=>simp[V.fT] at h
  |_=>
   have h':(r.flatMap V.fT).isEmpty=true:=by simpa[V.fT] using h
   rw[fv,KY h']
   rfl
def ace(E:lW)(m:Mem)(o:Oper)(Na:List (List (List C))):Option (uN×List Prop):=
 match o.op with
 | .store t a x=>
   match(E.ev m a).cell?,(Kw E.P t (E.ev m x)).k? with
   |some (.fX id off),some k=>
    match m.var id with
    |some xs=>
     if(k.cells.length=E.P.cellsOf t/\off+k.cells.length<=xs.length/\(E.P.info? t).isSome=true)/\DC E o=true/\(k.cells.flatMap V.fT).contains id=false then
      match KX m k.cells Na with
      |some (cs,ps)=>some ({dst:= .skip,uv:=(id,xs.take off++cs++xs.drop (off+cs.length))::(k.cells.flatMap V.fT).map (fun i=>(i,[])),rv:=id::k.cells.flatMap V.fT},ps)
      |none=>none
     else none
    |none=>none
   |_,_=>none
 |_=>none
theorem NQ{Na:List (List (List C))}(h:ace E m o Na=some (e,ps))(hp:jh ps):aA E m nv nt o=some e:=by
 unfold ace at h
 split at h
 ·rename_i t x y ho
  split at h
  ·rename_i id off k hc hk
   split at h
   ·rename_i xs hv
    split at h
    ·rename_i co
     obtain⟨h1,h2,h3⟩:=co
     split at h
     ·rename_i cs ps' hf
      cases h
      simp only[aA,ho,hc,hk,hv]
      rw[aP h1,aP h2]
      unfold mD
      rw[xU hf hp]
      simp only[h3,ft,br]
     ·cases h
    ·cases h
   ·cases h
  ·cases h
 ·cases h
theorem KZ(h:Uw E m nv o ys=some (e,ps))(hp:jh ps):aA E m nv nt o=some e:=by
 unfold Uw at h
 split at h
 ·rename_i args argTypes ho
  split at h
  ·rename_i t tx s x Rj dB
   split at h
   ·rename_i e' sz wi fs hu hc ha
    split at h
    ·rename_i i hi
     split at h
     ·rename_i co
      cases h
      obtain⟨h1,h2,h3,_⟩:=hp
      subst h1
      simp only[aA,ho]
      rw[aP co.1]
      simp only[tG,Rj,dB,hu,hc,ha,hi]
      rw[aP ⟨co.2.1,co.2.2.1,co.2.2.2.1,co.2.2.2.2,h2,h3⟩]
     ·cases h
    ·cases h
   ·cases h
  ·cases h
 ·rename_i f args argTypes ho
  split at h
  ·rename_i g hf
   split at h
   ·rename_i sz x ly hx
    split at h
    ·rename_i v hv
     split at h
     ·rename_i wi es hs
      split at h
      ·rename_i co
       cases h
       obtain⟨h1,h2,h3,_⟩:=hp
       subst h1
       simp only[aA,ho,xg,hf,co.1,bu,ly,pt,hx,hv,hs]
       rw[aP ⟨co.2,h2,h3⟩]
      ·cases h
     ·cases h
    ·cases h
   ·cases h
  ·rename_i g hf
   split at h
   ·rename_i sz x ly hx
    split at h
    ·rename_i v hv
     split at h
     ·rename_i wi es hs
      split at h
      ·rename_i co
       cases h
       obtain⟨h1,h2,h3,_⟩:=hp
       subst h1
       simp only[aA,ho,xg,hf,co.1,bu,ly,pt,hx,hv,hs]
       rw[aP ⟨co.2,h2,h3⟩]
      ·cases h
     ·cases h
    ·cases h
   ·cases h
  ·cases h
 ·rename_i t l c ho
  split at h
  ·rename_i e' q x q' y hu hl hc
   split at h
   ·rename_i z i hz hi
    split at h
    ·rename_i co
     cases h
     obtain⟨h1,h2,h3,h4,_⟩:=hp
     simp only[aA,ho,DB,hu,hl,hc,hz,hi]
     rw[aP ⟨co.2,h1,h2,h3⟩,aP co.1,h4]
    ·cases h
   ·cases h
  ·cases h
 ·cases h
theorem NR(h:acb E m o j=some (e,ps))(hp:jh ps):aA E m nv nt o=some e:=by
 unfold acb at h
 split at h
 ·rename_i t x i ho
  split at h
  ·rename_i e' id off sz n q iv hu hc hi
   split at h
   ·rename_i co
    cases h
    obtain⟨h1,h2,_⟩:=hp
    have YF:rn (E.ev m i) n=some j:=by
     simp only[rn,hi]
     rw[h1,aP (by omega)]
     simp
    have hn:(E.P.info? e').isNone=false:=by
     cases hq:E.P.info? e' with
     |none=>simp[hq] at co
     |some _=>rfl
    simp only[aA,ho,oe,hu,hc,hn,YF,ft,br,aP co.2,dw]
   ·cases h
  ·cases h
 ·cases h
theorem NS(h:acd E m o ys=some (e,ps))(hp:jh ps):aA E m nv nt o=some e:=by
 unfold acd at h
 split at h
 ·rename_i t x y ho
  split at h
  ·rename_i id off k hc hk
   split at h
   ·rename_i xs hv
    split at h
    ·rename_i co
     cases h
     obtain⟨h1,h2,_⟩:=hp
     subst h2
     simp only[aA,ho,hc,hk,hv]
     rw[aP ⟨co.1,h1,co.2.1⟩,aP co.2.2.1]
     have he:k.cells.flatMap V.fT=[]:=by simpa using co.2.2.2
     unfold mD
     rw[KY co.2.2.2,he]
     simp
    ·cases h
   ·cases h
  ·cases h
 ·rename_i t x ho
  split at h
  ·rename_i id off v hc
   split at h
   ·rename_i xs hv
    split at h
    ·rename_i hag
     cases h
     have h1:=hp.1
     simp only[aA,ho,hc,hv,AB,hag,List.head?_drop,h1,dw]
    ·cases h
   ·cases h
  ·cases h
 ·cases h
def Ux(E:lW)(m:Mem)(nv nt:Nat)(o:Oper)(g:G):Option (uN×List Prop):=
 match g with
 | .e x=>some (x,[aA E m nv nt o=some x])
 | .uX ys=>Uw E m nv o ys
 | .TH j=>acb E m o j
 | .Kt ys=>acd E m o ys
 | .Ie Na=>ace E m o Na
 |_=>NP E m nt o g
theorem K0{t:T}{q:IntKind}{n:Int}(h:t.rW=some (q,n)):t.rV=some (.int q n):=by
 unfold T.rW at h
 split at h
 ·cases h;assumption
 ·cases h
theorem K1{op:BinOp}{x y:T}(hx:x.rV=some u)(hy:y.rV=some v)(hu:∀b,u≠ .bool b):T5 P op t x y=(uZ op u v).map .pure:=by
 rw[nC hx,nC hy]
 unfold T5 T.pure
 simp only
 split
 ·rename_i p q;exact absurd rfl (hu p)
 ·rfl
theorem IK{g:G}(h:NP E m nt o g=some (e,ps))(hp:jh ps):aA E m nv nt o=some e:=by
 unfold NP at h
 split at h
 ·rename_i c a b ho
  split at h
  ·rename_i v hq hqe
   cases h
   have:=hp.1
   simp only[aA,ho,hqe]
   rw[this]
  ·cases h
 ·rename_i f args argTypes ho
  split at h
  ·split at h
   ·rename_i g hc
    split at h
    ·cases h
    ·rename_i F5
     simp only[As,not_or,Bool.not_eq_true] at F5
     simp only[aA,ho,xg,hc,F5.1,F5.2,ft,br]
     exact zn h hp
   ·rename_i g dA hc
    split at h
    ·cases h
    ·rename_i F5
     simp only[As,not_or,Bool.not_eq_true] at F5
     simp only[aA,ho,xg,hc,F5.1,F5.2,ft,br]
     exact zn h hp
   ·cases h
  ·cases h
 ·rename_i t x i ho
  split at h
  ·rename_i j n' e' hu
   split at h
   ·rename_i k iv hi
    simp only[aV] at h
    obtain⟨r,hr,h⟩:=h
    cases h
    have h1:=hp.1
    have hii:E.ev m i= .pure (.int k (j:Int)):=by rw[<-h1];exact nC (K0 hi)
    simp only[aA,ho,hii,hr,dw]
   ·cases h
  ·rename_i j c e' hu
   split at h
   ·cases h
   ·rename_i DM
    split at h
    ·cases h
    ·rename_i v jV hv
     split at h
     ·rename_i sz es k iv hs hi
      split at h
      ·rename_i o9
       cases h
       obtain⟨h1,h2,_⟩:=hp
       have hj:j<es.length:=(List.getElem?_eq_some_iff.1 h2).1
       have YF:rn (E.ev m i) es.length=some j:=by
        simp only[rn,hi]
        rw[h1,aP (by omega)]
        simp
       simp only[aA,ho,oe,hu,DM,hv]
       cases v with
       |sC _ _ _ _=>exact absurd rfl (jV _ _ _ _)
       |_=>simp_all[V.lj]
      ·cases h
     ·cases h
    ·cases h
  ·cases h
 ·rename_i t x i ho
  split at h
  ·rename_i j n' e' k iv hu hi
   simp only[aV] at h
   obtain⟨r,hr,h⟩:=h
   cases h
   have h1:=hp.1
   have hii:E.ev m i= .pure (.int k (j:Int)):=by rw[<-h1];exact nC (K0 hi)
   simp only[aA,ho,hii,hr,dw]
  ·rename_i j b s k iv hu hx hi
   cases h
   obtain⟨h1,h2,_⟩:=hp
   have hj:j<s.size:=by
    rcases gq j s.size with h|h
    ·exact h
    ·rw[getElem?_neg s j (by omega)] at h2;cases h2
   have YF:rn (E.ev m i) s.size=some j:=by
    simp only[rn,hi]
    rw[h1,aP (by omega)]
    simp
   simp only[aA,ho,Dy,hu,hx,YF,h2,dw]
  ·cases h
 ·rename_i t x i ok ho
  split at h
  ·rename_i n b q key qv es ha
   cases h
   have h1:=hp.1
   simp only[aA,ho,Cw,ha,h1,dw]
  ·cases h
 ·rename_i t x lo hi mx ho
  split at h
  ·rename_i l h' _ s hu hx
   split at h
   ·rename_i p q hp1 hq1
    cases h
    obtain⟨h1,h2,h3,h4,_⟩:=hp
    have e1:=pY (top:=s.size) hp1 h1 h4
    have e2:=pY (top:=h') hq1 h2 h3
    simp only[aA,ho,Dz,hu,hx,Cs,e1,e2,dw]
   ·cases h
  ·rename_i l h' fs e' v hu hx
   split at h
   ·rename_i sz es hs
    split at h
    ·rename_i o9
     split at h
     ·rename_i p q hp1 hq1
      cases h
      obtain⟨h1,h2,h3,h4,h5,_⟩:=hp
      subst h5
      have e1:=pY (top:=es.length) hp1 h1 h4
      have e2:=pY (top:=h') hq1 h2 h3
      simp only[aA,ho,Dz,hu,hx,hs,Cs,e1,e2]
      rw[aP ⟨.inl o9.1,o9.2⟩]
      cases hi with
      |none=>
       have hh:h'=es.length:=by
        simp only[xT,Cs,av] at hp1
        rw[<-hp1] at h1
        exact h1
       cases v with
       |cX _ _ tk=>cases tk with
        |exact=>
         simp only[V.lj,av,aY] at hs
         obtain⟨rfl,rfl⟩:=hs
         simp only[hh,qX,Cs,dw]
        |tok _=>rfl
       |_=>rfl
      |some _=>cases v with
       |cX _ _ tk=>cases tk<;>rfl
       |_=>rfl
     ·cases h
    ·cases h
   ·cases h
  ·cases h
 ·rename_i op t x y sp ho
  split at h
  ·rename_i k a k' b hx hy
   have hb:=K1 (P:=E.P) (op:=op) (t:=t) hx hy (fun b h=>by cases h)
   have hn:u3 E.P op t (E.ev m x) y=none:=Bt (GI hx (by simp) (by simp))
   simp only[aA,ho,hb,hn,uZ]
   split at h
   ·split at h
    ·rename_i hk;cases h;simp only[hk,bu,AC,aR hp.1,dw]
    ·cases h
   ·split at h
    ·rename_i hk;cases h;simp only[hk,bu,AC,aR hp.1,dw]
    ·cases h
   ·cases h;have:=hp.1;simp only[qr,aR (show ¬b<0 by omega),dw]
   ·cases h;have:=hp.1;simp only[qr,aR (show ¬b<0 by omega),dw]
   ·cases h
  ·rename_i a b hx hy
   have hb:=K1 (P:=E.P) (op:=op) (t:=t) hx hy (fun b h=>by cases h)
   have hn:u3 E.P op t (E.ev m x) y=none:=Bt (GI hx (by simp) (by simp))
   simp only[aA,ho,hb,hn,uZ]
   split at h
   ·cases h;simp only[Dv,aP hp.1,dw]
   ·cases h
  ·cases h
 ·rename_i args argTypes ho
  split at h
  ·rename_i n t ts x Rj DW
   split at h
   ·rename_i sz es hu hx
    cases h
    have h1:=hp.1
    simp only[aA,ho,Rj,DW,T7,hu,hx,V.lj,dw,h1]
   ·rename_i sz es tk hu hx
    cases h
    have h1:=hp.1
    simp only[aA,ho,Rj,DW,T7,hu,hx,V.lj,dw,h1]
   ·cases h
  ·cases h
 ·rename_i t l c ho
  split at h
  ·rename_i k e' q x q' y hu hl hc
   split at h
   ·rename_i z i hz hi
    split at h
    ·rename_i co
     cases h
     obtain⟨h1,h2,h3,_⟩:=hp
     have h3':(k:Int)<=(yR:Int):=by exact_mod_cast h3
     simp only[aA,ho,DB,hu,hl,hc,hz,hi]
     rw[h1,h2,aP ⟨co.2,rfl,by omega,h3'⟩,co.1]
     simp
    ·cases h
   ·cases h
  ·cases h
 ·rename_i iY dst x ho
  split at h
  ·rename_i ns es xJ
   cases h
   have h1:=hp.1
   simp only[aA,ho,GD,(DH (m:=m) xJ).1,(DH (m:=m) xJ).2,xJ,h1,dw]
  ·cases h
 ·rename_i args argTypes ho
  split at h
  ·rename_i gs t tx s x Rj DW
   split at h
   ·rename_i e' sz es tk wi fs hu hc ha
    split at h
    ·rename_i i hi
     split at h
     ·cases h
     rename_i AQ
     split at h
     ·rename_i co
      simp only[aA,ho]
      rw[aR AQ]
      simp only[pR,Rj,DW,hu,hc,ha,hi]
      split at h
      ·cases h
       obtain⟨h1,h2,_⟩:=hp
       subst h1
       rw[aP ⟨co.1,co.2.1,co.2.2.1,co.2.2.2.1,co.2.2.2.2,by rw[<-iq];exact h2⟩]
      ·rename_i j
       split at h
       ·rename_i n hn
        split at h
        ·rename_i o9
         cases h
         obtain⟨h1,h2,h3,_⟩:=hp
         subst h1
         rw[aP ⟨co.1,co.2.1,co.2.2.1,co.2.2.2.1,co.2.2.2.2,by rw[<-iq];exact h2⟩]
         simp only
         rw[aP ⟨o9,by rw[hn,h3]⟩]
        ·cases h
       ·cases h
     ·cases h
    ·cases h
   ·cases h
  ·cases h
 ·cases h
theorem K2{g:G}(h:Ux E m nv nt o g=some (e,ps))(hp:jh ps):aA E m nv nt o=some e:=by
 unfold Ux at h
 split at h
 ·cases h;exact hp.1
 ·exact KZ h hp
 ·exact NR h hp
 ·exact NS h hp
 ·exact NQ h hp
 ·exact IK h hp
end Go.Dm
