/-
  A part of the proofs over this seat: what its functions make of data, in plain terms (the file in which the theorems stand says what is proved).
-/
import Derived.KernelRfl
import Derived.Test.YtnilacbgecakcaaGreatFvC2
set_option maxRecDepth 100000
set_option maxHeartbeats 0
set_option linter.unusedSimpArgs false
set_option linter.unusedVariables false
namespace Go.Dm
open Go
open Go.IntKind (wrap)
variable{b:Bool}{gs:List G}{Q:Prop}
theorem ci{c:Bool}(h:b=c)(r:Wy gs Q):Wy (.b c:: .b c::gs) (b=c/\b=c/\Q):=⟨h,h,r⟩
theorem iA{c:Bool}(h:b=c)(r:Wy gs Q):Wy (.b (not c):: .b (not c)::gs) (not b=not c/\not b=not c/\Q):=⟨cu not h,cu not h,r⟩
theorem K'(r:Wy gs Q):Wy (.b true:: .b true::gs) (true=true/\true=true/\Q):=⟨rfl,rfl,r⟩
theorem mw(r:Wy gs Q):Wy (.b false:: .b false::gs) (false=false/\false=false/\Q):=⟨rfl,rfl,r⟩
theorem dO{c:Bool}(h:b=c)(r:Wy gs Q):Wy (.b c:: .b c:: .b c::gs) (b=c/\b=c/\b=c/\Q):=⟨h,h,h,r⟩
theorem ez{c:Bool}(h:b=c)(r:Wy gs Q):Wy (.b (not c):: .b (not c):: .b (not c)::gs) (not b=not c/\not b=not c/\not b=not c/\Q):=⟨cu not h,cu not h,cu not h,r⟩
theorem mc(r:Wy gs Q):Wy (.b true:: .b true:: .b true::gs) (true=true/\true=true/\true=true/\Q):=⟨rfl,rfl,rfl,r⟩
theorem lE(r:Wy gs Q):Wy (.b false:: .b false:: .b false::gs) (false=false/\false=false/\false=false/\Q):=⟨rfl,rfl,rfl,r⟩
theorem eo{c:Bool}(h:b=c)(r:Wy gs Q):Wy (.b c:: .b c:: .b c:: .b c::gs) (b=c/\b=c/\b=c/\b=c/\Q):=⟨h,h,h,h,r⟩
theorem eA{c:Bool}(h:b=c)(r:Wy gs Q):Wy (.b (not c):: .b (not c):: .b (not c):: .b (not c)::gs) (not b=not c/\not b=not c/\not b=not c/\not b=not c/\Q):=⟨cu not h,cu not h,cu not h,cu not h,r⟩
theorem et4(r:Wy gs Q):Wy (.b true:: .b true:: .b true:: .b true::gs) (true=true/\true=true/\true=true/\true=true/\Q):=⟨rfl,rfl,rfl,rfl,r⟩
theorem kT(r:Wy gs Q):Wy (.b false:: .b false:: .b false:: .b false::gs) (false=false/\false=false/\false=false/\false=false/\Q):=⟨rfl,rfl,rfl,rfl,r⟩
theorem sy{c:Bool}(h:b=c)(r:Wy gs Q):Wy (.b c:: .b c:: .b c:: .b c:: .b c::gs) (b=c/\b=c/\b=c/\b=c/\b=c/\Q):=⟨h,h,h,h,h,r⟩
theorem CD{c:Bool}(h:b=c)(r:Wy gs Q):Wy (.b (not c):: .b (not c):: .b (not c):: .b (not c):: .b (not c)::gs) (not b=not c/\not b=not c/\not b=not c/\not b=not c/\not b=not c/\Q):=⟨cu not h,cu not h,cu not h,cu not h,cu not h,r⟩
theorem RD(r:Wy gs Q):Wy (.b true:: .b true:: .b true:: .b true:: .b true::gs) (true=true/\true=true/\true=true/\true=true/\true=true/\Q):=⟨rfl,rfl,rfl,rfl,rfl,r⟩
theorem Cg(r:Wy gs Q):Wy (.b false:: .b false:: .b false:: .b false:: .b false::gs) (false=false/\false=false/\false=false/\false=false/\false=false/\Q):=⟨rfl,rfl,rfl,rfl,rfl,r⟩
theorem hO{c:Bool}(h:b=c)(r:Wy gs Q):Wy (.b c:: .b c:: .b c:: .b c:: .b c:: .b c::gs) (b=c/\b=c/\b=c/\b=c/\b=c/\b=c/\Q):=⟨h,h,h,h,h,h,r⟩
theorem md{c:Bool}(h:b=c)(r:Wy gs Q):Wy (.b (not c):: .b (not c):: .b (not c):: .b (not c):: .b (not c):: .b (not c)::gs) (not b=not c/\not b=not c/\not b=not c/\not b=not c/\not b=not c/\not b=not c/\Q):=⟨cu not h,cu not h,cu not h,cu not h,cu not h,cu not h,r⟩
theorem k_(r:Wy gs Q):Wy (.b true:: .b true:: .b true:: .b true:: .b true:: .b true::gs) (true=true/\true=true/\true=true/\true=true/\true=true/\true=true/\Q):=⟨rfl,rfl,rfl,rfl,rfl,rfl,r⟩
theorem fP(r:Wy gs Q):Wy (.b false:: .b false:: .b false:: .b false:: .b false:: .b false::gs) (false=false/\false=false/\false=false/\false=false/\false=false/\false=false/\Q):=⟨rfl,rfl,rfl,rfl,rfl,rfl,r⟩
theorem be(b:Bool):b=true\/b=false:=mp b
theorem vq:(∀{α:Type} (a b:α),(bif true then a else b)=a)/\(∀{α:Type} (a b:α),(bif false then a else b)=b)/\(∀b,(true&&b)=b)/\(∀b,(false&&b)=false)/\(∀b,(true||b)=true)/\(∀b,(false||b)=b)/\(!true)=false/\(!false)=true:=⟨fun _ _=>rfl,fun _ _=>rfl,fun _=>rfl,fun _=>rfl,fun _=>rfl,fun _=>rfl,rfl,rfl⟩
theorem vr:(∀{α:Type} (p q:List α),(p++q).length=p.length+q.length)/\(∀{α:Type} (a:α) (p:List α),(a::p).length=p.length+1)/\(∀{α:Type},([]:List α).length=0)/\(∀{α:Type} (i:Nat) (l:List α),(l.drop i).length=l.length-i)/\(∀{α:Type} (i:Nat) (l:List α),(l.take i).length=min i l.length)/\(∀{α β:Type} (f:α->β) (p:List α),(p.map f).length=p.length):=⟨fun _ _=>iq,fun _ _=>cV,rfl,fun _ _=>rR,fun _ _=>kG,fun f _=>jq f⟩
abbrev mi(x:BitVec 32):Int:=(x.toNat:Int)
theorem zr(n:Nat):wrap .u32 (n:Int)=((n % 4294967296:Nat):Int):=by
 unfold wrap
 simp[IntKind.signed,IntKind.bits]
theorem qC(x:BitVec 32):0<=mi x/\mi x<4294967296:=by
 have:=x.isLt
 simp only[mi]
 omega
theorem UD{x y:BitVec 32}(h:mi x=mi y):x=y:=by
 apply BitVec.eq_of_toNat_eq
 simp only[mi] at h
 omega
theorem UE(x y:BitVec 32):(mi x==mi y)=(x==y):=by
 rw[xy]
 simp only[jF]
 exact⟨UD,fun h=>by rw[h]⟩
def inM(m:Int)(i:Nat):Bool:=(wrap .u32 (m.tdiv (2 ^ i))).tmod 2==1
theorem acs(x:BitVec 32)(i:Nat):inM (mi x) i=x.getLsbD i:=by
 unfold inM mi
 have e:((x.toNat:Int)).tdiv (2 ^ i)=((x.toNat / 2 ^ i:Nat):Int):=by
  rw[HT (by omega)];simp
 rw[e,zr]
 have hl:x.toNat / 2 ^ i<4294967296:=pM (Nat.div_le_self _ _) x.isLt
 rw[yF hl,HU (HS _)]
 show _=Nat.testBit x.toNat i
 rw[Nat.testBit_eq_decide_div_mod_eq,xy]
 generalize x.toNat / 2 ^ i=q
 simp only[jF,ij]
 omega
theorem P5{i:Nat}(h:i<32):(2:Int) ^ i=mi (BitVec.twoPow 32 i):=by
 simp only[mi,BitVec.toNat_twoPow]
 rw[yF (Nat.pow_lt_pow_right (by omega) h)]
 simp
theorem P6{x:BitVec 32}{i:Nat}(h:i<32)(hx:x.getLsbD i=false):wrap .u32 (mi x+2 ^ i)=mi (x|||BitVec.twoPow 32 i):=by
 rw[P5 h]
 have e:x|||BitVec.twoPow 32 i=x+BitVec.twoPow 32 i:=by
  rw[BitVec.add_eq_or_of_and_eq_zero]
  apply ql
  intro j hj
  simp only[qm,xw,hj,oH,i6,xx]
  by_cases MR:i=j
  ·subst MR;simp[hx]
  ·simp[MR]
 rw[e]
 simp only[mi]
 rw[<-Int.natCast_add,zr,BitVec.toNat_add]
theorem YO{x:BitVec 32}{i:Nat}(h:i<32)(hx:x.getLsbD i=true):wrap .u32 (mi x-2 ^ i)=mi (x&&&~~~BitVec.twoPow 32 i):=by
 have hb:(x&&&~~~BitVec.twoPow 32 i).getLsbD i=false:=by simp[h]
 have ha:=P6 h hb
 have e:(x&&&~~~BitVec.twoPow 32 i)|||BitVec.twoPow 32 i=x:=by
  apply ql
  intro j hj
  simp only[nh,qm,tt,xw,hj,oH,i6]
  by_cases MR:i=j
  ·subst MR;simp[hx]
  ·simp[MR]
 rw[e] at ha
 rw[P5 h] at ha ⊢
 have h1:=qC x
 have h2:=qC (x&&&~~~BitVec.twoPow 32 i)
 have h3:=qC (BitVec.twoPow 32 i)
 have rZ:mi (BitVec.twoPow 32 i)<=mi x:=by
  simp only[mi,BitVec.toNat_twoPow]
  rw[yF (Nat.pow_lt_pow_right (by omega) h)]
  have:2 ^ i<=x.toNat:=Nat.ge_two_pow_of_testBit (by simpa[BitVec.getLsbD] using hx)
  omega
 have w1:wrap .u32 (mi x-mi (BitVec.twoPow 32 i))=mi x-mi (BitVec.twoPow 32 i):=by
  unfold wrap
  simp[IntKind.signed,IntKind.bits]
  omega
 rw[w1]
 unfold wrap at ha
 simp[IntKind.signed,IntKind.bits] at ha
 omega
def Eo(x:BitVec 32):List Nat:=(List.range 32).filter x.getLsbD
def RE(x:BitVec 32)(l:List Nat):BitVec 32:=l.foldl (fun m i=>m|||BitVec.twoPow 32 i) x
theorem La:∀(l:List Nat) (x:BitVec 32) (j:Nat),j<32->(RE x l).getLsbD j=(x.getLsbD j||l.contains j)
 |[],x,j,_=>by simp[RE]
 |i::l,x,j,hj=>by
  have:=La l (x|||BitVec.twoPow 32 i) j hj
  unfold RE at this ⊢
  simp only[jp]
  rw[this]
  simp only[nh,xw,List.contains_cons,hj,oH,i6]
  rw[Bool.or_assoc]
  congr 2
  rw[xy]
  simp
  omega
theorem N3(x y:BitVec 32):RE x (Eo y)=x|||y:=by
 apply ql
 intro j hj
 rw[La _ _ _ hj,nh]
 congr 1
 unfold Eo
 rw[xy]
 simp[hj]
abbrev is(l:List Int):List (List C):=l.map eI
abbrev eW(x:BitVec 32):List C:=[w4 (mi x)]
abbrev ms(l:List (BitVec 32)):List (List C):=l.map eW
theorem act(l:List Int):(is l).length=l.length:=by simp[is]
theorem xX{i:Nat}(h:i<=31):(2:Int) ^ i<=2147483648/\0<(2:Int) ^ i:=by
 have h1:(2:Nat) ^ i<=2 ^ 31:=Nat.pow_le_pow_right (by omega) h
 have h2:0<(2:Nat) ^ i:=Nat.pow_pos (by omega)
 have e:((2 ^ i:Nat):Int)=(2:Int) ^ i:=by simp
 rw[<-e]
 omega
def qD(x:BitVec 32):List Int:=(Eo x).map fun(i:Nat)=>(i:Int)
def P7(x:BitVec 32)(n:Nat):List Int:=((List.range n).filter x.getLsbD).map fun(i:Nat)=>(i:Int)
theorem UF(x:BitVec 32)(n:Nat):P7 x (n+1)=if x.getLsbD n then P7 x n++[(n:Int)] else P7 x n:=by
 unfold P7
 rw[qW,HY]
 cases hb:x.getLsbD n<;>simp[hb]
theorem P8(x:BitVec 32)(n:Nat):(P7 x n).length<=n:=by
 unfold P7
 rw[jq]
 exact aZ (List.length_filter_le _ _) (by simp)
theorem acu(x:BitVec 32):P7 x 32=qD x:=rfl
theorem RF(x:BitVec 32):(qD x).length<=32:=P8 x 32
def IT(i:Int):Bool:=decide (0<=i)&&decide (i<32)
def ot(x:BitVec 32)(i:Int):Bool:=IT i&&x.getLsbD i.toNat
def pB(i:Int):BitVec 32:=if IT i then BitVec.twoPow 32 i.toNat else 0#32
def lA(m:BitVec 32)(l:List Int):BitVec 32:=l.foldl (fun m x=>m|||pB x) m
def ik(m:BitVec 32)(l:List Int):BitVec 32:=l.foldl (fun m x=>m&&&~~~pB x) m
def orI(m:BitVec 32)(l:List (BitVec 32)):BitVec 32:=l.foldl (fun m x=>m|||x) m
def AV(B:Int):BitVec 32:=if 1<=B/\B<=32 then BitVec.ofNat 32 (2 ^ B.toNat-1) else 0#32
def dP(x:BitVec 32)(B:Int):Bool:=decide (1<=B)&&decide (B<=32)&&(x&&&~~~AV B==0#32)
def n7(x:BitVec 32)(f:Int):Option Int:=(qD x).find? fun i=>decide (f<=i)
theorem P9(x:BitVec 32):∀(l:List Nat),(∀i∈l,i<32)->∀(m:BitVec 32),lA m (l.map fun(i:Nat)=>(i:Int))=RE m l
 |[],_,m=>rfl
 |i::l,h,m=>by
  have hi:=h i (by simp)
  have hb:pB (i:Int)=BitVec.twoPow 32 i:=by
   unfold pB IT
   rw[cJ (by omega:(0:Int)<=i),cJ (by omega:(i:Int)<32)]
   simp
  have:=P9 x l (fun j hj=>h j (by simp[hj])) (m|||BitVec.twoPow 32 i)
  unfold lA RE at this ⊢
  simp only[eY,jp,hb]
  exact this
theorem N4(x y:BitVec 32):lA x (qD y)=x|||y:=by
 rw[<-N3 x y]
 unfold qD
 refine P9 x _ (fun i hi=> ?_) _
 unfold Eo at hi
 simp at hi
 exact hi.1
structure Wr where
 nW:Int
 data:ByteArray
 deriving Inhabited,DecidableEq
abbrev Wr.cs(w:Wr):List C:=[ii w.nW,st w.data]
structure Dk where
 ax:List ByteArray
 ar:List Wr
 kU:Int
 gN:Bool
 deriving Inhabited,DecidableEq
abbrev Dk.cs(d:Dk):List C:=[.slice 1 (d.ax.map eS), .slice 2 (d.ar.map Wr.cs),ii d.kU,bo d.gN]
structure Ve where
 bH:Int
 i4:Int
 o0:Int
 o1:Int
 deriving Inhabited,DecidableEq
abbrev Ve.cs(v:Ve):List C:=[u v.bH,u v.i4,u v.o0,u v.o1]
structure Su where
 an:Int
 v:Ve
 bp:Bool
 cH:Bool
 dg:Bool
 deriving Inhabited,DecidableEq
abbrev Su.cs(s:Su):List C:=[ii s.an,u s.v.bH,u s.v.i4,u s.v.o0,u s.v.o1,bo s.bp,bo s.cH,bo s.dg]
structure He where
 an:Int
 v:Ve
 bp:Bool
 sN:Bool
 dg:Bool
 cH:Bool
 cr:BitVec 32
 deriving Inhabited,DecidableEq
abbrev He.cs(h:He):List C:=[ii h.an,u h.v.bH,u h.v.i4,u h.v.o0,u h.v.o1,bo h.bp,bo h.sN,bo h.dg,bo h.cH,w4 (mi h.cr)]
structure Vd where
 ae:Int
 iY:Int
 deriving Inhabited,DecidableEq
abbrev Vd.cs(v:Vd):List C:=[ii v.ae,ii v.iY]
structure Mi where
 g:Int
 p:Int
 n:Int
 deriving Inhabited,DecidableEq
abbrev Mi.cs(m:Mi):List C:=[u m.g,u m.p,ii m.n]
structure Pk where
 ae:Int
 bd:Int
 aw:He
 block:Int
 data:ByteArray
 deriving Inhabited,DecidableEq
abbrev Pk.cs(p:Pk):List C:=[ii p.ae,u p.bd,ii p.aw.an,u p.aw.v.bH,u p.aw.v.i4,u p.aw.v.o0,u p.aw.v.o1,bo p.aw.bp,bo p.aw.sN,bo p.aw.dg,bo p.aw.cH,w4 (mi p.aw.cr),ii p.block,st p.data]
structure Lk where
 up:Bool
 bd:Int
 lI:List ByteArray
 lJ:List ByteArray
 deriving Inhabited,DecidableEq
abbrev Lk.cs(l:Lk):List C:=[bo l.up,u l.bd, .slice 1 (l.lI.map eS), .slice 1 (l.lJ.map eS)]
structure So where
 ao:Dk
 aj:Su
 cr:BitVec 32
 deriving Inhabited,DecidableEq
abbrev So.cs(s:So):List C:=[.slice 1 (s.ao.ax.map eS), .slice 2 (s.ao.ar.map Wr.cs),ii s.ao.kU,bo s.ao.gN,
 ii s.aj.an,u s.aj.v.bH,u s.aj.v.i4,u s.aj.v.o0,u s.aj.v.o1,bo s.aj.bp,bo s.aj.cH,bo s.aj.dg,w4 (mi s.cr)]
structure Rq where
 on:Bool
 id:Int
 block:Int
 data:ByteArray
 deriving Inhabited,DecidableEq
abbrev Rq.cs(r:Rq):List C:=[bo r.on,ii r.id,ii r.block,st r.data]
structure Nd where
 id:Int
 up:Bool
 store:So
 aN:Bool
 ag:Int
 bd:Int
 eQ:He
 cU:Bool
 bL:Rq
 cb:Bool
 bM:Int
 wanted:Int
 bZ:Bool
 aQ:List Int
 bh:List Mi
 deriving Inhabited,DecidableEq
abbrev Nd.cs(n:Nd):List C:=[ii n.id,bo n.up, .slice 1 (n.store.ao.ax.map eS), .slice 2 (n.store.ao.ar.map Wr.cs),ii n.store.ao.kU,bo n.store.ao.gN,
 ii n.store.aj.an,u n.store.aj.v.bH,u n.store.aj.v.i4,u n.store.aj.v.o0,u n.store.aj.v.o1,bo n.store.aj.bp,bo n.store.aj.cH,bo n.store.aj.dg,w4 (mi n.store.cr),
 bo n.aN,ii n.ag,u n.bd,ii n.eQ.an,u n.eQ.v.bH,u n.eQ.v.i4,u n.eQ.v.o0,u n.eQ.v.o1,bo n.eQ.bp,bo n.eQ.sN,bo n.eQ.dg,bo n.eQ.cH,w4 (mi n.eQ.cr),bo n.cU,
 bo n.bL.on,ii n.bL.id,ii n.bL.block,st n.bL.data,bo n.cb,ii n.bM,ii n.wanted,bo n.bZ, .slice 1 (n.aQ.map eU), .slice 3 (n.bh.map Mi.cs)]
structure Ou where
 ae:Int
 node:Int
 id:Int
 j2:Int
 data:ByteArray
 deriving Inhabited,DecidableEq
abbrev Ou.cs(o:Ou):List C:=[ii o.ae,ii o.node,ii o.id,ii o.j2,st o.data]
structure Cl where
 n0:Nd
 n1:Nd
 ai:Lk
 w0:Bool
 w1:Bool
 deriving Inhabited,DecidableEq
abbrev Cl.cs(c:Cl):List C:=c.n0.cs++(c.n1.cs++[bo c.ai.up,u c.ai.bd, .slice 1 (c.ai.lI.map eS), .slice 1 (c.ai.lJ.map eS),bo c.w0,bo c.w1])
structure bg where
 ae:Int
 node:Int
 id:Int
 block:Int
 data:ByteArray
 n:Int
 aU:List Bool
 deriving Inhabited,DecidableEq
abbrev bg.cs(e:bg):List C:=[ii e.ae,ii e.node,ii e.id,ii e.block,st e.data,u e.n, .slice 1 (e.aU.map eB)]
def zt:Nat->Int->ByteArray->ByteArray
 |0,_,s=>s
 |k+1,n,s=>zt k (wrap .u64 (n.tdiv 256)) (dc [wrap .u8 (n.tmod 256)]++s)
def eR(n:Int):ByteArray:=zt 8 n ⟨#[]⟩
def ee(n:Int):ByteArray:=zt 4 (wrap .u64 n) ⟨#[]⟩
def gO(l:List UInt8):Int:=l.foldl (fun n b=>wrap .u64 (wrap .u64 (n*256)+wrap .u64 (b.toNat:Int))) 0
def aq(s:ByteArray)(i:Nat):UInt8:=s[i]?.getD 0
def fl(b:Bool)(n:Int):Int:=bif b then n else 0
def CE(n:Int)(b:UInt8):Int:=(wrap .u64 (agB .u64 n (wrap .u64 (b.toNat:Int))*16777619)).tmod 4294967296
def UG(s:ByteArray):Int:=wrap .u32 (s.data.toList.foldl CE 2166136261)
def cA(s:ByteArray):ByteArray:=s++ee (UG s)
def aa(s:ByteArray):ByteArray×Int:=
 bif decide ((s.size:Int)<4) then(⟨#[]⟩,2) else bif cA (s.extract 0 (s.size-4))==s then(s.extract 0 (s.size-4),0) else(⟨#[]⟩,3)
theorem cf(ns:List Int):(dc ns).size=ns.length:=by
 have key:∀(l:List Int) (a:ByteArray),(l.foldl (fun r n=>r.push (UInt8.ofNat n.toNat)) a).size=a.size+l.length:=by
  intro l
  induction l with
  |nil=>intro a;rfl
  |cons x l ih=>intro a;rw[jp,ih,ByteArray.size_push,cV];omega
 have:=key ns ByteArray.empty
 simpa[dc] using this
theorem AW:∀(k:Nat) (n:Int) (s:ByteArray),(zt k n s).size=k+s.size
 |0,n,s=>by simp[zt]
 |k+1,n,s=>by
  rw[zt,AW k,mQ,cf]
  simp only[cV,eO]
  omega
theorem UH(a:Array UInt8):(ByteArray.mk a).size=a.size:=rfl
theorem sP:(⟨#[]⟩:ByteArray).size=0:=rfl
theorem bC(n:Int):(eR n).size=8:=by unfold eR;rw[AW,sP]
theorem mY(n:Int):(ee n).size=4:=by unfold ee;rw[AW,sP]
theorem i_(s:ByteArray):(cA s).size=s.size+4:=by unfold cA;rw[mQ,mY]
theorem nK(s:ByteArray)(i:Nat):s[i]?=s.data.toList[i]?:=by
 by_cases h:i<s.size
 ·rw[getElem?_pos s i h]
  have h2:i<s.data.toList.length:=by simpa using h
  rw[cm h2]
  simp
  rfl
 ·rw[getElem?_neg s i h,jR (by simpa using h)]
theorem xY(s:ByteArray):s.data.toList.length=s.size:=by simp
variable{α:Type}
theorem agD{l:List α}(h:l.length=8):∃a b c d e f g i,l=[a,b,c,d,e,f,g,i]:=by
 match l,h with
 |[a,b,c,d,e,f,g,i],_=>exact⟨a,b,c,d,e,f,g,i,rfl⟩
theorem agE{l:List α}(h:l.length=4):∃a b c d,l=[a,b,c,d]:=by
 match l,h with
 |[a,b,c,d],_=>exact⟨a,b,c,d,rfl⟩
theorem ov{s:ByteArray}{i:Nat}(h:i<s.size):s[i]?=some (aq s i):=by
 unfold aq
 rw[getElem?_pos s i h]
 rfl
def iD(d:Dk)(i:Int):ByteArray:=d.ar.foldl (fun s w=>bif w.nW==i then w.data else s) (d.ax.getD i.toNat ⟨#[]⟩)
def bR(d:Dk)(i:Int):ByteArray×Int:=
 bif d.gN then(⟨#[]⟩,6) else bif decide (i<0)||decide (i>=(d.ax.length:Int)) then(⟨#[]⟩,4) else(iD d i,0)
def cp(d:Dk):Dk:=
 {d with gN:=bif d.kU==1 then true else d.gN,kU:=bif decide (d.kU>0) then wrap .i64 (d.kU-1) else d.kU}
def bN(d:Dk)(i:Int)(data:ByteArray):Dk×Int:=
 bif d.gN then(d,6) else bif decide (i<0)||decide (i>=(d.ax.length:Int)) then(d,4) else bif decide ((data.size:Int)>64) then(d,5) else
 bif (cp d).gN then(cp d,6) else({cp d with ar:=(cp d).ar++[⟨i,data⟩]},0)
def iW(d:Dk):List ByteArray:=(List.range d.ax.length).map fun(i:Nat)=>iD d (i:Int)
def hU(d:Dk):Dk×Int:=
 bif d.gN then(d,6) else bif (cp d).gN then(cp d,6) else
 ({cp d with ax:=iW (cp d),ar:=[]},0)
def UI(d:Dk)(n:Int):Dk:={d with kU:=if 0>n then 0 else n}
def Ep(d:Dk):Dk:={d with gN:=true,kU:=0}
def ce(d:Dk)(aU:List Bool):Dk:=
 ⟨(d.ar.zip aU).foldl (fun s x=>bif x.2 then s.set x.1.nW.toNat x.1.data else s) d.ax,[],0,false⟩
def bD(v:Ve)(g:Int):Int:=bif g==0 then -1 else bif v.bH==g then 0 else bif v.i4==g then 1 else bif v.o0==g then 2 else bif v.o1==g then 3 else -1
def fK(v:Ve)(g:Int):Ve:=bif v.i4==0 then⟨g,v.bH,v.o0,v.o1⟩ else⟨g,v.i4,v.bH,v.o0⟩
def bP(v:Ve):Ve:=bif v.i4==0 then v else⟨v.bH,0,v.i4,v.o0⟩
def zu(v:Ve)(g:Int):Ve:={v with i4:=g}
def dI(s:Su):Bool:=decide (s.an>=1)&&decide (s.an<=32)&&!(s.v.bH==0)
def dD(s:Su):ByteArray:=(((((⟨#[71,77,1]⟩++dc [wrap .u8 s.an,fl s.bp 1+fl s.cH 2+fl s.dg 4])++eR s.v.bH)++eR s.v.i4)++eR s.v.o0)++eR s.v.o1)
theorem ub(s:Su):(dD s).size=37:=by
 unfold dD
 simp only[mQ,cf,bC,cV,eO]
 rfl
def bV(s:Su):ByteArray×Int:=bif !dI s then(⟨#[]⟩,1) else(cA (dD s),0)
def Kg:Su:=⟨0,⟨0,0,0,0⟩,false,false,false⟩
def cB(t:ByteArray)(at':Nat):Int:=gO (t.extract at' (at'+8)).data.toList
def bK(b:UInt8)(i:Nat):Bool:=((b.toNat / 2 ^ i) % 2==1)
def Gg(t:ByteArray):Su:=⟨wrap .i64 ((aq t 3).toNat:Int),⟨cB t 5,cB t 13,cB t 21,cB t 29⟩,bK (aq t 4) 0,bK (aq t 4) 1,bK (aq t 4) 2⟩
def fC(b:ByteArray):Su×Int:=
 bif !((aa b).2==0) then(Kg,(aa b).2) else
 bif !(((aa b).1.size:Int)==37)||decide (((aq (aa b).1 4).toNat:Int)>7) then(Kg,2) else
 bif !dI (Gg (aa b).1)||!(dD (Gg (aa b).1)==(aa b).1) then(Kg,2) else(Gg (aa b).1,0)
def uC(d:Dk)(s:Su):Bool:=wrap .i64 ((d.ax.length:Int)-2)==s.an
def kf(d:Dk):Su×Int:=
 bif !((bR d 0).2==0) then(Kg,(bR d 0).2) else bif !((fC (bR d 0).1).2==0) then(Kg,(fC (bR d 0).1).2) else
 bif !uC d (fC (bR d 0).1).1 then(Kg,2) else((fC (bR d 0).1).1,0)
def eG(d:Dk)(s:Su):Dk×Int:=
 bif !((bV s).2==0)||!uC d s then(d,1) else
 bif !((bN d 0 (bV s).1).2==0) then bN d 0 (bV s).1 else hU (bN d 0 (bV s).1).1
def jW(d:Dk):BitVec 32×Int:=
 bif !((bR d 1).2==0) then(0#32,(bR d 1).2) else bif !((aa (bR d 1).1).2==0) then(0#32,(aa (bR d 1).1).2) else
 bif !(((aa (bR d 1).1).1.size:Int)==4) then(0#32,2) else
 bif !dP (BitVec.ofInt 32 (gO (aa (bR d 1).1).1.data.toList)) (wrap .i64 ((d.ax.length:Int)-2)) then(0#32,2) else(BitVec.ofInt 32 (gO (aa (bR d 1).1).1.data.toList),0)
def jk(d:Dk)(m:BitVec 32):Dk×Int:=
 bif !dP m (wrap .i64 ((d.ax.length:Int)-2)) then(d,1) else bN d 1 (cA (ee (mi m)))
def me(d:Dk)(m:BitVec 32):Dk×Int:=
 bif !((jk d m).2==0) then jk d m else hU (jk d m).1
def jS(d:Dk)(i:Int):Bool:=decide (i>=0)&&decide (i<wrap .i64 ((d.ax.length:Int)-2))
def aK(d:Dk)(i:Int):ByteArray×Int:=
 bif !jS d i then(⟨#[]⟩,4) else bif !((bR d (wrap .i64 (i+2))).2==0) then(⟨#[]⟩,(bR d (wrap .i64 (i+2))).2) else
 bif !(((bR d (wrap .i64 (i+2))).1.size:Int)==8) then(⟨#[]⟩,2) else((bR d (wrap .i64 (i+2))).1,0)
def nL(d:Dk)(i:Int)(data:ByteArray):Dk×Int:=
 bif !jS d i then(d,4) else bif !((data.size:Int)==8) then(d,5) else
 bif !((bN d (wrap .i64 (i+2)) data).2==0) then bN d (wrap .i64 (i+2)) data else hU (bN d (wrap .i64 (i+2)) data).1
def ld(d:Dk):List ByteArray×Int:=
 match(List.range (d.ax.length-2)).find? (fun(i:Nat)=>!((aK d (i:Int)).2==0)) with
 |some i=>([],(aK d (i:Int)).2)
 |none=>((List.range (d.ax.length-2)).map fun(i:Nat)=>(aK d (i:Int)).1,0)
def Gi(s:Su)(cH:Bool)(m:BitVec 32):He:=⟨s.an,s.v,s.bp,s.cH&&!cH,s.dg,cH,m⟩
def eZ(h:He):Bool:=decide (h.an>=1)&&decide (h.an<=32)&&!(h.v.bH==0)&&dP h.cr h.an&&!(h.cH&&h.sN)&&!(h.cH&&h.bp)
def d_(h:He):ByteArray:=(((((dc [wrap .u8 h.an,fl h.bp 1+fl h.sN 2+fl h.dg 4+fl h.cH 8]++eR h.v.bH)++eR h.v.i4)++eR h.v.o0)++eR h.v.o1)++ee (mi h.cr))
theorem lZ(h:He):(d_ h).size=38:=by
 unfold d_
 simp only[mQ,cf,bC,mY,cV,eO]
def mF(h:He):ByteArray×Int:=bif !eZ h then(⟨#[]⟩,1) else(d_ h,0)
def fQ:He:=⟨0,⟨0,0,0,0⟩,false,false,false,false,0#32⟩
def N5(b:ByteArray):He:=⟨wrap .i64 ((aq b 0).toNat:Int),⟨cB b 2,cB b 10,cB b 18,cB b 26⟩,bK (aq b 1) 0,bK (aq b 1) 1,bK (aq b 1) 2,bK (aq b 1) 3,BitVec.ofInt 32 (gO (b.extract 34 b.size).data.toList)⟩
def jL(b:ByteArray):He×Int:=
 bif !((b.size:Int)==38)||decide (((aq b 1).toNat:Int)>15) then(fQ,2) else bif !eZ (N5 b) then(fQ,2) else(N5 b,0)
abbrev fG:He:=He.mk 0 (Ve.mk 0 0 0 0) false false false false (BitVec.ofNat 32 0)
abbrev zw:Rq:=Rq.mk false 0 0 ⟨#[]⟩
abbrev ku:ByteArray:=ByteArray.mk #[0,0,0,0,0,0,0,0]
theorem rz(x:Int):x=x:=rfl
theorem vu:(∀a b:ByteArray,(a++b).size=a.size+b.size)/\(∀ns,(dc ns).size=ns.length)/\(⟨#[]⟩:ByteArray).size=0/\(∀a:Array UInt8,(ByteArray.mk a).size=a.size)/\(∀l:List UInt8,l.toArray.size=l.length)/\(∀n,(eR n).size=8)/\(∀n,(ee n).size=4)/\(∀s,(cA s).size=s.size+4)/\(∀s,(dD s).size=37)/\(∀h,(d_ h).size=38)/\(∀{α:Type} (a:α) (l:List α),(a::l).length=l.length+1)/\(∀{α:Type},([]:List α).length=0):=⟨fun _ _=>mQ,cf,sP,UH,fun _=>lg,bC,mY,i_,ub,lZ,fun _ _=>cV,rfl⟩
abbrev q6(n:Int):Int:=wrap .u64 (Int.tdiv n 256)
abbrev q8(n:Int):Int:=wrap .u8 (Int.tmod n 256)
def bv:Vd:=⟨4, -1⟩
def bc(ae iY:Int)(t:He):Vd:=bif t.cH||ae==4 then bv else⟨ae,iY⟩
def jM(s t:He):Int:=
 bif s.dg then 4 else bif decide (bD s.v t.v.i4>=0) then 2 else bif t.dg then 3 else
 bif decide (bD s.v t.v.bH<0) then 4 else bif decide (bD s.v t.v.bH<=1) then 2 else 3
def gP(p:Int):Int:=bif p==0 then 4 else bif p==1 then 2 else 3
def aI(x y:He):Vd:=
 bif !(x.an==y.an)||x.cH&&y.cH||x.bp&&y.bp||x.dg&&y.dg then bv else
 bif x.bp then bc (jM y x) 1 x else bif y.bp then bc (jM x y) 0 y else
 bif x.dg then bc 3 1 x else bif y.dg then bc 3 0 y else
 bif x.v.bH==y.v.bH then
  (bif mi x.cr==0&&mi y.cr==0 then⟨1, -1⟩ else bif y.cH||!x.cH&&y.sN&&!x.sN then bc 2 1 x else bc 2 0 y) else
 bif decide (bD x.v y.v.bH>0)&&decide (bD y.v x.v.bH<0) then bc (gP (bD x.v y.v.bH)) 0 y else
 bif decide (bD y.v x.v.bH>0)&&decide (bD x.v y.v.bH<0) then bc (gP (bD y.v x.v.bH)) 1 x else bv
def uD(v:Vd)(x y:He):BitVec 32:=bif v.ae==2 then x.cr|||y.cr else bif v.ae==3 then AV x.an else 0#32
def cT(k:Int):Bool:=decide (k>=2)&&decide (k<=7)
def iQ(k:Int):Bool:=k==2||k==6
def ja(h:He):Bool:=(h.an==0&&((h.v.bH==0&&(h.v.i4==0&&((h.v.o0==0&&(h.v.o1==0&&true))&&true)))&&(h.bp==false&&(h.sN==false&&(h.dg==false&&(h.cH==false&&(mi h.cr==0&&true)))))))
theorem Er(h:He):ja h=true↔h=fQ:=by
 obtain⟨b,⟨c,d,e,f⟩,g,i,j,k,m⟩:=h
 have hm:((m.toNat:Int)=0)↔m=0#32:=by
  constructor
  ·intro h;apply BitVec.eq_of_toNat_eq;simp;omega
  ·rintro rfl;rfl
 have hm2:m.toNat=0↔m=0#32:=by rw[<-hm];omega
 simp[ja,fQ,hm2]
def cN(p:Pk):Bool:=
 bif decide (p.ae<1)||decide (p.ae>13) then false else
 bif p.ae==1&&!eZ p.aw||!(p.ae==1)&&!ja p.aw then false else
 bif decide (p.block<0)||decide (p.block>31)||!cT p.ae&&!(p.block==0) then false else
 bif iQ p.ae then(p.data.size:Int)==8 else p.data==⟨#[]⟩
def sa(p:Pk):ByteArray:=
 bif cT p.ae then
  (bif p.ae==1 then(dc [wrap .u8 p.ae]++eR p.bd)++(mF p.aw).1 else dc [wrap .u8 p.ae]++eR p.bd)++dc [wrap .u8 p.block]
 else bif p.ae==1 then(dc [wrap .u8 p.ae]++eR p.bd)++(mF p.aw).1 else dc [wrap .u8 p.ae]++eR p.bd
theorem xZ(h:He):(mF h).1.size<=38:=by
 unfold mF
 cases eZ h with
 |false=>exact dh _
 |true=>exact qZ (lZ h)
def dy(p:Pk):ByteArray:=sa p++p.data
def jl(p:Pk):ByteArray×Int:=bif !cN p then(⟨#[]⟩,1) else(cA (dy p),0)
def YP:Pk:=⟨0,0,fQ,0,⟨#[]⟩⟩
abbrev pC(t:ByteArray):Int:=wrap .i64 ((aq t 0).toNat:Int)
abbrev qE(t:ByteArray):ByteArray:=t.extract 9 t.size
def zx(t:ByteArray):Bool:=decide (((qE t).size:Int)>0)
def qF(t:ByteArray):Pk:=
 bif pC t==1 then⟨pC t,gO (t.extract 1 9).data.toList,(jL (qE t)).1,0,⟨#[]⟩⟩ else
 bif cT (pC t)&&zx t then⟨pC t,gO (t.extract 1 9).data.toList,fQ,wrap .i64 ((aq (qE t) 0).toNat:Int),(qE t).extract 1 (qE t).size⟩
 else⟨pC t,gO (t.extract 1 9).data.toList,fQ,0,qE t⟩
def lK(t:ByteArray):Pk×Int:=
 bif decide ((t.size:Int)<9) then(YP,2) else
 bif pC t==1&&!((jL (qE t)).2==0) then(YP,2) else
 bif !cN (qF t)||!(dy (qF t)==t) then(YP,2) else(qF t,0)
def cK(b:ByteArray):Pk×Int:=
 bif !((aa b).2==0) then(YP,(aa b).2) else lK (aa b).1
def bw(b:ByteArray)(bd:Int):Pk×Int:=
 bif !((cK b).2==0) then(YP,(cK b).2) else bif !((cK b).1.bd==bd) then(YP,16) else((cK b).1,0)
def fU(l:Lk):Lk:=⟨true,wrap .u64 (l.bd+1),[],[]⟩
def cO(l:Lk):Lk:=⟨false,l.bd,[],[]⟩
def dQ(l:Lk)(to:Int)(ps:List ByteArray):Lk×Int:=
 bif !(to==0)&&!(to==1) then(l,1) else bif !l.up then(l,7) else
 bif to==0 then({l with lI:=l.lI++ps},0) else({l with lJ:=l.lJ++ps},0)
def ge(l:Lk)(to:Int):ByteArray×Lk×Bool:=
 bif to==0 then(match l.lI with|[]=>(⟨#[]⟩,l,false)|x::r=>(x,{l with lI:=r},true)) else
 bif to==1 then(match l.lJ with|[]=>(⟨#[]⟩,l,false)|x::r=>(x,{l with lJ:=r},true)) else(⟨#[]⟩,l,false)
theorem rC(d:Dk)(i:Int)(x:ByteArray):(bN d i x).1.ax=d.ax:=by
 unfold bN
 cases d.gN<;>cases(decide (i<0)||decide (i>=(d.ax.length:Int)))<;>cases decide ((x.size:Int)>64)<;>cases h:(cp d).gN<;>simp[cp]
theorem nM(d:Dk)(i:Int)(x:ByteArray):(bN d i x).1.ar.length<=d.ar.length+1:=by
 unfold bN
 cases d.gN<;>cases(decide (i<0)||decide (i>=(d.ax.length:Int)))<;>cases decide ((x.size:Int)>64)<;>cases h:(cp d).gN<;>simp[cp]
theorem G3(d:Dk)(m:BitVec 32):(jk d m).1.ax=d.ax:=by
 unfold jk
 cases dP m (wrap .i64 ((d.ax.length:Int)-2)) with
 |false=>rfl
 |true=>exact rC _ _ _
theorem Es(d:Dk)(m:BitVec 32):(jk d m).1.ar.length<=d.ar.length+1:=by
 unfold jk
 cases dP m (wrap .i64 ((d.ax.length:Int)-2)) with
 |false=>exact wc _
 |true=>exact nM _ _ _
def Lb(a b:Su):Bool:=(a.an==b.an&&((a.v.bH==b.v.bH&&(a.v.i4==b.v.i4&&((a.v.o0==b.v.o0&&(a.v.o1==b.v.o1&&true))&&true)))&&(a.bp==b.bp&&(a.cH==b.cH&&(a.dg==b.dg&&true)))))
theorem Lc(a b:Su):Lb a b=true↔a=b:=by
 obtain⟨a1,⟨a2,a3,a4,a5⟩,a6,a7,a8⟩:=a
 obtain⟨b1,⟨b2,b3,b4,b5⟩,b6,b7,b8⟩:=b
 simp[Lb,and_assoc]
def so0:So:=⟨⟨[],[],0,false⟩,Kg,0#32⟩
def cd(d:Dk):So×Int:=
 bif !((kf d).2==0) then(so0,(kf d).2) else bif !((jW d).2==0) then(so0,(jW d).2) else
 bif !((ld d).2==0) then(so0,(ld d).2) else(⟨d,(kf d).1,(jW d).1⟩,0)
def dM(s:So)(b:Su):So×Int:=
 bif Lb b s.aj then(s,0) else
 bif (eG s.ao b).2==0 then(⟨(eG s.ao b).1,b,s.cr⟩,(eG s.ao b).2) else(⟨(eG s.ao b).1,s.aj,s.cr⟩,(eG s.ao b).2)
def n8(s:So)(m:BitVec 32):So×Int:=
 bif mi m==mi s.cr then(s,0) else
 bif (me s.ao m).2==0 then(⟨(me s.ao m).1,s.aj,m⟩,(me s.ao m).2) else(⟨(me s.ao m).1,s.aj,s.cr⟩,(me s.ao m).2)
def Ch(s:So)(i:Int):Bool:=decide (i<0)||decide (i>=s.aj.an)
def mZ(s:So)(i:Int):So×Int:=bif Ch s i then(s,4) else n8 s (lA s.cr [i])
def jm(s:So)(i:Int):So×Int:=
 bif Ch s i then(s,4) else bif mi (ik s.cr [i])==mi s.cr then(s,0) else
 bif (jk s.ao (ik s.cr [i])).2==0 then(⟨(jk s.ao (ik s.cr [i])).1,s.aj,ik s.cr [i]⟩,(jk s.ao (ik s.cr [i])).2)
 else(⟨(jk s.ao (ik s.cr [i])).1,s.aj,s.cr⟩,(jk s.ao (ik s.cr [i])).2)
def nN(s:So)(m:BitVec 32):So×Int:=n8 s (s.cr|||m)
def jn(s:So)(i:Int)(data:ByteArray):So×Int:=(⟨(nL s.ao i data).1,s.aj,s.cr⟩,(nL s.ao i data).2)
def iE:Rq:=⟨false,0,0,⟨#[]⟩⟩
def dz(n:Nd):Nd:=⟨n.id,false,⟨Ep n.store.ao,Kg,0#32⟩,false,0,0,fQ,false,iE,false,0,0,false,n.aQ,n.bh⟩
def ap(n:Nd)(id e:Int)(data:ByteArray):Ou:=⟨2,n.id,id,e,data⟩
def bE(n:Nd)(p:Pk):Ou:=⟨1,n.id,0,0,(jl {p with bd:=n.bd}).1⟩
def aH(n:Nd)(b:Su):Nd×Bool:=
 bif !((dM n.store b).2==0) then(dz {n with store:=(dM n.store b).1},false) else({n with store:=(dM n.store b).1},true)
def kK(n:Nd):Bool:=n.ag==2||n.ag==3
def ud(ae:Int):Pk:=⟨ae,0,fQ,0,⟨#[]⟩⟩
def cj(n:Nd)(id:Int):Nd×List Ou:=
 bif !n.up then(n,[ap n id 7 ⟨#[]⟩]) else bif n.aN then(n,[ap n id 8 ⟨#[]⟩]) else
 bif n.store.aj.bp then(n,[ap n id 9 ⟨#[]⟩]) else bif n.store.aj.dg then(n,[ap n id 10 ⟨#[]⟩]) else
 bif n.ag==1||n.ag==4||n.cb then(n,[ap n id 11 ⟨#[]⟩]) else bif n.cU then(n,[ap n id 12 ⟨#[]⟩]) else
 bif kK n then({n with cb:=true,bM:=id},[bE {n with cb:=true,bM:=id} (ud 10)]) else
 bif !(aH n {n.store.aj with cH:=true}).2 then((aH n {n.store.aj with cH:=true}).1,[]) else
 ({(aH n {n.store.aj with cH:=true}).1 with aN:=true},[ap {(aH n {n.store.aj with cH:=true}).1 with aN:=true} id 0 ⟨#[]⟩])
def dN(n:Nd)(id:Int):Nd×List Ou:=
 bif !n.up then(n,[ap n id 7 ⟨#[]⟩]) else bif !n.aN then(n,[ap n id 8 ⟨#[]⟩]) else
 bif n.bL.on||n.ag==1 then(n,[ap n id 11 ⟨#[]⟩]) else
 bif !(aH n {n.store.aj with cH:=false}).2 then((aH n {n.store.aj with cH:=false}).1,[]) else
 bif kK {(aH n {n.store.aj with cH:=false}).1 with aN:=false} then
  ({(aH n {n.store.aj with cH:=false}).1 with aN:=false},[bE {(aH n {n.store.aj with cH:=false}).1 with aN:=false} (ud 13),ap {(aH n {n.store.aj with cH:=false}).1 with aN:=false} id 0 ⟨#[]⟩]) else
  ({(aH n {n.store.aj with cH:=false}).1 with aN:=false},[ap {(aH n {n.store.aj with cH:=false}).1 with aN:=false} id 0 ⟨#[]⟩])
def dj(n:Nd)(id:Int):Nd×List Ou:=
 bif !n.up then(n,[ap n id 7 ⟨#[]⟩]) else bif n.aN then(n,[ap n id 8 ⟨#[]⟩]) else bif !(n.ag==0) then(n,[ap n id 11 ⟨#[]⟩]) else
 bif !(aH n {n.store.aj with dg:=true}).2 then((aH n {n.store.aj with dg:=true}).1,[]) else
 ((aH n {n.store.aj with dg:=true}).1,[ap (aH n {n.store.aj with dg:=true}).1 id 0 ⟨#[]⟩])
def js(n:Nd)(id block:Int):Nd×List Ou:=
 bif !n.up then(n,[ap n id 7 ⟨#[]⟩]) else bif !n.aN then(n,[ap n id 8 ⟨#[]⟩]) else
 (n,[ap n id (aK n.store.ao block).2 (aK n.store.ao block).1])
def gy(n:Nd)(s:So)(e:Int):Nd×Bool:=bif !(e==0) then(dz {n with store:=s},false) else({n with store:=s},true)
theorem az{p:α->Prop}{x y:α}(hx:p x)(hy:p y):p (bif b then x else y):=by
 cases b
 ·exact hy
 ·exact hx
def oX(d e:Dk):Prop:=e.ax.length=d.ax.length/\e.ar.length<=d.ar.length+1
theorem oX.refl(d:Dk):oX d d:=⟨rfl,wc _⟩
theorem ue(d:Dk)(i:Int)(x:ByteArray):oX d (bN d i x).1:=⟨by rw[rC],nM d i x⟩
theorem AX(d e:Dk)(h:oX d e):oX d (hU e).1:=by
 unfold hU
 refine az (p:=fun(x:Dk×Int)=>oX d x.1) h (az (p:=fun(x:Dk×Int)=>oX d x.1) h ?_)
 exact⟨by simp[iW,cp,h.1],dh _⟩
theorem BM(d:Dk)(s:Su):oX d (eG d s).1:=by
 unfold eG
 exact az (p:=fun(x:Dk×Int)=>oX d x.1) (oX.refl d) (az (p:=fun(x:Dk×Int)=>oX d x.1) (ue _ _ _) (AX _ _ (ue _ _ _)))
theorem zy(d:Dk)(m:BitVec 32):oX d (jk d m).1:=⟨by rw[G3],Es d m⟩
theorem G4(d:Dk)(m:BitVec 32):oX d (me d m).1:=by
 unfold me
 exact az (p:=fun(x:Dk×Int)=>oX d x.1) (zy _ _) (AX _ _ (zy _ _))
theorem UJ(d:Dk)(i:Int)(x:ByteArray):oX d (nL d i x).1:=by
 unfold nL
 exact az (p:=fun(x:Dk×Int)=>oX d x.1) (oX.refl d) (az (p:=fun(x:Dk×Int)=>oX d x.1) (oX.refl d) (az (p:=fun(x:Dk×Int)=>oX d x.1) (ue _ _ _) (AX _ _ (ue _ _ _))))
theorem BN(s:So)(b:Su):oX s.ao (dM s b).1.ao:=by
 unfold dM
 exact az (p:=fun(x:So×Int)=>oX s.ao x.1.ao) (oX.refl _) (az (p:=fun(x:So×Int)=>oX s.ao x.1.ao) (BM _ _) (BM _ _))
theorem G5(s:So)(m:BitVec 32):oX s.ao (n8 s m).1.ao:=by
 unfold n8
 exact az (p:=fun(x:So×Int)=>oX s.ao x.1.ao) (oX.refl _) (az (p:=fun(x:So×Int)=>oX s.ao x.1.ao) (G4 _ _) (G4 _ _))
theorem RG(s:So)(i:Int):oX s.ao (mZ s i).1.ao:=by
 unfold mZ
 exact az (p:=fun(x:So×Int)=>oX s.ao x.1.ao) (oX.refl _) (G5 _ _)
theorem RH(s:So)(i:Int):oX s.ao (jm s i).1.ao:=by
 unfold jm
 exact az (p:=fun(x:So×Int)=>oX s.ao x.1.ao) (oX.refl _) (az (p:=fun(x:So×Int)=>oX s.ao x.1.ao) (oX.refl _) (az (p:=fun(x:So×Int)=>oX s.ao x.1.ao) (zy _ _) (zy _ _)))
theorem RI(s:So)(m:BitVec 32):oX s.ao (nN s m).1.ao:=G5 _ _
theorem RJ(s:So)(i:Int)(x:ByteArray):oX s.ao (jn s i x).1.ao:=UJ _ _ _
theorem N6(n:Nd)(s:So)(e:Int):(gy n s e).1.store.ao.ax=s.ao.ax:=by
 unfold gy
 exact az (p:=fun(x:Nd×Bool)=>x.1.store.ao.ax=s.ao.ax) rfl rfl
theorem Ld(n:Nd)(s:So)(e:Int):(gy n s e).1.store.ao.ar=s.ao.ar:=by
 unfold gy
 exact az (p:=fun(x:Nd×Bool)=>x.1.store.ao.ar=s.ao.ar) rfl rfl
def Et(ae block:Int):Pk:=⟨ae,0,fQ,block,⟨#[]⟩⟩
def CF(ae block:Int)(x:ByteArray):Pk:=⟨ae,0,fQ,block,x⟩
def gj(n:Nd)(block:Int):Nd×Bool:=gy n (mZ n.store block).1 (mZ n.store block).2
def im(n:Nd)(block:Int)(x:ByteArray):Nd×Bool:=
 bif !(gj n block).2 then((gj n block).1,false) else
 gy (gj n block).1 (jn (gj n block).1.store block x).1 (jn (gj n block).1.store block x).2
def bi(n:Nd)(block:Int):Nd×Bool:=gy n (jm n.store block).1 (jm n.store block).2
def iR(n:Nd)(block:Int):Nd×List Ou:=
 bif !n.bL.on||!(n.bL.block==block) then(n,[]) else
 bif !(bi {n with bL:=iE} block).2 then((bi {n with bL:=iE} block).1,[ap n n.bL.id 0 ⟨#[]⟩]) else
 ((bi {n with bL:=iE} block).1,[ap n n.bL.id 0 ⟨#[]⟩,bE (bi {n with bL:=iE} block).1 (Et 4 block)])
def jt(n:Nd)(block:Int)(x:ByteArray):Nd×List Ou:=
 bif !(im n block x).2 then((im n block x).1,[]) else((im n block x).1,[bE (im n block x).1 (Et 3 block)])
def io(n:Nd)(block:Int):Nd:=bif n.bL.on&&n.bL.block==block then n else(bi n block).1
def Eu(n:Nd)(block:Int):List Ou:=[bE n (CF 6 block (aK n.store.ao block).1)]
def hZ(n:Nd):Su:={n.store.aj with v:=bP n.store.aj.v,cH:=n.aN}
def ju(n:Nd):Nd×List Ou:=
 bif !(aH n (hZ n)).2 then((aH n (hZ n)).1,[]) else
 ({(aH n (hZ n)).1 with ag:=2},[bE {(aH n (hZ n)).1 with ag:=2} (ud 9)])
def ji(n:Nd):He:=Gi n.store.aj n.aN n.store.cr
def jT(n:Nd)(bd:Int):Nd:={n with ag:=1,bd:=bd,bZ:=false}
def d7(n:Nd)(bd:Int):Nd×List Ou:=(jT n bd,[bE (jT n bd) ⟨1,0,ji (jT n bd),0,⟨#[]⟩⟩])
def b9(n:Nd)(h:He):Vd×BitVec 32:=
 bif n.id==1 then(aI h (ji n),uD (aI h (ji n)) h (ji n)) else(aI (ji n) h,uD (aI (ji n) h) (ji n) h)
abbrev Nd.csd(n:Nd)(ds:List (List C)):List C:=[ii n.id,bo n.up, .slice 1 (n.store.ao.ax.map eS), .slice 2 (n.store.ao.ar.map Wr.cs),ii n.store.ao.kU,bo n.store.ao.gN,
 ii n.store.aj.an,u n.store.aj.v.bH,u n.store.aj.v.i4,u n.store.aj.v.o0,u n.store.aj.v.o1,bo n.store.aj.bp,bo n.store.aj.cH,bo n.store.aj.dg,w4 (mi n.store.cr),
 bo n.aN,ii n.ag,u n.bd,ii n.eQ.an,u n.eQ.v.bH,u n.eQ.v.i4,u n.eQ.v.o0,u n.eQ.v.o1,bo n.eQ.bp,bo n.eQ.sN,bo n.eQ.dg,bo n.eQ.cH,w4 (mi n.eQ.cr),bo n.cU,
 bo n.bL.on,ii n.bL.id,ii n.bL.block,st n.bL.data,bo n.cb,ii n.bM,ii n.wanted,bo n.bZ, .slice 1 ds, .slice 3 (n.bh.map Mi.cs)]
def UK(n:Nd)(r:List Int):Nd:={n with aQ:=r}
def nO(n:Nd)(g:Int)(r:List Int):Nd:={n with aQ:=r,bh:=n.bh++[⟨g,n.store.aj.v.bH,n.id⟩]}
def pI(n:Nd)(g:Int):Su:={n.store.aj with v:=fK n.store.aj.v g}
def jo(n:Nd)(g:Int)(r:List Int):Nd×Int:=
 bif g==0 then(UK n r,14) else
 bif !(aH (nO n g r) (pI n g)).2 then((aH (nO n g r) (pI n g)).1,6) else({(aH (nO n g r) (pI n g)).1 with bZ:=true},0)
def a9(n:Nd):Nd×Int:=match n.aQ with
 |[]=>(n,14)
 |g::r=>jo n g r
def iS(n:Nd):List Ou:=bif n.cb then[ap n n.bM 13 ⟨#[]⟩] else[]
def ei(n:Nd):Nd:=⟨n.id,n.up,n.store,n.aN,0,0,fQ,false,iE,false,0,0,false,n.aQ,n.bh⟩
def aF(n:Nd):Nd×List Ou:=
 bif n.ag==0 then(n,[]) else bif !n.bL.on then(ei n,iS n) else
 bif (a9 (ei n)).2==6 then((a9 (ei n)).1,iS n) else
 ((a9 (ei n)).1,iS n++[ap (a9 (ei n)).1 n.bL.id (a9 (ei n)).2 ⟨#[]⟩])
def dk(n:Nd)(block:Int)(x:ByteArray):Int:=
 bif !n.up then 7 else bif !n.aN then 8 else bif decide (block<0)||decide (block>=n.store.aj.an) then 4 else
 bif !((x.size:Int)==8) then 5 else bif n.bL.on||n.ag==1 then 11 else 0
def dL(n:Nd)(id block:Int)(x:ByteArray):Nd×List Ou:=
 bif !(im n block x).2 then((im n block x).1,[]) else
 bif (im n block x).1.ag==0 then((im n block x).1,[ap (im n block x).1 id 0 ⟨#[]⟩]) else
 ({(im n block x).1 with bL:=⟨true,id,block,x⟩},[bE {(im n block x).1 with bL:=⟨true,id,block,x⟩} (CF 2 block x)])
def cD(n:Nd)(id block:Int)(x:ByteArray):Nd×List Ou:=
 bif !(dk n block x==0) then(n,[ap n id (dk n block x) ⟨#[]⟩]) else
 bif n.ag==0&&!n.bZ then
  (bif (a9 n).2==6 then((a9 n).1,[]) else bif !((a9 n).2==0) then((a9 n).1,[ap (a9 n).1 id (a9 n).2 ⟨#[]⟩]) else dL (a9 n).1 id block x)
 else dL n id block x
def n9(n:Nd):Su:=⟨n.store.aj.an,bP n.eQ.v,false,false,false⟩
def fZ(n:Nd):Nd×List Ou:=
 bif !n.store.aj.bp||!(n.wanted==0) then(n,[]) else
 bif (n7 n.store.cr 0).isSome then
  ({n with wanted:=wrap .i64 ((n7 n.store.cr 0).getD 0+1)},[bE {n with wanted:=wrap .i64 ((n7 n.store.cr 0).getD 0+1)} (Et 5 ((n7 n.store.cr 0).getD 0))]) else
 bif !(aH n (n9 n)).2 then((aH n (n9 n)).1,[]) else((aH n (n9 n)).1,[bE (aH n (n9 n)).1 (ud 8)])
def bO(n:Nd)(p:Pk):Bool:=
 bif !n.up||decide (p.ae>=2)&&decide (p.ae<=7)&&decide (p.block>=n.store.aj.an) then false else
 bif p.ae==1 then n.ag==1 else
 bif p.ae==2 then !n.aN&&(n.ag==2||n.ag==4) else
 bif p.ae==3 then n.ag==2||n.ag==3 else
 bif p.ae==4 then n.ag==2||n.ag==4 else
 bif p.ae==5||p.ae==7||p.ae==8 then n.ag==3 else
 bif p.ae==6 then n.ag==4 else
 bif p.ae==9 then n.ag==4&&!n.store.aj.bp else
 bif p.ae==10||p.ae==13 then n.ag==2||n.ag==3||n.ag==4 else
 bif p.ae==11||p.ae==12 then n.cb&&(n.ag==2||n.ag==3||n.ag==4) else false
abbrev kY(n:Nd):Nd:={Prod.fst (aH n ({So.aj n.store with cH:=false}:Su)) with aN:=false}
abbrev kC(n:Nd):Nd:=Nd.mk n.id n.up n.store n.aN 0 0 fG false zw false 0 0 false n.aQ n.bh
abbrev lL(c d:Cl)(e:bg)(l:List Ou):List C:=Cl.cs c++(Cl.cs d++(bg.cs e++[C.slice 5 (List.map Ou.cs l)]))
abbrev sS(l:List ByteArray):C:=C.slice 1 (List.map eS l)
abbrev sI(l:List Int):C:=C.slice 1 (List.map eI l)
abbrev sB(l:List Bool):C:=C.slice 1 (List.map eB l)
abbrev sW(l:List Wr):C:=C.slice 2 (List.map Wr.cs l)
abbrev sO(l:List Ou):C:=C.slice 5 (List.map Ou.cs l)
abbrev sE(l:List bg):C:=C.slice 7 (List.map bg.cs l)
abbrev rO(l:List Ou):au:=au.top 5 (List.map Ou.cs l)
abbrev vF:V:=V.c (bo false)
abbrev vE:V:=V.cX 1 [] Tk.exact
abbrev gL(i n:Nat):Bool:=decide ((i:Int)<(n:Int))
theorem cP(r:Wy gs Q):Wy (G.at 0::gs) ((0:Int)=0/\Q):=ep (rz 0) (eg (G.at 0) r)
theorem cQ(r:Wy gs Q):Wy (G.at 1::gs) ((1:Int)=1/\Q):=ep (rz 1) (eg (G.at 1) r)
theorem zA(n:Nd)(b:Su):oX n.store.ao (aH n b).1.store.ao:=by
 unfold aH
 exact az (p:=fun(x:Nd×Bool)=>oX n.store.ao x.1.store.ao) (BN _ _) (BN _ _)
theorem G6(n:Nd):oX n.store.ao (a9 n).1.store.ao:=by
 unfold a9
 cases n.aQ with
 |nil=>exact oX.refl _
 |cons g r=>
  show oX n.store.ao (jo n g r).1.store.ao
  unfold jo
  refine az (p:=fun(x:Nd×Int)=>oX n.store.ao x.1.store.ao) (oX.refl _) ?_
  have:=zA (nO n g r) (pI n g)
  exact az (p:=fun(x:Nd×Int)=>oX n.store.ao x.1.store.ao) this this
theorem x8(n:Nd)(s:So)(e:Int)(h:oX n.store.ao s.ao):oX n.store.ao (gy n s e).1.store.ao:=by
 unfold gy
 exact az (p:=fun(x:Nd×Bool)=>oX n.store.ao x.1.store.ao) h h
theorem N7(n:Nd)(i:Int):oX n.store.ao (bi n i).1.store.ao:=x8 _ _ _ (RH _ _)
def eE(n:Nd)(block:Int)(x:ByteArray):Nd×Bool:=gy n (jn n.store block x).1 (jn n.store block x).2
def nP(n:Nd)(block:Int)(x:ByteArray):Nd:={(bi (eE n block x).1 block).1 with wanted:=0}
def nc(n:Nd)(block:Int)(x:ByteArray):Nd×List Ou:=
 bif !(n.wanted==wrap .i64 (block+1)) then(n,[]) else
 bif !(eE n block x).2 then((eE n block x).1,[]) else
 bif !(bi (eE n block x).1 block).2 then((bi (eE n block x).1 block).1,[]) else
 ((fZ (nP n block x)).1,[bE (nP n block x) (Et 7 block)]++(fZ (nP n block x)).2)
theorem UL(n:Nd)(i:Int)(x:ByteArray):oX n.store.ao (eE n i x).1.store.ao:=x8 _ _ _ (RJ _ _ _)
theorem cI(n:Nd):(fZ n).2.length<=10:=by
 unfold fZ
 refine az (p:=fun(x:Nd×List Ou)=>x.2.length<=10) (by simp) (az (p:=fun(x:Nd×List Ou)=>x.2.length<=10) (by simp) (az (p:=fun(x:Nd×List Ou)=>x.2.length<=10) (by simp) (by simp)))
def lM(n:Nd):Su:={n.store.aj with cH:=true}
def ed(n:Nd)(ae:Int):Nd×List Ou:=
 bif ae==10 then(bif n.aN||n.cb then(n,[bE n (ud 12)]) else({n with cU:=true},[bE {n with cU:=true} (ud 11)])) else
 bif ae==12 then({n with cb:=false,bM:=0},[ap {n with cb:=false,bM:=0} n.bM 12 ⟨#[]⟩]) else
 bif ae==13 then({n with cU:=false},[]) else
 bif !(aH n (lM n)).2 then((aH n (lM n)).1,[]) else
 ({(aH n (lM n)).1 with aN:=true,cb:=false,bM:=0},[ap {(aH n (lM n)).1 with aN:=true,cb:=false,bM:=0} n.bM 0 ⟨#[]⟩])
def e9(n:Nd):Ou:=⟨3,n.id,0,0,⟨#[]⟩⟩
def qG(n:Nd)(h:He)(st:Int):Nd:={n with ag:=st,cU:=h.cH,eQ:=h}
def p7(n:Nd)(h:He):Su:={n.store.aj with bp:=true,cH:=false,v:=zu n.store.aj.v h.v.bH}
def kv(n:Nd)(m:BitVec 32):Nd×Bool:=gy n (nN n.store m).1 (nN n.store m).2
theorem UM(n:Nd)(m:BitVec 32):oX n.store.ao (kv n m).1.store.ao:=x8 _ _ _ (RI _ _)
def lB(n:Nd)(h:He)(v:Vd)(m:BitVec 32):Nd×List Ou:=
 bif v.ae==4 then(n,[e9 n]) else
 bif v.ae==1 then(bif (aH n (hZ n)).2 then(qG (aH n (hZ n)).1 h 2,[]) else((aH n (hZ n)).1,[])) else
 bif !(kv n m).2 then((kv n m).1,[]) else
 bif v.iY==n.id then(qG (kv n m).1 h 3,[]) else
 bif !(aH (kv n m).1 (p7 n h)).2 then((aH (kv n m).1 (p7 n h)).1,[]) else
 fZ (qG (aH (kv n m).1 (p7 n h)).1 h 4)
def AY(n:Nd)(h:He):Nd×List Ou:=lB n h (b9 n h).1 (b9 n h).2
theorem Ew(d:Dk)(i:Int):(aK d i).1.size<=8:=by
 unfold aK
 refine az (p:=fun(x:ByteArray×Int)=>x.1.size<=8) (dh _) (az (p:=fun(x:ByteArray×Int)=>x.1.size<=8) (dh _) ?_)
 cases h:(((bR d (wrap .i64 (i+2))).1.size:Int)==8) with
 |false=>exact dh _
 |true=>
  have:=eq_of_beq h
  show(bR d (wrap .i64 (i+2))).1.size<=8
  omega
def jX(n:Nd)(p:Pk):Nd×List Ou:=
 bif p.ae==1 then AY n p.aw else
 bif p.ae==2 then jt n p.block p.data else
 bif p.ae==3 then iR n p.block else
 bif p.ae==4 then((bi n p.block).1,[]) else
 bif p.ae==5 then(n,Eu n p.block) else
 bif p.ae==6 then nc n p.block p.data else
 bif p.ae==7 then(io n p.block,[]) else
 bif p.ae==8 then ju n else
 bif p.ae==9 then({n with ag:=2},[]) else ed n p.ae
def bF(n:Nd)(b:ByteArray):Nd×List Ou:=
 bif !n.up||n.ag==0 then(n,[]) else
 bif (bw b n.bd).2==16 then(n,[]) else
 bif !((bw b n.bd).2==0)||!bO n (bw b n.bd).1 then(n,[e9 n]) else jX n (bw b n.bd).1
def zB(e:bg):Bool:=decide ((e.data.size:Int)>300)||decide ((e.aU.length:Int)>100)
def nQ(l:List bg)(yR:Int):Bool:=bif decide ((l.length:Int)>yR) then true else l.any zB
def b_(an g:Int):Su:=⟨an,⟨g,0,0,0⟩,false,false,false⟩
def dR(n:Nat)(g:Int):Dk:=⟨[(bV (b_ n g)).1,cA (ee (mi 0#32))]++List.replicate n ⟨#[0,0,0,0,0,0,0,0]⟩,[],0,false⟩
def fL(c:Cl)(i:Int):Nd:=bif i==0 then c.n0 else c.n1
def bB(c:Cl)(i:Int)(n:Nd):Cl:=bif i==0 then {c with n0:=n} else {c with n1:=n}
def Ey(c:Cl)(i:Int):Bool:=bif i==0 then c.w0 else c.w1
def bq(c:Cl)(i:Int)(w:Bool):Cl:=bif i==0 then {c with w0:=w} else {c with w1:=w}
def bS(n:Nd)(aU:List Bool):Nd×Int:=
 bif n.up then(n,7) else
 bif !((cd (ce n.store.ao aU)).2==0) then({n with store:={n.store with ao:=ce n.store.ao aU}},(cd (ce n.store.ao aU)).2) else
 (⟨n.id,true,(cd (ce n.store.ao aU)).1,false,0,0,fQ,false,iE,false,0,0,false,n.aQ,n.bh⟩,0)
def eD(n:Nd)(w:Bool):(Nd×Bool)×List Ou:=
 bif !n.up then((n,w),[]) else bif !(aF n).1.up then(((aF n).1,false),(aF n).2) else(((aF n).1,w),(aF n).2)
def f9(c:Cl):Cl×List Ou:=
 (⟨(eD c.n0 c.w0).1.1,(eD c.n1 c.w1).1.1,cO c.ai,(eD c.n0 c.w0).1.2,(eD c.n1 c.w1).1.2⟩,(eD c.n0 c.w0).2++(eD c.n1 c.w1).2)
def cw(i:Int)(k:Lk)(l:List Ou):Lk:=
 l.foldl (fun k o=>bif o.ae==1&&k.up then(dQ k (wrap .i64 (1-i)) [o.data]).1 else k) k
def a_(l:List Ou):List Ou:=l.filter fun o=>!(o.ae==1)
def d6(l:List Ou):Bool:=l.any fun o=>!(o.ae==1)&&o.ae==3
def cW(c:Cl)(i:Int)(n:Nd)(l:List Ou):Cl:=
 bif !n.up then bq {bB c i n with ai:=cw i c.ai l} i false else {bB c i n with ai:=cw i c.ai l}
def aW(c:Cl)(i:Int)(n:Nd)(l:List Ou):Cl×List Ou:=
 bif !(cW c i n l).ai.up||n.up&&!d6 l then(cW c i n l,a_ l) else
 bif d6 l then((f9 {cW c i n l with w0:=false,w1:=false}).1,a_ l++(f9 {cW c i n l with w0:=false,w1:=false}).2) else
 ((f9 (cW c i n l)).1,a_ l++(f9 (cW c i n l)).2)
def cZ(c:Cl):Cl×List Ou:=aW c 0 (d7 c.n0 c.ai.bd).1 (d7 c.n0 c.ai.bd).2
def gz(c:Cl):Cl×List Ou:=aW c 1 (d7 c.n1 c.ai.bd).1 (d7 c.n1 c.ai.bd).2
def ir(c:Cl)(i:Int):Cl×List Ou:=
 bif !(fL c i).up then(c,[]) else
 bif !Ey (bq c i true) (1-i)||!(fL c (1-i)).up||c.ai.up then(bq c i true,[]) else
 ((gz (cZ {bq c i true with ai:=fU c.ai}).1).1,
   (cZ {bq c i true with ai:=fU c.ai}).2++(gz (cZ {bq c i true with ai:=fU c.ai}).1).2)
def fd(n:Nd)(g:Int):Nd:=bif decide ((n.aQ.length:Int)<1000) then {n with aQ:=n.aQ++[g]} else n
def oz(c:Cl)(i:Int):Cl×List Ou:=
 bif !(ge c.ai i).2.2 then(c,[]) else
 aW {c with ai:=(ge c.ai i).2.1} i (bF (fL c i) (ge c.ai i).1).1 (bF (fL c i) (ge c.ai i).1).2
def x9(c:Cl):Cl×List Ou:=bif !c.ai.up then(c,[]) else f9 c
def iF(n:Nd)(k:Int):Nd:=bif n.up then {n with store:={n.store with ao:=UI n.store.ao (wrap .i64 (if 1000<k then 1000 else k))}} else n
def jv(c:Cl)(e:bg)(i:Int)(n:Nd):Cl×List Ou:=
 bif e.ae==1 then aW c i (cj n e.id).1 (cj n e.id).2 else
 bif e.ae==2 then aW c i (dN n e.id).1 (dN n e.id).2 else
 bif e.ae==3 then aW c i (dj n e.id).1 (dj n e.id).2 else
 bif e.ae==4 then aW c i (js n e.id e.block).1 (js n e.id e.block).2 else
 bif e.ae==5 then aW c i (cD n e.id e.block e.data).1 (cD n e.id e.block e.data).2 else
 bif e.ae==6 then ir c i else
 bif e.ae==7 then x9 (bq c i false) else
 bif e.ae==8 then x9 c else
 bif e.ae==9 then oz c i else
 bif e.ae==10 then(bif !n.up then(c,[]) else aW c i (dz n) []) else
 bif e.ae==11 then(bB c i (bS n e.aU).1,[ap (bS n e.aU).1 e.id (bS n e.aU).2 ⟨#[]⟩]) else
 bif e.ae==12 then aW c i (iF n e.n) [] else
 bif e.ae==13 then(bB c i (fd n e.n),[]) else
 bif e.ae==14 then(bif (bw e.data c.ai.bd).2==0 then(c,[]) else aW c i (bF n e.data).1 (bF n e.data).2) else(c,[])
def iI(c:Cl)(e:bg):Cl×List Ou:=bif !(e.node==0)&&!(e.node==1) then(c,[]) else jv c e e.node (fL c e.node)
def BO(c:Cl)(l:List bg):Cl×List Ou:=l.foldl (fun x e=>((iI x.1 e).1,x.2++(iI x.1 e).2)) (c,[])
def zC(j:Int)(s:Cl×List Ou×Bool)(x:Ou):Cl×List Ou×Bool:=
 bif x.ae==1 then(bif s.1.ai.up then({s.1 with ai:=(dQ s.1.ai j [x.data]).1},s.2) else s) else(s.1,s.2.1++[x],s.2.2||x.ae==3)
theorem x_(j:Int)(c:Cl)(cG:List Ou)(q:Bool)(x:Ou)(h1:(x.ae==1)=true)(h2:c.ai.up=true):zC j (c,cG,q) x=({c with ai:=(dQ c.ai j [x.data]).1},cG,q):=by
 unfold zC;rw[h1,bA];simp only[h2,bA]
theorem yb(j:Int)(c:Cl)(cG:List Ou)(q:Bool)(x:Ou)(h1:(x.ae==1)=true)(h2:c.ai.up=false):zC j (c,cG,q) x=(c,cG,q):=by
 unfold zC;rw[h1,bA];simp only[h2,aJ]
theorem yc(j:Int)(c:Cl)(cG:List Ou)(q:Bool)(x:Ou)(h1:(x.ae==1)=false):zC j (c,cG,q) x=(c,cG++[x],q||x.ae==3):=by
 unfold zC;rw[h1,aJ]
theorem Le(i j:Int)(hj:wrap .i64 (1-i)=j):∀(l:List Ou) (c:Cl) (cG:List Ou) (q:Bool),l.foldl (zC j) (c,cG,q)=({c with ai:=cw i c.ai l},cG++a_ l,q||d6 l)
 |[],c,cG,q=>by simp[cw,a_,d6]
 |x::l,c,cG,q=>by
  rw[jp]
  cases h1:x.ae==1 with
  |true=>
   cases h2:c.ai.up with
   |true=>
    rw[x_ j c cG q x h1 h2,Le i j hj l]
    simp[cw,a_,d6,h1,h2,hj]
   |false=>
    rw[yb j c cG q x h1 h2,Le i j hj l]
    simp[cw,a_,d6,h1,h2]
  |false=>
   rw[yc j c cG q x h1,Le i j hj l]
   simp[cw,a_,d6,h1,Bool.or_assoc]
def lf(i:Int)(c:Cl)(n:Nd)(cG:List Ou)(q:Bool):Cl×List Ou:=
 bif !c.ai.up||n.up&&!q then(bif !n.up then bq c i false else c,cG) else
 bif q then((f9 {c with w0:=false,w1:=false}).1,cG++(f9 {c with w0:=false,w1:=false}).2) else
 ((f9 (bif !n.up then bq c i false else c)).1,cG++(f9 (bif !n.up then bq c i false else c)).2)
theorem nR(c:Cl)(i:Int)(w:Bool):(bq c i w).ai=c.ai:=by unfold bq;cases i==0<;>rfl
theorem gA(c:Cl)(i:Int)(w:Bool):(bq c i w).n0=c.n0:=by unfold bq;cases i==0<;>rfl
theorem gB(c:Cl)(i:Int)(w:Bool):(bq c i w).n1=c.n1:=by unfold bq;cases i==0<;>rfl
theorem IU(c:Cl)(i:Int)(w:Bool):({bq c i w with w0:=false,w1:=false}:Cl)={c with w0:=false,w1:=false}:=by unfold bq;cases i==0<;>rfl
theorem G7(c:Cl)(i:Int)(n:Nd)(l:List Ou):lf i {bB c i n with ai:=cw i c.ai l} n (a_ l) (d6 l)=aW c i n l:=by
 unfold lf aW cW
 cases n.up with
 |true=>
  cases d6 l<;>cases h:(cw i c.ai l).up<;>simp[h]
 |false=>
  cases d6 l<;>cases h:(cw i c.ai l).up<;>simp[h,nR,IU,gA,gB]
theorem l7(c:Cl)(i:Int)(n:Nd):(bB c i n).ai=c.ai:=by unfold bB;cases i==0<;>rfl
theorem wC(l:Lk)(to:Int)(ps:List ByteArray):(dQ l to ps).1.lI.length<=l.lI.length+ps.length/\(dQ l to ps).1.lJ.length<=l.lJ.length+ps.length:=by
 unfold dQ
 cases !(to==0)&&!(to==1) with
 |true=>exact⟨pL _ _,pL _ _⟩
 |false=>
  cases l.up with
  |false=>exact⟨pL _ _,pL _ _⟩
  |true=>cases to==0<;>simp
theorem Ez(l:List Ou):(a_ l).length<=l.length:=List.length_filter_le _ _
structure Vl where
 ay:List ByteArray
 begun:List (List ByteArray)
 aB:List Int
 deriving Inhabited,DecidableEq
abbrev eL(l:List ByteArray):List C:=[.slice 1 (l.map eS)]
abbrev Vl.cs(v:Vl):List C:=[.slice 1 (v.ay.map eS), .slice 1 (v.begun.map eL), .slice 1 (v.aB.map eI)]
structure Mm where
 n0:Vl
 n1:Vl
 s0:Vl
 s1:Vl
 h0:Bool
 h1:Bool
 d0:Bool
 d1:Bool
 w0:Rq
 w1:Rq
 count:Int
 cg:Int
 deriving Inhabited,DecidableEq
abbrev Mm.cs(m:Mm):List C:=m.n0.cs++(m.n1.cs++(m.s0.cs++(m.s1.cs++([bo m.h0,bo m.h1,bo m.d0,bo m.d1]++(m.w0.cs++(m.w1.cs++[ii m.count,ii m.cg]))))))
def N8:Vl:=⟨[],[],[]⟩
def uJ(l:List ByteArray):Vl:=⟨l,List.replicate l.length [],List.replicate l.length 0⟩
def wX(c:Cl):Mm:=⟨uJ (ld c.n0.store.ao).1,uJ (ld c.n1.store.ao).1,N8,N8,false,false,false,false,iE,iE,0,0⟩
def j3(v:Vl)(b:Int):Bool:=decide (b>=0)&&decide (b<(v.ay.length:Int))
def gC(v:Vl)(b:Int)(x:ByteArray):Vl:=bif j3 v b then {v with begun:=v.begun.set b.toNat (v.begun.getD b.toNat []++[x])} else v
def pD(v:Vl)(r:Rq)(n:Int):Vl:=bif j3 v r.block then⟨v.ay.set r.block.toNat r.data,v.begun.set r.block.toNat [],v.aB.set r.block.toNat n⟩ else v
def bW(m:Mm)(c:Cl):Mm:=
 {m with s0:=bif c.n0.ag==1||c.n0.ag==4 then m.n1 else m.s0,s1:=bif c.n1.ag==1||c.n1.ag==4 then m.n0 else m.s1}
def dC(l:List Ou)(p:Int):Bool:=l.any fun o=>o.ae==2&&o.node==p&&!(o.j2==0)
def vof(m:Mm)(p:Int):Vl:=bif p==0 then m.n0 else m.n1
def wY(m:Mm)(p:Int)(v:Vl):Mm:=bif p==0 then {m with n0:=v} else {m with n1:=v}
def zD(m:Mm)(p:Int):Rq:=bif p==0 then m.w0 else m.w1
def p8(m:Mm)(p:Int)(r:Rq):Mm:=bif p==0 then {m with w0:=r} else {m with w1:=r}
def gg(m:Mm)(p:Int)(e:bg):Mm:=wY m p (gC (vof m p) e.block e.data)
def kL(m:Mm)(c:Cl)(e:bg):Mm:=bif c.ai.up then gg (gg m e.node e) (1-e.node) e else gg m e.node e
def bU(m:Mm)(c:Cl)(e:bg)(l:List Ou):Mm:=
 bif !(e.ae==5)||!(e.node==0)&&!(e.node==1)||dC l e.node then m else p8 (kL m c e) e.node ⟨true,e.id,e.block,e.data⟩
def mG(m:Mm)(p:Int)(r:Rq):Mm:=wY m p (pD (vof m p) r m.count)
def mH(m:Mm)(e:bg)(o:Ou):Bool:=o.ae==2&&o.j2==0&&!(e.ae==4)&&(zD m o.node).on&&(zD m o.node).id==o.id
def jb(m:Mm)(p:Int):Mm:={p8 m p iE with count:=wrap .i64 (m.count+1)}
def bG(e:bg)(m:Mm)(o:Ou):Mm:=
 bif !mH m e o then m else
 bif e.ae==9&&e.node==o.node then mG (mG (jb m o.node) o.node (zD m o.node)) (1-o.node) (zD m o.node) else mG (jb m o.node) o.node (zD m o.node)
def lN(v s:Vl):Bool:=(v.aB.zip s.aB).any fun x=>decide (x.1>x.2)
def jU(m:Mm)(b:Su):Mm:=
 bif b.bp then {m with h0:=true,d0:=b.dg} else bif m.h0 then
  {m with n0:=m.s0,h0:=false,d0:=b.dg,cg:=bif !m.d0&&lN m.n0 m.s0 then wrap .i64 (m.cg+1) else m.cg} else {m with d0:=b.dg}
def kM(m:Mm)(b:Su):Mm:=
 bif b.bp then {m with h1:=true,d1:=b.dg} else bif m.h1 then
  {m with n1:=m.s1,h1:=false,d1:=b.dg,cg:=bif !m.d1&&lN m.n1 m.s1 then wrap .i64 (m.cg+1) else m.cg} else {m with d1:=b.dg}
def e_(m:Mm)(n:Nd):Mm:=bif n.bL.on then m else {m with w0:=iE}
def fV(m:Mm)(n:Nd):Mm:=bif n.bL.on then m else {m with w1:=iE}
def oA(m:Mm)(n:Nd):Mm:=bif n.up then jU (e_ m n) n.store.aj else e_ m n
def qU(m:Mm)(n:Nd):Mm:=bif n.up then kM (fV m n) n.store.aj else fV m n
def kh(m:Mm)(c:Cl)(e:bg)(d:Cl)(l:List Ou):Mm:=
 qU (oA (l.foldl (bG e) (bU (bW m c) c e l)) d.n0) d.n1
def IV(v:Vl)(b:Nat)(x:ByteArray):Bool:=decide (b<v.ay.length)&&(x==v.ay.getD b ⟨#[]⟩||(v.begun.getD b []).contains x)
def xu(v:Vl)(n:Nd):Bool:=(List.range n.store.aj.an.toNat).all fun b=>(aK n.store.ao (b:Int)).2==0&&IV v b (aK n.store.ao (b:Int)).1
def IW(m:Mm)(c:Cl):Bool:=(!c.n0.up||c.n0.store.aj.bp||xu m.n0 c.n0)&&(!c.n1.up||c.n1.store.aj.bp||xu m.n1 c.n1)
abbrev sL(l:List (List ByteArray)):C:=C.slice 1 (List.map eL l)
def UN:List C->Option Wr
 |[.raw (.int .i64 s), .raw (.string d)]=>some ⟨s,d⟩
 |_=>none
def UO:List C->Option ByteArray
 |[.raw (.string d)]=>some d
 |_=>none
def IX(xs:List A)(ip:List (List C)):Option (List au×List (List C)):=
 match xs,ip with
 |[.agg [.slice 1 ss, .slice 2 ws, .raw (.int .i64 f), .raw (.bool d)], .c (.raw (.int .i64 i))],[]=>
  match ss.mapM UO,ws.mapM UN with
  |some sl,some wl=>if wl.length<=1000000 then some ([.c (st (bR ⟨sl,wl,f,d⟩ i).1), .c (ii (bR ⟨sl,wl,f,d⟩ i).2)],[]) else none
  |_,_=>none
 |_,_=>none
def zE(sz:Nat)(xs:List A)(ip:List (List C)):Option (List au×List (List C)):=
 match xs,ip with
 |[.c (.slice z es)],[]=>if(z=sz\/es=[])/\es.length<=1000000 then some ([.top sz es],[]) else none
 |_,_=>none
theorem P_:∀l:List ByteArray,(l.map eS).mapM UO=some l
 |[]=>rfl
 |x::l=>by rw[eY,fv,P_ l];rfl
theorem P':∀l:List Wr,(l.map Wr.cs).mapM UN=some l
 |[]=>rfl
 |x::l=>by rw[eY,fv,P' l];rfl
theorem YQ{e:List C}{m:ByteArray}(h:UO e=some m):e=eS m:=by
 unfold UO at h
 split at h
 ·cases h;rfl
 ·cases h
theorem YR{e:List C}{m:Wr}(h:UN e=some m):e=m.cs:=by
 unfold UN at h
 split at h
 ·cases h;rfl
 ·cases h
theorem EA{α:Type}{f:List C->Option α}{g:α->List C}(hg:∀e m,f e=some m->e=g m):∀{es:List (List C)} {l:List α},es.mapM f=some l->es=l.map g
 |[],l,h=>by simp at h;subst h;rfl
 |e::es,l,h=>by
  rw[fv] at h
  simp only[j5,j4,ig,av] at h
  obtain⟨y,h1,r,h2,rfl⟩:=h
  rw[hg _ _ h1,EA hg h2,eY]
theorem Lf(d:Dk)(i:Int):iD d i=((d.ar.reverse.find? fun w=>w.nW==i).map (·.data)).getD (d.ax.getD i.toNat ⟨#[]⟩):=by
 unfold iD
 generalize d.ax.getD i.toNat ⟨#[]⟩=s
 rw[<-List.foldr_reverse]
 induction d.ar.reverse with
 |nil=>rfl
 |cons w l ih=>
  rw[List.foldr_cons,List.find?_cons]
  cases h:w.nW==i with
  |true=>simp[h]
  |false=>simp only[h,aJ];exact ih
def IY(N:Nat)(d:Dk):Prop:=d.ax.length=N/\(∀s∈d.ax,s.size<=64)/\∀w∈d.ar,0<=w.nW/\w.nW.toNat<N/\w.data.size<=64
def Fw(a:Nat)(d e:Dk):Prop:=(∀N,IY N d->IY N e)/\e.ar.length<=d.ar.length+a
theorem Fw.refl(a:Nat)(d:Dk):Fw a d d:=⟨fun _ h=>h,pL _ _⟩
variable{a:Nat}{d:Dk}
theorem Fw.trans{b:Nat}{e f:Dk}(h:Fw a d e)(k:Fw b e f):Fw (a+b) d f:=⟨fun N x=>k.1 N (h.1 N x),by have:=h.2;have:=k.2;omega⟩
theorem Fw.le{b:Nat}{e:Dk}(h:Fw a d e)(hab:a<=b):Fw b d e:=⟨h.1,by have:=h.2;omega⟩
theorem Fw.of_eq{e:Dk}(h1:e.ax=d.ax)(h2:e.ar=d.ar):Fw a d e:=⟨fun N h=>by unfold IY at h ⊢;rw[h1,h2];exact h,by rw[h2];omega⟩
theorem IZ(d:Dk):Fw 0 d (cp d):=Fw.of_eq rfl rfl
theorem UP(d:Dk):Fw 0 d (Ep d):=Fw.of_eq rfl rfl
theorem N9(d:Dk)(n:Int):Fw 0 d (UI d n):=Fw.of_eq rfl rfl
theorem sQ(d:Dk)(i:Int)(x:ByteArray):Fw 1 d (bN d i x).1:=by
 refine⟨fun N h=> ?_,nM d i x⟩
 unfold bN
 cases d.gN with
 |true=>exact h
 |false=>
  cases hr:(decide (i<0)||decide (i>=(d.ax.length:Int))) with
  |true=>exact h
  |false=>
   cases hl:decide ((x.size:Int)>64) with
   |true=>exact h
   |false=>
    cases(cp d).gN with
    |true=>exact(IZ d).1 N h
    |false=>
     simp only[eh,H'] at hr hl
     refine⟨h.1,h.2.1,fun w hw=> ?_⟩
     have hw':w∈d.ar++[⟨i,x⟩]:=hw
     rcases df.1 hw' with hw|hw
     ·exact h.2.2 w hw
     ·simp only[nr] at hw
      subst hw
      have:=h.1
      exact⟨by show 0<=i;omega,by show i.toNat<N;omega,by show x.size<=64;omega⟩
variable{N:Nat}
theorem G8(h:IY N d)(i:Int):(iD d i).size<=64:=by
 unfold iD
 have key:∀(l:List Wr) (s:ByteArray),(∀w∈l,w.data.size<=64)->s.size<=64->(l.foldl (fun s w=>bif w.nW==i then w.data else s) s).size<=64:=by
  intro l
  induction l with
  |nil=>intro s _ hs;exact hs
  |cons w l ih=>
   intro s hl hs
   rw[jp]
   refine ih _ (fun w hw=>hl w (ch _ hw)) ?_
   cases w.nW==i with
   |true=>exact hl w (gQ ..)
   |false=>exact hs
 refine key _ _ (fun w hw=>(h.2.2 w hw).2.2) ?_
 rw[eX]
 cases hg:d.ax[i.toNat]? with
 |none=>exact dh _
 |some s=>exact h.2.1 s (jD hg)
theorem rD(h:IY N d)(i:Int):(bR d i).1.size<=64:=by
 unfold bR
 exact az (p:=fun(x:ByteArray×Int)=>x.1.size<=64) (dh _) (az (p:=fun(x:ByteArray×Int)=>x.1.size<=64) (dh _) (G8 h i))
theorem EB(d:Dk):Fw 0 d (hU d).1:=by
 unfold hU
 refine az (p:=fun(x:Dk×Int)=>Fw 0 d x.1) (Fw.refl _ _) (az (p:=fun(x:Dk×Int)=>Fw 0 d x.1) (IZ d) ?_)
 refine⟨fun N h=>⟨?_,fun s hs=> ?_,fun w hw=>by cases hw⟩,dh _⟩
 ·show(iW (cp d)).length=N
  rw[<-h.1]
  simp[iW,cp]
 ·have TI:s∈iW (cp d):=hs
  simp only[iW,tB] at TI
  obtain⟨i,_,rfl⟩:=TI
  exact G8 ((IZ d).1 N h) _
theorem wD(d:Dk)(aU:List Bool):Fw 0 d (ce d aU):=by
 refine⟨fun N h=> ?_,dh _⟩
 have key:∀(l:List (Wr×Bool)) (s:List ByteArray),(∀x∈l,x.1.data.size<=64)->(s.length=N/\∀y∈s,y.size<=64)->(l.foldl (fun s x=>bif x.2 then s.set x.1.nW.toNat x.1.data else s) s).length=N/\∀y∈l.foldl (fun s x=>bif x.2 then s.set x.1.nW.toNat x.1.data else s) s,y.size<=64:=by
  intro l
  induction l with
  |nil=>intro s _ hs;exact hs
  |cons x l ih=>
   intro s hl hs
   rw[jp]
   refine ih _ (fun w hw=>hl w (ch _ hw)) ?_
   cases x.2 with
   |false=>exact hs
   |true=>
    refine⟨by rw[bA,tz];exact hs.1,fun y hy=> ?_⟩
    rw[bA] at hy
    rcases H6 hy with hy|rfl
    ·exact hs.2 y hy
    ·exact hl x (gQ ..)
 obtain⟨k1,k2⟩:=key (d.ar.zip aU) d.ax (fun x hx=>(h.2.2 x.1 (List.of_mem_zip hx).1).2.2) ⟨h.1,h.2.1⟩
 exact⟨k1,k2,fun w hw=>by cases hw⟩
theorem EC(d:Dk)(s:Su):Fw 1 d (eG d s).1:=by
 unfold eG
 exact az (p:=fun(x:Dk×Int)=>Fw 1 d x.1) (Fw.refl _ d) (az (p:=fun(x:Dk×Int)=>Fw 1 d x.1) (sQ _ _ _) ((sQ _ _ _).trans (EB _)))
theorem CG(d:Dk)(m:BitVec 32):Fw 1 d (jk d m).1:=by
 unfold jk
 exact az (p:=fun(x:Dk×Int)=>Fw 1 d x.1) (Fw.refl _ d) (sQ _ _ _)
theorem Lg(d:Dk)(m:BitVec 32):Fw 1 d (me d m).1:=by
 unfold me
 exact az (p:=fun(x:Dk×Int)=>Fw 1 d x.1) (CG _ _) ((CG _ _).trans (EB _))
theorem YS(d:Dk)(i:Int)(x:ByteArray):Fw 1 d (nL d i x).1:=by
 unfold nL
 exact az (p:=fun(x:Dk×Int)=>Fw 1 d x.1) (Fw.refl _ d) (az (p:=fun(x:Dk×Int)=>Fw 1 d x.1) (Fw.refl _ d) (az (p:=fun(x:Dk×Int)=>Fw 1 d x.1) (sQ _ _ _) ((sQ _ _ _).trans (EB _))))
theorem N_(s:So)(b:Su):Fw 1 s.ao (dM s b).1.ao:=by
 unfold dM
 exact az (p:=fun(x:So×Int)=>Fw 1 s.ao x.1.ao) (Fw.refl _ _) (az (p:=fun(x:So×Int)=>Fw 1 s.ao x.1.ao) (EC _ _) (EC _ _))
theorem Lh(s:So)(m:BitVec 32):Fw 1 s.ao (n8 s m).1.ao:=by
 unfold n8
 exact az (p:=fun(x:So×Int)=>Fw 1 s.ao x.1.ao) (Fw.refl _ _) (az (p:=fun(x:So×Int)=>Fw 1 s.ao x.1.ao) (Lg _ _) (Lg _ _))
theorem UQ(s:So)(i:Int):Fw 1 s.ao (mZ s i).1.ao:=by
 unfold mZ
 exact az (p:=fun(x:So×Int)=>Fw 1 s.ao x.1.ao) (Fw.refl _ _) (Lh _ _)
theorem UR(s:So)(i:Int):Fw 1 s.ao (jm s i).1.ao:=by
 unfold jm
 exact az (p:=fun(x:So×Int)=>Fw 1 s.ao x.1.ao) (Fw.refl _ _) (az (p:=fun(x:So×Int)=>Fw 1 s.ao x.1.ao) (Fw.refl _ _) (az (p:=fun(x:So×Int)=>Fw 1 s.ao x.1.ao) (CG _ _) (CG _ _)))
def Nw(a:Nat)(n m:Nd):Prop:=Fw a n.store.ao m.store.ao/\m.aQ.length+m.bh.length<=n.aQ.length+n.bh.length/\m.id=n.id
theorem Nw.refl(a:Nat)(n:Nd):Nw a n n:=⟨Fw.refl _ _,aL _,rfl⟩
variable{n:Nd}
theorem Nw.trans{b:Nat}{m o:Nd}(h:Nw a n m)(k:Nw b m o):Nw (a+b) n o:=⟨h.1.trans k.1,aZ k.2.1 h.2.1,k.2.2.trans h.2.2⟩
theorem Nw.le{b:Nat}{m:Nd}(h:Nw a n m)(hab:a<=b):Nw b n m:=⟨h.1.le hab,h.2⟩
theorem Nw.same{m:Nd}(h1:m.store.ao=n.store.ao)(h2:m.aQ=n.aQ)(h3:m.bh=n.bh)(h4:m.id=n.id):Nw a n m:=⟨by rw[h1];exact Fw.refl _ _,by rw[h2,h3];exact aL _,h4⟩
theorem Nw.down{m:Nd}(h:Nw a n m):Nw a n (dz m):=⟨h.1.trans (UP _),h.2⟩
theorem vy(n:Nd)(s:So)(e:Int)(h:Fw a n.store.ao s.ao):Nw a n (gy n s e).1:=by
 unfold gy
 have h1:Nw a n {n with store:=s}:=⟨h,aL _,rfl⟩
 exact az (p:=fun(x:Nd×Bool)=>Nw a n x.1) h1.down h1
theorem jN(n:Nd)(b:Su):Nw 1 n (aH n b).1:=by
 unfold aH
 have h1:Nw 1 n {n with store:=(dM n.store b).1}:=⟨N_ _ _,aL _,rfl⟩
 exact az (p:=fun(x:Nd×Bool)=>Nw 1 n x.1) h1.down h1
theorem Li(n:Nd):Nw 1 n (a9 n).1:=by
 unfold a9
 cases hd:n.aQ with
 |nil=>exact Nw.refl _ _
 |cons g r=>
  show Nw 1 n (jo n g r).1
  unfold jo
  refine az (p:=fun(x:Nd×Int)=>Nw 1 n x.1) ⟨Fw.refl _ _,?_,rfl⟩ ?_
  ·show r.length+n.bh.length<=_
   rw[hd,cV];omega
  ·have h1:Nw 0 n (nO n g r):=⟨Fw.refl _ _,by show r.length+(n.bh++[_]).length<=_;rw[hd,iq,cV,cV,eO];omega,rfl⟩
   have h2:Nw 1 n (aH (nO n g r) (pI n g)).1:=(h1.trans (jN _ _)).le (by omega)
   exact az (p:=fun(x:Nd×Int)=>Nw 1 n x.1) h2 h2
theorem Lj(n:Nd)(i:Int):Nw 1 n (gj n i).1:=vy _ _ _ (UQ _ _)
theorem Ll(s:So)(i:Int)(x:ByteArray):Fw 1 s.ao (jn s i x).1.ao:=YS _ _ _
theorem Qa(n:Nd)(i:Int)(x:ByteArray):Nw 2 n (im n i x).1:=by
 unfold im
 exact az (p:=fun(x:Nd×Bool)=>Nw 2 n x.1) ((Lj n i).le (by omega)) ((Lj n i).trans (vy _ _ _ (Ll _ _ _)))
theorem wE(n:Nd)(i:Int):Nw 1 n (bi n i).1:=vy _ _ _ (UR _ _)
def bI(k:Nat)(l:List Ou):Prop:=l.length<=k/\∀o∈l,o.data.size<=64
theorem bI.nil(k:Nat):bI k []:=⟨dh _,by simp⟩
variable{k:Nat}{o:Ou}
theorem bI.one(h:o.data.size<=64):bI (k+1) [o]:=⟨by simp,by simpa using h⟩
theorem bI.two{p:Ou}(h:o.data.size<=64)(h2:p.data.size<=64):bI (k+2) [o,p]:=⟨by simp,by simpa using⟨h,h2⟩⟩
variable{j:Nat}{l:List Ou}
theorem bI.append{m:List Ou}(h:bI j l)(h2:bI k m):bI (j+k) (l++m):=⟨by rw[iq];have:=h.1;have:=h2.1;omega,fun o ho=>(df.1 ho).elim (h.2 o) (h2.2 o)⟩
theorem bI.le(h:bI j l)(hjk:j<=k):bI k l:=⟨aZ h.1 hjk,h.2⟩
theorem Oa(p:Pk):(jl p).1.size<=64:=by
 unfold jl
 cases hr:cN p with
 |false=>exact dh _
 |true=>
  show(cA (dy p)).size<=64
  rw[i_]
  unfold dy
  rw[mQ]
  have hd:p.data.size<=8:=by
   unfold cN at hr
   cases hh:iQ p.ae with
   |true=>simp[hh] at hr;omega
   |false=>simp[hh] at hr;rw[hr.2.2.2];decide
  have hh:(sa p).size<=48:=by
   unfold sa
   have:=xZ p.aw
   cases cT p.ae<;>cases p.ae==1<;>simp only[bA,aJ,mQ,cf,bC,cV,eO]<;>omega
  omega
theorem kj(n:Nd)(p:Pk):(bE n p).data.size<=64:=Oa _
theorem fH(n:Nd)(id e:Int):(ap n id e ⟨#[]⟩).data.size<=64:=dh _
def Ro(a:Nat)(n:Nd)(x:Nd×List Ou):Prop:=Nw a n x.1/\bI 3 x.2
theorem vz(n:Nd)(id:Int):Ro 3 n (cj n id):=by
 have hc:=(jN n {n.store.aj with cH:=true}).le (show 1<=3 by omega)
 unfold cj
 repeat' (first|exact⟨Nw.refl _ _,bI.one (fH _ _ _)⟩|with_reducible apply az (p:=Ro 3 n))
 ·exact⟨Nw.same rfl rfl rfl rfl,bI.one (kj _ _)⟩
 ·exact⟨hc,bI.nil _⟩
 ·exact⟨hc,bI.one (fH _ _ _)⟩
theorem ye(n:Nd)(id:Int):Ro 3 n (dN n id):=by
 have hc:=(jN n {n.store.aj with cH:=false}).le (show 1<=3 by omega)
 unfold dN
 repeat' (first|exact⟨Nw.refl _ _,bI.one (fH _ _ _)⟩|with_reducible apply az (p:=Ro 3 n))
 ·exact⟨hc,bI.nil _⟩
 ·exact⟨hc,bI.two (kj _ _) (fH _ _ _)⟩
 ·exact⟨hc,bI.one (fH _ _ _)⟩
theorem vA(n:Nd)(id:Int):Ro 3 n (dj n id):=by
 have hc:=(jN n {n.store.aj with dg:=true}).le (show 1<=3 by omega)
 unfold dj
 repeat' (first|exact⟨Nw.refl _ _,bI.one (fH _ _ _)⟩|with_reducible apply az (p:=Ro 3 n))
 ·exact⟨hc,bI.nil _⟩
 ·exact⟨hc,bI.one (fH _ _ _)⟩
theorem AZ(n:Nd)(id block:Int):Ro 3 n (js n id block):=by
 unfold js
 repeat' (first|exact⟨Nw.refl _ _,bI.one (fH _ _ _)⟩|with_reducible apply az (p:=Ro 3 n))
 exact⟨Nw.refl _ _,bI.one (aZ (Ew _ _) (by decide))⟩
theorem G9(n:Nd)(id block:Int)(x:ByteArray):Ro 2 n (dL n id block x):=by
 have hl:=Qa n block x
 unfold dL
 repeat' (with_reducible apply az (p:=Ro 2 n))
 ·exact⟨hl,bI.nil _⟩
 ·exact⟨hl,bI.one (fH _ _ _)⟩
 ·exact⟨hl,bI.one (kj _ _)⟩
theorem A0(n:Nd)(id block:Int)(x:ByteArray):Ro 3 n (cD n id block x):=by
 have hm:=Li n
 have h2:=G9 (a9 n).1 id block x
 have h3:=G9 n id block x
 unfold cD
 repeat' (first|exact⟨Nw.refl _ _,bI.one (fH _ _ _)⟩|with_reducible apply az (p:=Ro 3 n))
 ·exact⟨hm.le (by omega),bI.nil _⟩
 ·exact⟨hm.le (by omega),bI.one (fH _ _ _)⟩
 ·exact⟨(hm.trans h2.1).le (by omega),h2.2⟩
 ·exact⟨h3.1.le (by omega),h3.2⟩
theorem yf(n:Nd):bI 1 (iS n):=by
 unfold iS
 exact az (p:=bI 1) (bI.one (fH _ _ _)) (bI.nil _)
theorem Lm(a:Nat)(n:Nd):Nw a n (ei n):=Nw.same rfl rfl rfl rfl
theorem US(n:Nd):Ro 1 n (aF n):=by
 have hm:=((Lm 0 n).trans (Li (ei n))).le (show 0+1<=1 by omega)
 unfold aF
 repeat' (with_reducible apply az (p:=Ro 1 n))
 ·exact⟨Nw.refl _ _,bI.nil _⟩
 ·exact⟨Lm _ _,(yf n).le (by omega)⟩
 ·exact⟨hm,(yf n).le (by omega)⟩
 ·exact⟨hm,((yf n).append (bI.one (k:=0) (fH _ _ _))).le (by omega)⟩
theorem Ln(n:Nd):Nw 1 n (fZ n).1/\bI 1 (fZ n).2:=by
 have hc:=jN n (n9 n)
 unfold fZ
 repeat' (with_reducible apply az (p:=fun(x:Nd×List Ou)=>Nw 1 n x.1/\bI 1 x.2))
 ·exact⟨Nw.refl _ _,bI.nil _⟩
 ·exact⟨Nw.same rfl rfl rfl rfl,bI.one (kj _ _)⟩
 ·exact⟨hc,bI.nil _⟩
 ·exact⟨hc,bI.one (kj _ _)⟩
theorem RK(n:Nd)(b:Int):Ro 3 n (iR n b):=by
 have h0:Nw 0 n {n with bL:=iE}:=Nw.same rfl rfl rfl rfl
 have hc:=(h0.trans (wE {n with bL:=iE} b)).le (show 0+1<=3 by omega)
 unfold iR
 repeat' (with_reducible apply az (p:=Ro 3 n))
 ·exact⟨Nw.refl _ _,bI.nil _⟩
 ·exact⟨hc,bI.one (fH _ _ _)⟩
 ·exact⟨hc,bI.two (fH _ _ _) (kj _ _)⟩
theorem RL(n:Nd)(b:Int)(x:ByteArray):Ro 3 n (jt n b x):=by
 have hl:=(Qa n b x).le (show 2<=3 by omega)
 unfold jt
 exact az (p:=Ro 3 n) ⟨hl,bI.nil _⟩ ⟨hl,bI.one (kj _ _)⟩
theorem Ob(n:Nd)(b:Int):Nw 3 n (io n b):=by
 unfold io
 exact az (p:=Nw 3 n) (Nw.refl _ _) ((wE n b).le (by omega))
theorem YT(n:Nd)(b:Int)(x:ByteArray):Ro 3 n (nc n b x):=by
 have h1:Nw 1 n (eE n b x).1:=vy _ _ _ (Ll _ _ _)
 have h2:=h1.trans (wE (eE n b x).1 b)
 have h3:Nw 2 n (nP n b x):=h2.trans (b:=0) (Nw.same rfl rfl rfl rfl)
 have h4:=Ln (nP n b x)
 unfold nc
 repeat' (with_reducible apply az (p:=Ro 3 n))
 ·exact⟨Nw.refl _ _,bI.nil _⟩
 ·exact⟨h1.le (by omega),bI.nil _⟩
 ·exact⟨h2.le (by omega),bI.nil _⟩
 ·exact⟨(h3.trans h4.1).le (by omega),((bI.one (k:=0) (kj _ _)).append h4.2).le (by omega)⟩
theorem RM(n:Nd):Ro 3 n (ju n):=by
 have hc:=(jN n (hZ n)).le (show 1<=3 by omega)
 unfold ju
 exact az (p:=Ro 3 n) ⟨hc,bI.nil _⟩ ⟨hc,bI.one (kj _ _)⟩
theorem RN(n:Nd)(ae:Int):Ro 3 n (ed n ae):=by
 have hc:=(jN n (lM n)).le (show 1<=3 by omega)
 unfold ed
 repeat' (with_reducible apply az (p:=Ro 3 n))
 ·exact⟨Nw.refl _ _,bI.one (kj _ _)⟩
 ·exact⟨Nw.same rfl rfl rfl rfl,bI.one (kj _ _)⟩
 ·exact⟨Nw.same rfl rfl rfl rfl,bI.one (fH _ _ _)⟩
 ·exact⟨Nw.same rfl rfl rfl rfl,bI.nil _⟩
 ·exact⟨hc,bI.nil _⟩
 ·exact⟨hc,bI.one (fH _ _ _)⟩
theorem YU(n:Nd)(h:He):Ro 3 n (AY n h):=by
 have hj:Nw 1 n (kv n (b9 n h).2).1:=vy _ _ _ (Lh _ _)
 have hc:=(jN n (hZ n)).le (show 1<=3 by omega)
 have Kf:=hj.trans (jN (kv n (b9 n h).2).1 (p7 n h))
 have hs:Nw 2 n (qG (aH (kv n (b9 n h).2).1 (p7 n h)).1 h 4):=Kf.trans (b:=0) (Nw.same rfl rfl rfl rfl)
 have h4:=Ln (qG (aH (kv n (b9 n h).2).1 (p7 n h)).1 h 4)
 unfold AY lB
 repeat' (with_reducible apply az (p:=Ro 3 n))
 ·exact⟨Nw.refl _ _,bI.one (dh _)⟩
 ·exact⟨hc,bI.nil _⟩
 ·exact⟨hc,bI.nil _⟩
 ·exact⟨hj.le (by omega),bI.nil _⟩
 ·exact⟨hj.le (by omega),bI.nil _⟩
 ·exact⟨Kf.le (by omega),bI.nil _⟩
 ·exact⟨(hs.trans h4.1).le (by omega),h4.2.le (by omega)⟩
theorem UT(n:Nd)(p:Pk):Ro 3 n (jX n p):=by
 unfold jX
 repeat' (with_reducible apply az (p:=Ro 3 n))
 ·exact YU _ _
 ·exact RL _ _ _
 ·exact RK _ _
 ·exact⟨(wE _ _).le (by omega),bI.nil _⟩
 ·exact⟨Nw.refl _ _,bI.one (kj _ _)⟩
 ·exact YT _ _ _
 ·exact⟨Ob _ _,bI.nil _⟩
 ·exact RM _
 ·exact⟨Nw.same rfl rfl rfl rfl,bI.nil _⟩
 ·exact RN _ _
theorem m4(n:Nd)(b:ByteArray):Ro 3 n (bF n b):=by
 unfold bF
 repeat' (with_reducible apply az (p:=Ro 3 n))
 ·exact⟨Nw.refl _ _,bI.nil _⟩
 ·exact⟨Nw.refl _ _,bI.nil _⟩
 ·exact⟨Nw.refl _ _,bI.one (dh _)⟩
 ·exact UT _ _
theorem oB(n:Nd)(s:Int):Ro 0 n (d7 n s):=⟨Nw.same rfl rfl rfl rfl,bI.one (kj _ _)⟩
theorem Oc(d:Dk)(h:(cd d).2=0):(cd d).1.ao=d:=by
 unfold cd at h ⊢
 cases h1:(kf d).2==0 with
 |false=>rw[h1] at h;simp only[pa,bA] at h;simp[h] at h1
 |true=>
  cases h2:(jW d).2==0 with
  |false=>rw[h1,h2] at h;simp only[pa,fS,bA,aJ] at h;simp[h] at h2
  |true=>
   cases h3:(ld d).2==0 with
   |false=>rw[h1,h2,h3] at h;simp only[pa,fS,bA,aJ] at h;simp[h] at h3
   |true=>rfl
theorem vB(n:Nd)(ks:List Bool):Nw 0 n (bS n ks).1:=by
 unfold bS
 have hr:Nw 0 n {n with store:={n.store with ao:=ce n.store.ao ks}}:=⟨wD _ _,aL _,rfl⟩
 refine az (p:=fun(x:Nd×Int)=>Nw 0 n x.1) (Nw.refl _ _) ?_
 cases h:((cd (ce n.store.ao ks)).2==0) with
 |false=>exact hr
 |true=>
  have:=Oc _ (eq_of_beq h)
  refine⟨?_,aL _,rfl⟩
  show Fw 0 n.store.ao (cd (ce n.store.ao ks)).1.ao
  rw[this]
  exact wD _ _
def vC(N a m:Nat)(n:Nd):Prop:=IY N n.store.ao/\n.store.ao.ar.length<=a/\n.aQ.length+n.bh.length<=m
variable{m:Nat}
theorem vC.nw{b:Nat}{n':Nd}(h:vC N a m n)(k:Nw b n n'):vC N (a+b) m n':=⟨k.1.1 N h.1,by have:=k.1.2;have:=h.2.1;omega,aZ k.2.1 h.2.2⟩
theorem vC.le{a' m':Nat}(h:vC N a m n)(ha:a<=a')(hm:m<=m'):vC N a' m' n:=⟨h.1,aZ h.2.1 ha,aZ h.2.2 hm⟩
def FX(s:Nat)(l:Lk):Prop:=l.lI.length<=s/\l.lJ.length<=s/\(∀x∈l.lI,x.size<=64)/\∀x∈l.lJ,x.size<=64
variable{s:Nat}
theorem FX.le{t:Nat}{l:Lk}(h:FX s l)(sH:s<=t):FX t l:=⟨aZ h.1 sH,aZ h.2.1 sH,h.2.2⟩
theorem FX.none(s:Nat)(up:Bool)(bd:Int):FX s ⟨up,bd,[],[]⟩:=⟨dh _,dh _,by simp,by simp⟩
theorem YV{l:Lk}(h:FX s l)(to:Int){x:ByteArray}(hx:x.size<=64):FX (s+1) (dQ l to [x]).1:=by
 have h0:FX (s+1) l:=h.le (by omega)
 have app:∀{y:List ByteArray},(∀z∈y,z.size<=64)->∀z∈y++[x],z.size<=64:=fun hy z hz=>by
  rcases df.1 hz with hz|hz
  ·exact hy z hz
  ·simp only[nr] at hz;rw[hz];exact hx
 unfold dQ
 refine az (p:=fun(x:Lk×Int)=>FX (s+1) x.1) h0 (az (p:=fun(x:Lk×Int)=>FX (s+1) x.1) h0 (az (p:=fun(x:Lk×Int)=>FX (s+1) x.1) ?_ ?_))
 ·exact⟨by simp only[iq,cV,eO];have:=h.1;omega,h0.2.1,app h.2.2.1,h.2.2.2⟩
 ·exact⟨h0.1,by simp only[iq,cV,eO];have:=h.2.1;omega,h.2.2.1,app h.2.2.2⟩
theorem G_(i:Int):∀(l:List Ou) {s:Nat} {k:Lk},FX s k->(∀o∈l,o.data.size<=64)->FX (s+l.length) (cw i k l)
 |[],s,k,h,_=>h
 |o::l,s,k,h,ho=>by
  have h1:FX (s+1) (bif o.ae==1&&k.up then(dQ k (wrap .i64 (1-i)) [o.data]).1 else k):=by
   cases o.ae==1&&k.up with
   |true=>exact YV h _ (ho o (gQ ..))
   |false=>exact h.le (by omega)
  have:=G_ i l h1 (fun o ho'=>ho o (ch _ ho'))
  rw[cV,show s+(l.length+1)=s+1+l.length by omega]
  exact this
structure m5(N a m s:Nat)(c:Cl):Prop where
 n0:vC N a m c.n0
 n1:vC N a m c.n1
 ai:FX s c.ai
variable{c:Cl}
theorem m5.le{a' m' s':Nat}(h:m5 N a m s c)(ha:a<=a')(hm:m<=m')(hs:s<=s'):m5 N a' m' s' c:=⟨h.n0.le ha hm,h.n1.le ha hm,h.ai.le hs⟩
theorem Qb(w:Bool)(h:vC N a m n):vC N (a+1) m (eD n w).1.1/\bI 3 (eD n w).2:=by
 have hr:=US n
 unfold eD
 refine az (p:=fun(x:(Nd×Bool)×List Ou)=>vC N (a+1) m x.1.1/\bI 3 x.2) ⟨h.le (by omega) (aL _),bI.nil _⟩ (az (p:=fun(x:(Nd×Bool)×List Ou)=>vC N (a+1) m x.1.1/\bI 3 x.2) ?_ ?_)
 ·exact⟨h.nw hr.1,hr.2⟩
 ·exact⟨h.nw hr.1,hr.2⟩
theorem Od(h:m5 N a m s c):m5 N (a+1) m 0 (f9 c).1/\bI 6 (f9 c).2:=by
 have h0:=Qb c.w0 h.n0
 have h1:=Qb c.w1 h.n1
 exact⟨⟨h0.1,h1.1,FX.none _ _ _⟩,h0.2.append h1.2⟩
theorem A1(h:m5 N a m s c)(i:Int)(hn:vC N a m n):m5 N a m s (bB c i n):=by
 unfold bB
 exact az (p:=m5 N a m s) ⟨hn,h.n1,h.ai⟩ ⟨h.n0,hn,h.ai⟩
theorem qe(h:m5 N a m s c)(i:Int)(w:Bool):m5 N a m s (bq c i w):=by
 unfold bq
 exact az (p:=m5 N a m s) ⟨h.n0,h.n1,h.ai⟩ ⟨h.n0,h.n1,h.ai⟩
theorem Lp(h:m5 N a m s c)(i:Int):vC N a m (fL c i):=by
 unfold fL
 exact az (p:=vC N a m) h.n0 h.n1
theorem UU(h:bI k l):bI k (a_ l):=⟨aZ (Ez l) h.1,fun o ho=>h.2 o (List.mem_filter.1 ho).1⟩
theorem EF(h:m5 N a m s c)(i:Int)(hn:vC N a m n)(hl:bI 3 l):m5 N (a+1) m (s+3) (aW c i n l).1/\bI 9 (aW c i n l).2:=by
 have hp:=A1 h i hn
 have hk:m5 N a m (s+3) {bB c i n with ai:=cw i c.ai l}:=⟨hp.n0,hp.n1,(G_ i l h.ai hl.2).le (by have:=hl.1;omega)⟩
 have h1:m5 N a m (s+3) (cW c i n l):=by
  unfold cW
  exact az (p:=m5 N a m (s+3)) (qe hk i false) hk
 have h2:m5 N a m (s+3) {cW c i n l with w0:=false,w1:=false}:=⟨h1.n0,h1.n1,h1.ai⟩
 have e1:=Od h1
 have e2:=Od h2
 have hK:=UU hl
 unfold aW
 refine az (p:=fun(x:Cl×List Ou)=>m5 N (a+1) m (s+3) x.1/\bI 9 x.2) ⟨h1.le (by omega) (aL _) (aL _),hK.le (by omega)⟩ (az (p:=fun(x:Cl×List Ou)=>m5 N (a+1) m (s+3) x.1/\bI 9 x.2) ⟨e2.1.le (aL _) (aL _) (by omega),hK.append e2.2⟩ ⟨e1.1.le (aL _) (aL _) (by omega),hK.append e1.2⟩)
theorem qg(h:vC N a m n)(s:Int):vC N a m (d7 n s).1:=h.nw (b:=0) (oB n s).1
theorem EG(h:m5 N a m s c):m5 N (a+1) m (s+3) (cZ c).1/\bI 9 (cZ c).2:=EF h 0 (qg h.n0 _) (oB _ _).2
theorem EH(h:m5 N a m s c):m5 N (a+1) m (s+3) (gz c).1/\bI 9 (gz c).2:=EF h 1 (qg h.n1 _) (oB _ _).2
theorem I0(h:m5 N a m s c)(i:Int):m5 N a m 0 {bq c i true with ai:=fU c.ai}:=by
 have hw:=qe h i true
 exact⟨hw.n0,hw.n1,FX.none _ _ _⟩
theorem Oe(h:m5 N a m s c)(i:Int):m5 N (a+2) m (s+6) (ir c i).1/\bI 18 (ir c i).2:=by
 have hw:=qe h i true
 have ho:=I0 h i
 have b0:=EG ho
 have b1:=EH b0.1
 unfold ir
 refine az (p:=fun(x:Cl×List Ou)=>m5 N (a+2) m (s+6) x.1/\bI 18 x.2) ⟨h.le (by omega) (aL _) (by omega),bI.nil _⟩ (az (p:=fun(x:Cl×List Ou)=>m5 N (a+2) m (s+6) x.1/\bI 18 x.2) ⟨hw.le (by omega) (aL _) (by omega),bI.nil _⟩ ?_)
 exact⟨b1.1.le (aL _) (aL _) (by omega),b0.2.append b1.2⟩
theorem I1{l:Lk}(h:FX s l)(i:Int):FX s (ge l i).2.1/\(ge l i).1.size<=64:=by
 unfold ge
 refine az (p:=fun(x:ByteArray×Lk×Bool)=>FX s x.2.1/\x.1.size<=64) ?_ (az (p:=fun(x:ByteArray×Lk×Bool)=>FX s x.2.1/\x.1.size<=64) ?_ ⟨h,dh _⟩)
 ·cases ht:l.lI with
  |nil=>exact⟨h,dh _⟩
  |cons x r=>
   have h1:=h.1
   have h2:=h.2.2.1
   rw[ht] at h1 h2
   exact⟨⟨by simp at h1;show r.length<=s;omega,h.2.1,fun y hy=>h2 y (ch _ hy),h.2.2.2⟩,h2 x (gQ ..)⟩
 ·cases ht:l.lJ with
  |nil=>exact⟨h,dh _⟩
  |cons x r=>
   have h1:=h.2.1
   have h2:=h.2.2.2
   rw[ht] at h1 h2
   exact⟨⟨h.1,by simp at h1;show r.length<=s;omega,h.2.2.1,fun y hy=>h2 y (ch _ hy)⟩,h2 x (gQ ..)⟩
def X3(N a m s:Nat)(x:Cl×List Ou):Prop:=m5 N (a+4) (m+1) (s+6) x.1/\bI 18 x.2
theorem sR(h:m5 N a m s c):X3 N a m s (c,[]):=⟨h.le (by omega) (by omega) (by omega),bI.nil _⟩
theorem A2(h:m5 N a m s c)(i:Int)(hn:vC N (a+3) m n)(hl:bI 3 l):X3 N a m s (aW c i n l):=by
 have:=EF (h.le (show a<=a+3 by omega) (aL _) (aL _)) i hn hl
 exact⟨this.1.le (by omega) (by omega) (by omega),this.2.le (by omega)⟩
variable{x:Nd×List Ou}
theorem yg(h:m5 N a m s c)(i:Int)(hn:vC N a m n)(hr:Ro 3 n x):X3 N a m s (aW c i x.1 x.2):=A2 h i (hn.nw hr.1) hr.2
theorem UV(h:m5 N a m s c):X3 N a m s (x9 c):=by
 unfold x9
 have:=Od h
 exact az (p:=X3 N a m s) (sR h) ⟨this.1.le (by omega) (by omega) (by omega),this.2.le (by omega)⟩
theorem acw(h:m5 N a m s c)(e:bg)(i:Int)(hn:vC N a m n):X3 N a m s (jv c e i n):=by
 unfold jv
 repeat' (with_reducible apply az (p:=X3 N a m s))
 ·exact yg h i hn (vz _ _)
 ·exact yg h i hn (ye _ _)
 ·exact yg h i hn (vA _ _)
 ·exact yg h i hn (AZ _ _ _)
 ·exact yg h i hn (A0 _ _ _ _)
 ·have:=Oe h i
  exact⟨this.1.le (by omega) (by omega) (by omega),this.2⟩
 ·exact UV (qe h i false)
 ·exact UV h
 ·unfold oz
  have ht:=I1 h.ai i
  refine az (p:=X3 N a m s) (sR h) ?_
  exact yg (c:={c with ai:=(ge c.ai i).2.1}) ⟨h.n0,h.n1,ht.1⟩ i (Lp h i) (m4 _ _)
 ·exact sR h
 ·exact A2 h i (hn.nw (Nw.down (a:=3) (Nw.refl _ _))) (bI.nil _)
 ·have:=hn.nw (vB n e.aU)
  have hp:=A1 h i this
  exact⟨hp.le (by omega) (by omega) (by omega),bI.one (fH _ _ _)⟩
 ·refine A2 h i ?_ (bI.nil _)
  unfold iF
  refine az (p:=vC N (a+3) m) ?_ (hn.le (by omega) (aL _))
  exact hn.nw (b:=3) ⟨(N9 _ _).le (by omega),aL _,rfl⟩
 ·have hd:vC N a (m+1) (fd n e.n):=by
   unfold fd
   refine az (p:=vC N a (m+1)) ⟨hn.1,hn.2.1,?_⟩ (hn.le (aL _) (by omega))
   simp only[iq,cV,eO]
   have:=hn.2.2
   omega
  have hp:=A1 (h.le (aL _) (show m<=m+1 by omega) (aL _)) i hd
  exact⟨hp.le (by omega) (by omega) (by omega),bI.nil _⟩
 ·exact sR h
 ·exact yg h i hn (m4 _ _)
 ·exact sR h
theorem G'(h:m5 N a m s c)(e:bg):X3 N a m s (iI c e):=by
 unfold iI
 exact az (p:=X3 N a m s) (sR h) (acw h e _ (Lp h _))
theorem YW:∀(l:List bg) {a m s:Nat} {c:Cl},m5 N a m s c->m5 N (a+4*l.length) (m+l.length) (s+6*l.length) (BO c l).1
 |l,a,m,s,c,h=>by
  have key:∀(l:List bg) {a m s:Nat} (x:Cl×List Ou),m5 N a m s x.1->m5 N (a+4*l.length) (m+l.length) (s+6*l.length) (l.foldl (fun x e=>((iI x.1 e).1,x.2++(iI x.1 e).2)) x).1:=by
   intro l
   induction l with
   |nil=>intro a m s x h;exact h
   |cons e l ih=>
    intro a m s x h
    rw[jp]
    have:=ih ((iI x.1 e).1,x.2++(iI x.1 e).2) (G' h e).1
    rw[cV]
    exact this.le (by omega) (by omega) (by omega)
  exact key l (c,[]) h
structure Sp where
 m:Mm
 c:Cl
 d:Cl
 e:bg
 l:List Ou
abbrev Sp.cs(s:Sp):List C:=s.m.cs++(s.c.cs++(s.d.cs++(s.e.cs++[.slice 5 (s.l.map Ou.cs)])))
variable{v:Vl}
theorem Ha{b:Int}{x:ByteArray}(h:j3 v b=false):gC v b x=v:=by unfold gC;rw[h];rfl
theorem yj{b:Int}{i:Nat}{x:ByteArray}{y:List ByteArray}(h:j3 v b=true)(hb:b=(i:Int))(hy:v.begun[i]?=some y):gC v b x=⟨v.ay,v.begun.set i (y++[x]),v.aB⟩:=by
 unfold gC
 rw[h,hb]
 simp[eX,hy]
theorem Qc{r:Rq}{n:Int}(h:j3 v r.block=false):pD v r n=v:=by unfold pD;rw[h];rfl
theorem zF{r:Rq}{n:Int}{i:Nat}(h:j3 v r.block=true)(hb:r.block=(i:Int)):pD v r n=⟨v.ay.set i r.data,v.begun.set i [],v.aB.set i n⟩:=by
 unfold pD
 rw[h,hb]
 simp
def qH(x y:bg):Bool:=y.ae==13&&y.n==x.n
def RO(l:List bg)(i:Nat)(x:bg):Bool:=x.ae==13&&(x.n==0||(x.n==7||(l.take i).any (qH x)))
def sT(l:List bg)(i:Nat):Bool:=match l[i]? with|some x=>RO l i x|none=>false
def iZ(l:List bg):Bool:=!(List.range l.length).any (sT l)
abbrev bh(l:List Mi):List (List C):=l.map Mi.cs
def EI(l:List Mi)(g:Int):Int:=match l.find? (·.g==g) with|some x=>x.p|none=>0
def gI(f:Int->Int)(g:Int):Nat->Int
 |0=>g
 |i+1=>f (gI f g i)
def o_(f:Int->Int)(g:Int)(i:Nat):List Int:=(List.range i).map (gI f g)
def lO(f:Int->Int)(g:Int)(i:Nat):Bool:=gI f g i==0||(o_ f g i).contains (gI f g i)
def Lq(f:Int->Int)(g:Int)(B:Nat):Nat:=(List.range (B+1)).findIdx (lO f g)
def agF(f:Int->Int)(g:Int)(B:Nat):List Int:=o_ f g (Lq f g B)
theorem UW(f:Int->Int)(g:Int)(i:Nat):o_ f g (i+1)=o_ f g i++[gI f g i]:=by
 unfold o_;rw[qW];simp
theorem I2(f:Int->Int)(g:Int)(i:Nat):(o_ f g i).length=i:=by unfold o_;simp
theorem RP{l1:List Int}:∀{l2:List Int},l1.Nodup->(∀x∈l1,x∈l2)->l1.length<=l2.length:=by
 induction l1 with
 |nil=>intro l2 _ _;simp
 |cons a l1 ih=>
  intro l2 hn hs
  have ha:=hs a (by simp)
  have hn':=List.nodup_cons.1 hn
  have:=ih (l2:=l2.erase a) hn'.2 (fun x hx=>by
   have Ym:=hs x (by simp[hx])
   have jV:x≠a:=fun h=>hn'.1 (h▸hx)
   exact(List.mem_erase_of_ne jV).2 Ym)
  rw[List.length_erase_of_mem ha] at this
  have:0<l2.length:=List.length_pos_of_mem ha
  simp only[cV]
  omega
theorem Hb{f:Int->Int}{g:Int}:∀{i:Nat},(∀j,j<i->lO f g j=false)->(o_ f g i).Nodup
 |0,_=>by simp[o_]
 |i+1,h=>by
  rw[UW,List.nodup_append]
  have hs:=h i (by omega)
  unfold lO at hs
  simp only[eh] at hs
  refine⟨Hb (fun j hj=>h j (by omega)),by simp,fun a ha b hb=> ?_⟩
  simp at hb
  subst hb
  intro he
  subst he
  have:(o_ f g i).contains (gI f g i)=true:=by simpa using ha
  rw[this] at hs
  exact absurd hs.2 (by simp)
theorem RQ{f:Int->Int}{K:List Int}(hK:∀x,f x≠0->x∈K){B:Nat}(hB:K.length+1<=B)(g:Int):(List.range (B+1)).any (lO f g)=true:=by
 cases hb:(List.range (B+1)).any (lO f g) with
 |true=>rfl
 |false=>
  have lz:∀j,j<=B->lO f g j=false:=fun j hj=>by
   have:=lG.1 (qA hb) j (by simp;omega)
   simpa using this
  have hn:=Hb (f:=f) (g:=g) (i:=B) (fun j hj=>lz j (by omega))
  have hs:∀x∈o_ f g B,x∈K:=fun x hx=>by
   unfold o_ at hx
   simp at hx
   obtain⟨j,hj,rfl⟩:=hx
   apply hK
   intro h0
   have:=lz (j+1) (by omega)
   unfold lO at this
   simp only[eh] at this
   have h1:gI f g (j+1)=0:=h0
   rw[h1] at this
   exact absurd this.1 (by simp)
  have:=RP hn hs
  rw[I2] at this
  omega
theorem RR{f:Int->Int}{g:Int}{B:Nat}(h:(List.range (B+1)).any (lO f g)=true):Lq f g B<=B/\lO f g (Lq f g B)=true/\∀j,j<Lq f g B->lO f g j=false:=by
 have hl:=iz h
 have h1:Lq f g B<B+1:=by simpa[Lq] using hl
 refine⟨by omega,?_,fun j hj=> ?_⟩
 ·have:=H2 (w:=hl)
  simpa[Lq] using this
 ·have:=H7 (xs:=List.range (B+1)) (p:=lO f g) (i:=j) hj
  simpa using this
theorem UX(l:List Mi)(x:Int)(h:EI l x≠0):x∈l.map (·.g):=by
 unfold EI at h
 cases hf:l.find? (·.g==x) with
 |none=>rw[hf] at h;exact absurd rfl h
 |some y=>
  have h1:=H5 hf
  have h2:=List.find?_some hf
  rw[tB]
  exact⟨y,h1,by simpa using h2⟩
abbrev UY(l:List Mi):Nat:=l.length+1
abbrev RS(l:List Mi)(g:Int):Nat:=Lq (EI l) g (UY l)
def Qd(l:List Mi)(g:Int):List Int:=agF (EI l) g (UY l)
theorem Of(l:List Mi)(g:Int):RS l g<=l.length+1/\lO (EI l) g (RS l g)=true/\∀j,j<RS l g->lO (EI l) g j=false:=
 RR (RQ (K:=l.map (·.g)) (UX l) (by simp) g)
def Og(c:Cl):List Mi:=c.n0.bh++c.n1.bh
def BP(c:Cl)(i:Int):Int:=bif i==0 then c.n0.store.aj.v.bH else c.n1.store.aj.v.bH
def inL(l:List Mi)(yM g:Int):Bool:=(Qd l g).contains yM
def mz(c d:Cl):Int:=bif d.n0.ag==4&&!(c.n0.ag==4) then 0 else bif d.n1.ag==4&&!(c.n1.ag==4) then 1 else -1
def pE(c:Cl)(i:Int):Su:=bif i==0 then c.n0.store.aj else c.n1.store.aj
def EJ(c d:Cl):Bool:=
 bif decide (mz c d<0) then true else
 (c.n0.up&&c.n1.up)&&((pE c (mz c d)).bp||(pE c (mz c d)).dg||inL (Og c) (BP c (mz c d)) (BP c (1-mz c d)))
def jO(n:Int):Prop:=0<=n/\n<18446744073709551616
theorem wrap64{n:Int}(h:jO n):wrap .u64 n=n:=by
 unfold jO at h
 unfold wrap
 simp[IntKind.signed,IntKind.bits]
 omega
theorem EK(n:Int):jO (wrap .u64 n):=by
 unfold jO wrap
 simp[IntKind.signed,IntKind.bits]
 omega
theorem oY{n:Int}(h:0<=n/\n<256):wrap .u8 n=n:=by
 unfold wrap
 simp[IntKind.signed,IntKind.bits]
 omega
theorem iX{a b c d:ByteArray}(h:a++b=c++d)(hs:a.size=c.size):a=c/\b=d:=by
 have h2:a.data.toList++b.data.toList=c.data.toList++d.data.toList:=by
  have:=cu (fun x:ByteArray=>x.data.toList) h
  simpa using this
 have h3:=List.append_inj h2 (by simpa using hs)
 exact⟨De (Array.toList_inj.1 h3.1),De (Array.toList_inj.1 h3.2)⟩
theorem cE{a b c d:ByteArray}(h:a++b=c++d)(hs:b.size=d.size):a=c/\b=d:=by
 refine iX h ?_
 have:=cu ByteArray.size h
 simp only[mQ] at this
 omega
theorem nS{a b:Int}(ha:0<=a/\a<256)(hb:0<=b/\b<256)(h:dc [a]=dc [b]):a=b:=by
 have h2:UInt8.ofNat a.toNat=UInt8.ofNat b.toNat:=by
  have:=cu (fun x:ByteArray=>x.data.toList) h
  simpa[dc] using this
 have h3:=cu UInt8.toNat h2
 simp at h3
 omega
theorem A3(a b:Int):dc [a,b]=dc [a]++dc [b]:=by
 apply De
 simp[dc]
theorem EL:∀(k:Nat) {n m:Int} {s t:ByteArray},jO n->jO m->n<256 ^ k->m<256 ^ k->s.size=t.size->zt k n s=zt k m t->n=m/\s=t
 |0,n,m,s,t,hn,hm,h1,h2,_,h=>by
  unfold jO at hn hm
  simp at h1 h2
  exact⟨by omega,h⟩
 |k+1,n,m,s,t,hn,hm,h1,h2,hs,h=>by
  unfold jO at hn hm
  rw[zt,zt] at h
  rw[HT hn.1,HT hm.1,HU hn.1,HU hm.1,wrap64 (n:=n / 256) (by unfold jO;omega),wrap64 (n:=m / 256) (by unfold jO;omega),oY (n:=n % 256) (by omega),oY (n:=m % 256) (by omega)] at h
  rw[Dg] at h1 h2
  have ih:=EL k (n:=n / 256) (m:=m / 256) (by unfold jO;omega) (by unfold jO;omega) (by omega) (by omega) (by simp only[mQ,cf,cV,eO];omega) h
  have h3:=cE ih.2 hs
  have h4:=nS (by omega) (by omega) h3.1
  exact⟨by omega,h3.2⟩
theorem nT{n m:Int}(hn:jO n)(hm:jO m)(h:eR n=eR m):n=m:=
 (EL 8 hn hm (by have:=hn.2;omega) (by have:=hm.2;omega) rfl h).1
theorem UZ{n m:Int}(hn:0<=n/\n<4294967296)(hm:0<=m/\m<4294967296)(h:ee n=ee m):n=m:=by
 unfold ee at h
 rw[wrap64 (by unfold jO;omega),wrap64 (by unfold jO;omega)] at h
 exact(EL 4 (by unfold jO;omega) (by unfold jO;omega) (by omega) (by omega) rfl h).1
theorem zG{s t:ByteArray}(h:cA s=cA t):s=t:=
 (iX h (by have:=cu ByteArray.size h;rw[i_,i_] at this;omega)).1
theorem Hc{b:ByteArray}(h:(aa b).2=0):b=cA (aa b).1:=by
 unfold aa at h ⊢
 cases h1:decide ((b.size:Int)<4) with
 |true=>rw[h1] at h;simp at h
 |false=>
  rw[h1] at h
  cases h2:cA (b.extract 0 (b.size-4))==b with
  |false=>rw[h2] at h;simp at h
  |true=>exact(eq_of_beq h2).symm
def qh(v:Ve):Prop:=jO v.bH/\jO v.i4/\jO v.o0/\jO v.o1
theorem I3(l:List UInt8):jO (gO l):=by
 unfold gO
 have key:∀(l:List UInt8) (n:Int),jO n->jO (l.foldl (fun n b=>wrap .u64 (wrap .u64 (n*256)+wrap .u64 (b.toNat:Int))) n):=by
  intro l
  induction l with
  |nil=>intro n h;exact h
  |cons x l ih=>intro n _;rw[jp];exact ih _ (EK _)
 exact key l 0 ⟨by omega,by omega⟩
theorem rE(t:ByteArray)(i:Nat):jO (cB t i):=I3 _
theorem fl3{a c d e f:Bool}(h:fl a 1+fl b 2+fl c 4=fl d 1+fl e 2+fl f 4):a=d/\b=e/\c=f:=by
 revert a b c d e f;decide
theorem Qe(a b c:Bool):0<=fl a 1+fl b 2+fl c 4/\fl a 1+fl b 2+fl c 4<256:=by
 revert a b c;decide
theorem fl4{a c d e f g i:Bool}(h:fl a 1+fl b 2+fl c 4+fl g 8=fl d 1+fl e 2+fl f 4+fl i 8):a=d/\b=e/\c=f/\g=i:=by
 revert a b c d e f g i;decide
theorem abf(a b c d:Bool):0<=fl a 1+fl b 2+fl c 4+fl d 8/\fl a 1+fl b 2+fl c 4+fl d 8<256:=by
 revert a b c d;decide
theorem sU{s:Su}(h:dI s=true):1<=s.an/\s.an<=32/\s.v.bH≠0:=by
 unfold dI at h
 simpa[and_assoc] using h
theorem Lr{s t:Su}(hs:dI s=true)(ht:dI t=true)(vs:qh s.v)(vt:qh t.v)(h:dD s=dD t):s=t:=by
 obtain⟨sb,⟨s1,s2,s3,s4⟩,s5,s6,s7⟩:=s
 obtain⟨tb,⟨t1,t2,t3,t4⟩,t5,t6,t7⟩:=t
 have hs:=sU hs
 have ht:=sU ht
 simp only at hs ht
 unfold dD at h
 have p4:=cE h (by rw[bC,bC])
 have p3:=cE p4.1 (by rw[bC,bC])
 have p2:=cE p3.1 (by rw[bC,bC])
 have p1:=cE p2.1 (by rw[bC,bC])
 have p0:=(cE p1.1 (by rw[cf,cf];rfl)).2
 rw[A3,A3] at p0
 have q:=cE p0 (by rw[cf,cf];rfl)
 rw[oY (n:=sb) (by omega),oY (n:=tb) (by omega)] at q
 have qb:=nS (by omega) (by omega) q.1
 have qf:=fl3 (nS (Qe _ _ _) (Qe _ _ _) q.2)
 have e1:=nT vs.1 vt.1 p1.2
 have e2:=nT vs.2.1 vt.2.1 p2.2
 have e3:=nT vs.2.2.1 vt.2.2.1 p3.2
 have e4:=nT vs.2.2.2 vt.2.2.2 p4.2
 simp only at e1 e2 e3 e4
 obtain⟨rfl,rfl,rfl⟩:=qf
 subst qb e1 e2 e3 e4
 rfl
theorem uf{b:ByteArray}(h:(fC b).2=0):dI (fC b).1=true/\qh (fC b).1.v/\b=cA (dD (fC b).1):=by
 unfold fC at h ⊢
 cases h1:!((aa b).2==0) with
 |true=>
  rw[h1] at h
  exfalso
  have:(aa b).2=0:=h
  rw[this] at h1
  exact absurd h1 (by decide)
 |false=>
  rw[h1] at h
  have h0:(aa b).2=0:=by simpa using h1
  cases h2:(!(((aa b).1.size:Int)==37)||decide (((aq (aa b).1 4).toNat:Int)>7)) with
  |true=>rw[h2] at h;simp at h
  |false=>
   rw[h2] at h
   cases h3:(!dI (Gg (aa b).1)||!(dD (Gg (aa b).1)==(aa b).1)) with
   |true=>rw[h3] at h;simp at h
   |false=>
    simp only[eh,ni] at h3
    simp only[aJ]
    exact⟨h3.1,⟨rE _ _,rE _ _,rE _ _,rE _ _⟩,by rw[eq_of_beq h3.2];exact Hc h0⟩
theorem RT{s:Su}(hs:dI s=true)(vs:qh s.v)(h:(fC (bV s).1).2=0):(fC (bV s).1).1=s:=by
 have h1:=uf h
 have h2:(bV s).1=cA (dD s):=by unfold bV;rw[hs];rfl
 have h3:=h1.2.2
 rw[h2] at h3
 have h4:=zG h3
 rw[<-h2] at h4
 exact(Lr hs h1.1 vs h1.2.1 h4).symm
theorem wF{s:He}(h:eZ s=true):1<=s.an/\s.an<=32/\s.v.bH≠0:=by
 unfold eZ at h
 simp[and_assoc] at h
 exact⟨h.1,h.2.1,h.2.2.1⟩
theorem Lt{s t:He}(hs:eZ s=true)(ht:eZ t=true)(vs:qh s.v)(vt:qh t.v)(h:d_ s=d_ t):s=t:=by
 obtain⟨sb,⟨s1,s2,s3,s4⟩,s5,s6,s7,s8,s9⟩:=s
 obtain⟨tb,⟨t1,t2,t3,t4⟩,t5,t6,t7,t8,t9⟩:=t
 have hs:=wF hs
 have ht:=wF ht
 simp only at hs ht
 unfold d_ at h
 have p5:=cE h (by rw[mY,mY])
 have p4:=cE p5.1 (by rw[bC,bC])
 have p3:=cE p4.1 (by rw[bC,bC])
 have p2:=cE p3.1 (by rw[bC,bC])
 have p1:=cE p2.1 (by rw[bC,bC])
 have p0:=p1.1
 rw[A3,A3] at p0
 have q:=cE p0 (by rw[cf,cf];rfl)
 rw[oY (n:=sb) (by omega),oY (n:=tb) (by omega)] at q
 have qb:=nS (by omega) (by omega) q.1
 have qf:=fl4 (nS (abf _ _ _ _) (abf _ _ _ _) q.2)
 have e1:=nT vs.1 vt.1 p1.2
 have e2:=nT vs.2.1 vt.2.1 p2.2
 have e3:=nT vs.2.2.1 vt.2.2.1 p3.2
 have e4:=nT vs.2.2.2 vt.2.2.2 p4.2
 have e5:=UD (UZ (qC _) (qC _) p5.2)
 simp only at e1 e2 e3 e4 e5
 obtain⟨rfl,rfl,rfl,rfl⟩:=qf
 subst qb e1 e2 e3 e4 e5
 rfl
theorem YX(b:ByteArray):qh (jL b).1.v:=by
 unfold jL
 have z:qh fQ.v:=by unfold qh jO fQ;simp
 cases(!((b.size:Int)==38)||decide (((aq b 1).toNat:Int)>15)) with
 |true=>exact z
 |false=>
  cases !eZ (N5 b) with
  |true=>exact z
  |false=>exact⟨rE _ _,rE _ _,rE _ _,rE _ _⟩
theorem EM{p:α->Prop}(b:Bool){x y:α}(hx:p x)(hy:p y):p (bif b then x else y):=by
 cases b
 ·exact hy
 ·exact hx
theorem EN{k:Int}(h:cT k=true):(k==1)=false:=by
 unfold cT at h
 simp at h
 simp
 omega
def lP(p:Pk):ByteArray:=bif cT p.ae then dc [wrap .u8 p.block]++p.data else bif p.ae==1 then(mF p.aw).1++p.data else p.data
theorem mI(p:Pk):dy p=(dc [wrap .u8 p.ae]++eR p.bd)++lP p:=by
 unfold dy sa lP
 cases h:cT p.ae with
 |true=>rw[EN h];simp only[bA,aJ];rw[qn]
 |false=>
  cases h1:p.ae==1 with
  |true=>simp only[bA,aJ];rw[qn]
  |false=>rfl
structure PkR(p:Pk):Prop where
 ae:1<=p.ae/\p.ae<=13
 aw:p.ae=1->eZ p.aw=true
 none:p.ae≠1->p.aw=fQ
 block:0<=p.block/\p.block<=31
 zero:cT p.ae=false->p.block=0
 data:iQ p.ae=true->p.data.size=8
 acx:iQ p.ae=false->p.data=⟨#[]⟩
variable{p:Pk}
theorem sV(h:cN p=true):PkR p:=by
 unfold cN at h
 cases h1:(decide (p.ae<1)||decide (p.ae>13)) with
 |true=>rw[h1] at h;simp at h
 |false=>
  rw[h1] at h
  cases h2:(p.ae==1&&!eZ p.aw||!(p.ae==1)&&!ja p.aw) with
  |true=>rw[h2] at h;simp at h
  |false=>
   rw[h2] at h
   cases h3:(decide (p.block<0)||decide (p.block>31)||!cT p.ae&&!(p.block==0)) with
   |true=>rw[h3] at h;simp at h
   |false=>
    rw[h3] at h
    simp only[aJ] at h
    simp at h1 h2 h3
    refine⟨by omega,h2.1,fun hk=>(Er _).1 (h2.2 hk),by omega,h3.2,fun hd=> ?_,fun hd=> ?_⟩
    ·rw[hd] at h;simp at h;omega
    ·rw[hd] at h;simpa using h
theorem Lu{q:Pk}(hp:PkR p)(hq:PkR q)(sp:jO p.bd)(sq:jO q.bd)(vp:qh p.aw.v)(vq:qh q.aw.v)(h:dy p=dy q):p=q:=by
 rw[mI,mI] at h
 have h1:=iX h (by simp only[mQ,cf,bC];rfl)
 have h2:=iX h1.1 (by simp only[cf];rfl)
 have b1:=hp.ae
 have b2:=hq.ae
 rw[oY (by omega),oY (by omega)] at h2
 have hk:=nS (by omega) (by omega) h2.1
 have hs:=nT sp sq h2.2
 have ht:=h1.2
 unfold lP at ht
 rw[<-hk] at ht
 have uB:p.aw=q.aw->p.block=q.block->p.data=q.data->p=q:=by
  obtain⟨a,b,c,d,e⟩:=p
  obtain⟨a',b',c',d',e'⟩:=q
  simp only at hk hs
  intro x y z
  simp only at x y z
  subst hk hs x y z
  rfl
 cases hb:cT p.ae with
 |true=>
  rw[hb] at ht
  simp only[bA] at ht
  have jV:p.ae≠1:=by have:=EN hb;simpa using this
  have h3:=iX ht (by simp only[cf];rfl)
  have c1:=hp.block
  have c2:=hq.block
  rw[oY (by omega),oY (by omega)] at h3
  exact uB (by rw[hp.none jV,hq.none (hk▸jV)]) (nS (by omega) (by omega) h3.1) h3.2
 |false=>
  rw[hb] at ht
  simp only[aJ] at ht
  have z1:=hp.zero hb
  have z2:=hq.zero (hk▸hb)
  by_cases h4:p.ae=1
  ·have h5:(p.ae==1)=true:=by simpa using h4
   rw[h5] at ht
   simp only[bA] at ht
   have d1:=hp.acx (by rw[h4];rfl)
   have d2:=hq.acx (by rw[<-hk,h4];rfl)
   have r1:=hp.aw h4
   have r2:=hq.aw (hk▸h4)
   have e1:(mF p.aw).1=d_ p.aw:=by unfold mF;rw[r1];rfl
   have e2:(mF q.aw).1=d_ q.aw:=by unfold mF;rw[r2];rfl
   rw[e1,e2] at ht
   have h6:=iX ht (by rw[lZ,lZ])
   exact uB (Lt r1 r2 vp vq h6.1) (by rw[z1,z2]) (by rw[d1,d2])
  ·have h5:(p.ae==1)=false:=by simpa using h4
   rw[h5] at ht
   exact uB (by rw[hp.none h4,hq.none (hk▸h4)]) (by rw[z1,z2]) ht
theorem U0(t:ByteArray):jO (qF t).bd/\qh (qF t).aw.v:=by
 have z:qh fQ.v:=by unfold qh jO fQ;simp
 unfold qF
 refine EM (p:=fun(x:Pk)=>jO x.bd/\qh x.aw.v) (pC t==1) ?_ (EM (p:=fun(x:Pk)=>jO x.bd/\qh x.aw.v) (cT (pC t)&&zx t) ?_ ?_)
 ·exact⟨I3 _,YX _⟩
 ·exact⟨I3 _,z⟩
 ·exact⟨I3 _,z⟩
theorem EP{b:ByteArray}(h:(cK b).2=0):cN (cK b).1=true/\jO (cK b).1.bd/\qh (cK b).1.aw.v/\b=cA (dy (cK b).1):=by
 unfold cK at h ⊢
 cases h1:!((aa b).2==0) with
 |true=>
  rw[h1] at h
  exfalso
  have:(aa b).2=0:=h
  rw[this] at h1
  simp at h1
 |false=>
  rw[h1] at h
  have h0:(aa b).2=0:=by simpa using h1
  simp only[aJ] at h ⊢
  unfold lK at h ⊢
  cases h2:decide (((aa b).1.size:Int)<9) with
  |true=>rw[h2] at h;simp at h
  |false=>
   rw[h2] at h
   cases h3:(pC (aa b).1==1&&!((jL (qE (aa b).1)).2==0)) with
   |true=>rw[h3] at h;simp at h
   |false=>
    rw[h3] at h
    cases h4:(!cN (qF (aa b).1)||!(dy (qF (aa b).1)==(aa b).1)) with
    |true=>rw[h4] at h;simp at h
    |false=>
     simp only[eh,ni] at h4
     simp only[aJ]
     exact⟨h4.1,(U0 _).1,(U0 _).2,by rw[eq_of_beq h4.2];exact Hc h0⟩
theorem RU(sp:jO p.bd)(vp:qh p.aw.v)(h:(cK (jl p).1).2=0):(cK (jl p).1).1=p:=by
 have h1:=EP h
 cases hr:cN p with
 |false=>
  exfalso
  have h2:(jl p).1=⟨#[]⟩:=by unfold jl;rw[hr];rfl
  have h3:=cu ByteArray.size h1.2.2.2
  rw[h2,i_,sP] at h3
  omega
 |true=>
  have h2:(jl p).1=cA (dy p):=by unfold jl;rw[hr];rfl
  have h3:=h1.2.2.2
  rw[h2] at h3
  have h4:=zG h3
  rw[<-h2] at h4
  exact(Lu (sV hr) (sV h1.1) sp h1.2.1 vp h1.2.2.1 h4).symm
structure Cp(V:Bool->Ve->Prop):Prop where
 ve:∀i v,V i v->qh v
 ret:∀i v,V i v->V i (bP v)
 frm:∀i v g,V i v->jO g->V true (zu v g)
abbrev SV(V:Bool->Ve->Prop):Su->Prop:=fun s=>V s.bp s.v
def Gj(P:Su->Prop)(b:ByteArray):Prop:=(fC b).2=0->P (fC b).1
def lD(P:Su->Prop)(d:Dk):Prop:=Gj P (d.ax.getD 0 ⟨#[]⟩)/\∀w∈d.ar,w.nW.toNat=0->Gj P w.data
section
variable{V:Bool->Ve->Prop}{P:Su->Prop}
theorem vD:Gj P ⟨#[]⟩:=fun h=>by
 have h1:=(uf h).2.2
 have h2:=cu ByteArray.size h1
 rw[i_,sP] at h2
 omega
theorem Qf{s:Su}(hv:qh s.v)(h:P s):Gj P (bV s).1:=by
 cases hr:dI s with
 |true=>
  intro hd
  rw[RT hr hv hd]
  exact h
 |false=>
  have:(bV s).1=⟨#[]⟩:=by unfold bV;rw[hr];rfl
  rw[this]
  exact vD
theorem Gj.wZ{W:Su->Prop}(hw:∀s,P s->W s){b:ByteArray}(h:Gj P b):Gj W b:=fun hd=>hw _ (h hd)
theorem lD.wZ{W:Su->Prop}(hw:∀s,P s->W s)(h:lD P d):lD W d:=⟨h.1.wZ hw,fun w hm h0=>(h.2 w hm h0).wZ hw⟩
theorem lD.same{e:Dk}(h:lD P d)(h1:e.ax=d.ax)(h2:e.ar=d.ar):lD P e:=by unfold lD at h ⊢;rw[h1,h2];exact h
theorem I4(h:lD P d):lD P (cp d):=h.same rfl rfl
variable{i:Int}
theorem wG(h:lD P d){x:ByteArray}(hx:i=0->Gj P x):lD P (bN d i x).1:=by
 unfold bN
 refine az (p:=fun(x:Dk×Int)=>lD P x.1) h ?_
 cases hi:(decide (i<0)||decide (i>=(d.ax.length:Int))) with
 |true=>exact h
 |false=>
  simp at hi
  refine az (p:=fun(x:Dk×Int)=>lD P x.1) h (az (p:=fun(x:Dk×Int)=>lD P x.1) h (az (p:=fun(x:Dk×Int)=>lD P x.1) (I4 h) ?_))
  refine⟨h.1,fun w hm h0=> ?_⟩
  rcases df.1 hm with hm|hm
  ·exact h.2 w hm h0
  ·simp at hm
   subst hm
   exact hx (by simp only at h0;omega)
theorem Lw(h:lD P d):Gj P (iD d 0):=by
 unfold iD
 have key:∀(l:List Wr) (s:ByteArray),Gj P s->(∀w∈l,w.nW.toNat=0->Gj P w.data)->Gj P (l.foldl (fun s w=>bif w.nW==0 then w.data else s) s):=by
  intro l
  induction l with
  |nil=>intro s hs _;exact hs
  |cons w l ih=>
   intro s hs hl
   rw[jp]
   refine ih _ ?_ (fun w hm=>hl w (ch _ hm))
   cases hw:w.nW==0 with
   |true=>exact hl w (by simp) (by have:=eq_of_beq hw;rw[this];rfl)
   |false=>exact hs
 exact key _ _ h.1 h.2
theorem zH(h:lD P d):lD P (hU d).1:=by
 unfold hU
 refine az (p:=fun(x:Dk×Int)=>lD P x.1) h (az (p:=fun(x:Dk×Int)=>lD P x.1) (I4 h) ?_)
 refine⟨?_,by simp⟩
 have hb:=Lw (I4 h)
 show Gj P ((iW (cp d)).getD 0 ⟨#[]⟩)
 unfold iW
 cases hl:(cp d).ax.length with
 |zero=>exact vD
 |succ k=>rw[List.range_succ_eq_map];exact hb
theorem EQ(h:lD P d):lD P (Ep d):=h.same rfl rfl
theorem A4(h:lD P d)(ks:List Bool):lD P (ce d ks):=by
 refine⟨?_,by simp[ce]⟩
 unfold ce
 have key:∀(l:List (Wr×Bool)) (s:List ByteArray),Gj P (s.getD 0 ⟨#[]⟩)->(∀w∈l,w.1.nW.toNat=0->Gj P w.1.data)->Gj P ((l.foldl (fun s x=>bif x.2 then s.set x.1.nW.toNat x.1.data else s) s).getD 0 ⟨#[]⟩):=by
  intro l
  induction l with
  |nil=>intro s hs _;exact hs
  |cons w l ih=>
   intro s hs hl
   rw[jp]
   refine ih _ ?_ (fun w hm=>hl w (ch _ hm))
   cases hw:w.2 with
   |false=>exact hs
   |true=>
    cases s with
    |nil=>exact hs
    |cons a s=>
     cases hk:w.1.nW.toNat with
     |zero=>exact hl w (by simp) hk
     |succ k=>exact hs
 exact key _ _ h.1 (fun w hm h0=>h.2 w.1 ((List.of_mem_zip (show(w.1,w.2)∈_ from hm)).1) h0)
theorem ER(h:lD P d){s:Su}(hv:qh s.v)(hs:P s):lD P (eG d s).1:=by
 unfold eG
 have hw:=wG h (i:=0) (fun _=>Qf hv hs)
 exact az (p:=fun(x:Dk×Int)=>lD P x.1) h (az (p:=fun(x:Dk×Int)=>lD P x.1) hw (zH hw))
theorem CH(h:lD P d)(m:BitVec 32):lD P (jk d m).1:=by
 unfold jk
 exact az (p:=fun(x:Dk×Int)=>lD P x.1) h (wG h (fun h1=>absurd h1 (by decide)))
theorem Lx(h:lD P d)(m:BitVec 32):lD P (me d m).1:=by
 unfold me
 exact az (p:=fun(x:Dk×Int)=>lD P x.1) (CH h m) (zH (CH h m))
theorem U1{L:Int}(h1:0<=i)(h2:i<wrap .i64 L):wrap .i64 (i+2)≠0:=by
 unfold wrap at h2 ⊢
 simp[IntKind.signed,IntKind.bits] at h2 ⊢
 split at h2<;>split<;>omega
theorem YY(h:lD P d)(i:Int)(x:ByteArray):lD P (nL d i x).1:=by
 unfold nL
 cases ht:jS d i with
 |false=>exact h
 |true=>
  unfold jS at ht
  simp at ht
  have hw:lD P (bN d (wrap .i64 (i+2)) x).1:=wG h (fun h0=>absurd h0 (U1 ht.1 ht.2))
  exact az (p:=fun(x:Dk×Int)=>lD P x.1) h (az (p:=fun(x:Dk×Int)=>lD P x.1) h (az (p:=fun(x:Dk×Int)=>lD P x.1) hw (zH hw)))
theorem Hd(h:lD P d)(h0:(cd d).2=0):(cd d).1.ao=d/\P (cd d).1.aj:=by
 unfold cd at h0 ⊢
 cases h1:!((kf d).2==0) with
 |true=>
  rw[h1] at h0
  exfalso
  have:(kf d).2=0:=h0
  rw[this] at h1
  simp at h1
 |false=>
  rw[h1] at h0
  cases h2:!((jW d).2==0) with
  |true=>
   rw[h2] at h0
   exfalso
   have:(jW d).2=0:=h0
   rw[this] at h2
   simp at h2
  |false=>
   rw[h2] at h0
   cases h3:!((ld d).2==0) with
   |true=>
    rw[h3] at h0
    exfalso
    have:(ld d).2=0:=h0
    rw[this] at h3
    simp at h3
   |false=>
    refine⟨rfl,?_⟩
    show P (kf d).1
    have hs:(kf d).2=0:=by simpa using h1
    unfold kf at hs ⊢
    cases h4:!((bR d 0).2==0) with
    |true=>
     rw[h4] at hs
     exfalso
     have:(bR d 0).2=0:=hs
     rw[this] at h4
     simp at h4
    |false=>
     rw[h4] at hs
     cases h5:!((fC (bR d 0).1).2==0) with
     |true=>
      rw[h5] at hs
      exfalso
      have:(fC (bR d 0).1).2=0:=hs
      rw[this] at h5
      simp at h5
     |false=>
      rw[h5] at hs
      cases h6:!uC d (fC (bR d 0).1).1 with
      |true=>rw[h6] at hs;simp at hs
      |false=>
       show P (fC (bR d 0).1).1
       have h7:Gj P (bR d 0).1:=by
        unfold bR
        exact az (p:=fun(x:ByteArray×Int)=>Gj P x.1) vD (az (p:=fun(x:ByteArray×Int)=>Gj P x.1) vD (Lw h))
       exact h7 (by simpa using h5)
def Sk(P:Su->Prop)(s t:So):Prop:=lD P t.ao/\t.aj=s.aj
theorem Ly{s:So}(h:lD P s.ao)(m:BitVec 32):Sk P s (n8 s m).1:=by
 unfold n8
 exact az (p:=fun(x:So×Int)=>Sk P s x.1) ⟨h,rfl⟩ (az (p:=fun(x:So×Int)=>Sk P s x.1) ⟨Lx h m,rfl⟩ ⟨Lx h m,rfl⟩)
theorem ES{s:So}(h:lD P s.ao)(i:Int):Sk P s (mZ s i).1:=by
 unfold mZ
 exact az (p:=fun(x:So×Int)=>Sk P s x.1) ⟨h,rfl⟩ (Ly h _)
theorem zI{s:So}(h:lD P s.ao)(i:Int):Sk P s (jm s i).1:=by
 unfold jm
 exact az (p:=fun(x:So×Int)=>Sk P s x.1) ⟨h,rfl⟩ (az (p:=fun(x:So×Int)=>Sk P s x.1) ⟨h,rfl⟩ (az (p:=fun(x:So×Int)=>Sk P s x.1) ⟨CH h _,rfl⟩ ⟨CH h _,rfl⟩))
theorem vG{s:So}(h:lD P s.ao)(i:Int)(x:ByteArray):Sk P s (jn s i x).1:=⟨YY h _ _,rfl⟩
theorem ET{s:So}(h:lD P s.ao){b:Su}(hv:qh b.v)(hb:P b):lD P (dM s b).1.ao/\((dM s b).2=0->(dM s b).1.aj=b)/\(dM s b).1.cr=s.cr:=by
 unfold dM
 cases he:Lb b s.aj with
 |true=>exact⟨h,fun _=>((Lc _ _).1 he).symm,rfl⟩
 |false=>
  cases h1:(eG s.ao b).2==0 with
  |true=>exact⟨ER h hv hb,fun _=>rfl,rfl⟩
  |false=>
   refine⟨ER h hv hb,fun h2=> ?_,rfl⟩
   have h3:(eG s.ao b).2=0:=h2
   rw[h3] at h1
   simp at h1
structure NI(V:Bool->Ve->Prop)(n:Nd):Prop where
 d:lD (SV V) n.store.ao
 s:n.up=true->SV V n.store.aj
 p:n.ag=4->V false n.eQ.v
 z:n.up=false->n.ag=0
theorem NI.wZ{W:Bool->Ve->Prop}(hw:∀i v,V i v->W i v)(h:NI V n):NI W n:=⟨h.d.wZ (fun _ k=>hw _ _ k),fun hu=>hw _ _ (h.s hu),fun h4=>hw _ _ (h.p h4),h.z⟩
abbrev mA(n:Nd):Int:=n.store.aj.v.bH
structure kD(V:Bool->Ve->Prop)(n m:Nd):Prop where
 ok:NI V m
 id:m.id=n.id
 dr:m.aQ=n.aQ
 mi:m.bh=n.bh
 up:m.up=true->n.up=true/\m.bd=n.bd
 st:m.up=true->m.ag=n.ag\/(n.ag=1/\(m.ag=2\/m.ag=3\/m.ag=4))\/((n.ag=3\/n.ag=4)/\m.ag=2)
 cX:m.up=true->n.ag=1->m.ag=1->ji m=ji n
 bH:m.up=true->m.ag≠4->n.ag≠4->mA m=mA n
theorem kD.vH{m:Nd}(hn:NI V n)(hd:lD (SV V) m.store.ao)(hs:m.up=true->SV V m.store.aj)(id:m.id=n.id)(hu:m.up=n.up)(ht:m.ag=n.ag)(hk:m.bd=n.bd)(dr:m.aQ=n.aQ)(mi:m.bh=n.bh)(hp:m.eQ=n.eQ)(ho:n.ag=1->ji m=ji n)(hc:mA m=mA n):kD V n m:=
 ⟨⟨hd,hs,by rw[ht,hp];exact hn.p,by rw[hu,ht];exact hn.z⟩,id,dr,mi,fun h=>⟨by rw[<-hu];exact h,hk⟩,fun _=>af ht,fun _ h1 _=>ho h1,fun _ _ _=>hc⟩
theorem kD.refl(hn:NI V n):kD V n n:=kD.vH hn hn.d hn.s rfl rfl rfl rfl rfl rfl rfl (fun _=>rfl) rfl
theorem kD.down{m:Nd}(hd:lD (SV V) m.store.ao)(id:m.id=n.id)(dr:m.aQ=n.aQ)(mi:m.bh=n.bh):kD V n (dz m):=
 ⟨⟨EQ hd,fun h=>absurd h (by simp[dz]),fun h=>absurd h (by simp[dz]),fun _=>rfl⟩,id,dr,mi,fun h=>absurd h (by simp[dz]),fun h=>absurd h (by simp[dz]),fun h=>absurd h (by simp[dz]),fun h=>absurd h (by simp[dz])⟩
def Oh(b:ByteArray):Prop:=(cK b).2=0->(cK b).1.ae≠1
theorem U2(hk:p.ae≠1):Oh (jl p).1:=by
 intro h
 have h1:=EP h
 cases hr:cN p with
 |false=>
  exfalso
  have h2:(jl p).1=⟨#[]⟩:=by unfold jl;rw[hr];rfl
  have h3:=cu ByteArray.size h1.2.2.2
  rw[h2,i_,sP] at h3
  omega
 |true=>
  have h2:(jl p).1=cA (dy p):=by unfold jl;rw[hr];rfl
  have h3:=h1.2.2.2
  rw[h2] at h3
  have h4:=zG h3
  rw[<-h2,mI,mI] at h4
  have h5:=iX h4 (by simp only[mQ,cf,bC];rfl)
  have h6:=iX h5.1 (by simp only[cf];rfl)
  have b1:=(sV hr).ae
  have b2:=(sV h1.1).ae
  rw[oY (by omega),oY (by omega)] at h6
  have h7:=nS (by omega) (by omega) h6.1
  rw[<-h7]
  exact hk
def ey(l:List Ou):Prop:=∀o∈l,o.ae=1->Oh o.data
theorem ey.nil:ey []:=by intro o h;simp at h
theorem ey.cons(h:o.ae=1->Oh o.data)(hl:ey l):ey (o::l):=by
 intro p hp
 rcases cM.1 hp with rfl|hp
 ·exact h
 ·exact hl p hp
theorem ey.app{m:List Ou}(h:ey l)(hl:ey m):ey (l++m):=by
 intro p hp
 rcases df.1 hp with hp|hp
 ·exact h p hp
 ·exact hl p hp
theorem EU(n:Nd)(id e:Int)(x:ByteArray):(ap n id e x).ae=1->Oh (ap n id e x).data:=fun h=>absurd h (by simp[ap])
theorem EV(n:Nd):(e9 n).ae=1->Oh (e9 n).data:=fun h=>absurd h (by simp[e9])
theorem Hf(n:Nd)(h:p.ae≠1):(bE n p).ae=1->Oh (bE n p).data:=fun _=>U2 h
theorem ey.re(n:Nd)(id e:Int)(x:ByteArray):ey [ap n id e x]:= .cons (EU _ _ _ _) .nil
theorem ey.se(n:Nd)(h:p.ae≠1):ey [bE n p]:= .cons (Hf _ h) .nil
def Rs(V:Bool->Ve->Prop)(n:Nd)(x:Nd×List Ou):Prop:=kD V n x.1/\ey x.2
theorem U3(hn:NI V n){s:So}(hs:Sk (SV V) n.store s)(hm:n.ag=1->s.cr=n.store.cr)(e:Int):kD V n (gy n s e).1:=by
 unfold gy
 refine az (p:=fun(x:Nd×Bool)=>kD V n x.1) (kD.down hs.1 rfl rfl rfl) ?_
 refine kD.vH hn hs.1 (fun h=> ?_) rfl rfl rfl rfl rfl rfl rfl (fun h1=> ?_) ?_
 ·show SV V s.aj
  rw[hs.2];exact hn.s h
 ·show Gi s.aj n.aN s.cr=_
  rw[hs.2,hm h1];rfl
 ·show s.aj.v.bH=_
  rw[hs.2]
theorem ug{s:So}{e:Int}(h:(gy n s e).2=true):(gy n s e).1={n with store:=s}:=by
 unfold gy at h ⊢
 cases h1:!(e==0) with
 |true=>rw[h1] at h;simp at h
 |false=>rfl
theorem uh{s:So}{e:Int}(h:(gy n s e).2=false):(gy n s e).1=dz {n with store:=s}:=by
 unfold gy at h ⊢
 cases h1:!(e==0) with
 |false=>rw[h1] at h;simp at h
 |true=>rfl
theorem kN(hc:Cp V)(hn:lD (SV V) n.store.ao){b:Su}(hb:SV V b)(h:(aH n b).2=true):∃d,lD (SV V) d/\(aH n b).1={n with store:=⟨d,b,n.store.cr⟩}:=by
 have k:=ET hn (hc.ve _ _ hb) hb
 unfold aH at h ⊢
 generalize dM n.store b=x at h k ⊢
 obtain⟨⟨d,s,m⟩,e⟩:=x
 obtain⟨k1,k2,k3⟩:=k
 simp only at h k1 k2 k3 ⊢
 cases h1:!(e==0) with
 |true=>rw[h1] at h;simp at h
 |false=>
  have h2:=k2 (by simpa using h1)
  subst h2 k3
  exact⟨d,k1,rfl⟩
theorem qI(hc:Cp V)(hn:lD (SV V) n.store.ao){b:Su}(hb:SV V b)(h:(aH n b).2=false):∃m,lD (SV V) m.store.ao/\m.id=n.id/\m.aQ=n.aQ/\m.bh=n.bh/\(aH n b).1=dz m:=by
 have k:=ET hn (hc.ve _ _ hb) hb
 unfold aH at h ⊢
 generalize dM n.store b=x at h k ⊢
 obtain⟨s,e⟩:=x
 simp only at h k ⊢
 cases h1:!(e==0) with
 |false=>rw[h1] at h;simp at h
 |true=>exact⟨{n with store:=s},k.1,rfl,rfl,rfl,rfl⟩
theorem kZ(hc:Cp V)(hn:NI V n){b:Su}(hb:SV V b)(h:(aH n b).2=false):kD V n (aH n b).1:=by
 obtain⟨m,h1,h2,h3,h4,h5⟩:=qI hc hn.d hb h
 rw[h5]
 exact kD.down h1 h2 h3 h4
end
section
variable{V:Bool->Ve->Prop}
variable{y:Nd×List Ou}
theorem p9(hx:Rs V n x)(hy:Rs V n y):Rs V n (bif b then x else y):=by
 cases b
 ·exact hy
 ·exact hx
theorem oC(hx:b=true->Rs V n x)(hy:b=false->Rs V n y):Rs V n (bif b then x else y):=by
 cases b
 ·exact hy rfl
 ·exact hx rfl
theorem TP(h:(!b)=true):b=false:=by simpa using h
theorem FY(h:(!b)=false):b=true:=by simpa using h
theorem mS(hn:NI V n)(id e:Int)(x:ByteArray):Rs V n (n,[ap n id e x]):=⟨kD.refl hn,ey.re _ _ _ _⟩
theorem EW(v:Ve):(bP v).bH=v.bH:=by
 unfold bP
 cases v.i4==0<;>rfl
theorem kD.com{m:Nd}(hn:NI V n)(hu:n.up=true)(h1:n.ag≠1){b:Su}(hd:lD (SV V) d)(hb:SV V b)(U4:b.v.bH=mA n)(id:m.id=n.id)(hs:m.store.ao=d/\m.store.aj=b)(up:m.up=n.up)(st:m.ag=n.ag\/((n.ag=3\/n.ag=4)/\m.ag=2))(hk:m.bd=n.bd)(dr:m.aQ=n.aQ)(mi:m.bh=n.bh)(hp:m.eQ=n.eQ):kD V n m:=by
 refine⟨⟨by rw[hs.1];exact hd,fun _=>by rw[hs.2];exact hb,fun h4=> ?_,fun h0=>by rw[up,hu] at h0;exact absurd h0 (by simp)⟩,id,dr,mi,fun _=>⟨hu,hk⟩,fun _=> ?_,fun _ h _=>absurd h h1,fun _ _ _=>by unfold mA;rw[hs.2];exact U4⟩
 ·rw[hp]
  rcases st with st|st
  ·exact hn.p (by rw[<-st];exact h4)
  ·rw[st.2] at h4;exact absurd h4 (by decide)
 ·rcases st with st|st
  ·exact af st
  ·exact ab (ab st)
theorem BQ(hc:Cp V)(hn:NI V n)(id:Int):Rs V n (cj n id):=by
 unfold cj
 refine oC (fun _=>mS hn _ _ _) (fun hu=> ?_)
 have hu:=FY hu
 refine p9 (mS hn _ _ _) (p9 (mS hn _ _ _) (p9 (mS hn _ _ _) (oC (fun _=>mS hn _ _ _) (fun hs=> ?_))))
 simp at hs
 refine p9 (mS hn _ _ _) (p9 ⟨kD.vH hn hn.d hn.s rfl rfl rfl rfl rfl rfl rfl (fun _=>rfl) rfl,ey.se _ (by decide)⟩ ?_)
 have hb:SV V {n.store.aj with cH:=true}:=hn.s hu
 refine oC (fun h=>⟨kZ hc hn hb (TP h),ey.nil⟩) (fun h=> ?_)
 obtain⟨d,hd,he⟩:=kN hc hn.d hb (FY h)
 rw[he]
 exact⟨kD.com hn hu hs.1.1 hd hb rfl rfl ⟨rfl,rfl⟩ rfl (af rfl) rfl rfl rfl rfl,ey.re _ _ _ _⟩
theorem EX(hc:Cp V)(hn:NI V n)(id:Int):Rs V n (dN n id):=by
 unfold dN
 refine oC (fun _=>mS hn _ _ _) (fun hu=> ?_)
 have hu:=FY hu
 refine p9 (mS hn _ _ _) (oC (fun _=>mS hn _ _ _) (fun hs=> ?_))
 simp at hs
 have hb:SV V {n.store.aj with cH:=false}:=hn.s hu
 refine oC (fun h=>⟨kZ hc hn hb (TP h),ey.nil⟩) (fun h=> ?_)
 obtain⟨d,hd,he⟩:=kN hc hn.d hb (FY h)
 rw[he]
 have hm:kD V n {({n with store:=⟨d,{n.store.aj with cH:=false},n.store.cr⟩}:Nd) with aN:=false}:=kD.com hn hu hs.2 hd hb rfl rfl ⟨rfl,rfl⟩ rfl (af rfl) rfl rfl rfl rfl
 exact p9 ⟨hm, .cons (Hf _ (by decide)) (ey.re _ _ _ _)⟩ ⟨hm,ey.re _ _ _ _⟩
theorem BR(hc:Cp V)(hn:NI V n)(id:Int):Rs V n (dj n id):=by
 unfold dj
 refine oC (fun _=>mS hn _ _ _) (fun hu=> ?_)
 have hu:=FY hu
 refine p9 (mS hn _ _ _) (oC (fun _=>mS hn _ _ _) (fun hs=> ?_))
 simp at hs
 have hb:SV V {n.store.aj with dg:=true}:=hn.s hu
 refine oC (fun h=>⟨kZ hc hn hb (TP h),ey.nil⟩) (fun h=> ?_)
 obtain⟨d,hd,he⟩:=kN hc hn.d hb (FY h)
 rw[he]
 exact⟨kD.com hn hu (by omega) hd hb rfl rfl ⟨rfl,rfl⟩ rfl (af rfl) rfl rfl rfl rfl,ey.re _ _ _ _⟩
theorem Hg(hn:NI V n)(id block:Int):Rs V n (js n id block):=by
 unfold js
 exact p9 (mS hn _ _ _) (p9 (mS hn _ _ _) (mS hn _ _ _))
theorem kD.Kt{m:Nd}(hn:NI V n)(h1:n.ag≠1)(hs:Sk (SV V) n.store m.store)(id:m.id=n.id)(up:m.up=n.up)(st:m.ag=n.ag)(hk:m.bd=n.bd)(dr:m.aQ=n.aQ)(mi:m.bh=n.bh)(hp:m.eQ=n.eQ):kD V n m:=
 kD.vH hn hs.1 (fun h=>by rw[hs.2];exact hn.s (by rw[<-up];exact h)) id up st hk dr mi hp (fun h=>absurd h h1) (by unfold mA;rw[hs.2])
theorem Sk.trans{s t w:So}(h:Sk (SV V) s t)(k:Sk (SV V) t w):Sk (SV V) s w:=⟨k.1,k.2.trans h.2⟩
theorem U5(hn:lD (SV V) n.store.ao){b:Int}{x:ByteArray}(h:(im n b x).2=true):∃s,Sk (SV V) n.store s/\(im n b x).1={n with store:=s}:=by
 unfold im at h ⊢
 cases h1:(gj n b).2 with
 |false=>rw[h1] at h;simp at h
 |true=>
  rw[h1] at h
  have h2:(gj n b).1={n with store:=(mZ n.store b).1}:=ug h1
  have h3:=ES hn b
  simp only[fS,aJ] at h ⊢
  rw[ug h,h2]
  exact⟨_,h3.trans (vG h3.1 b x),rfl⟩
theorem U6(hn:lD (SV V) n.store.ao){b:Int}{x:ByteArray}(h:(im n b x).2=false):kD V n (im n b x).1:=by
 unfold im at h ⊢
 have h3:=ES hn b
 cases h1:(gj n b).2 with
 |false=>
  have h2:(gj n b).1=dz {n with store:=(mZ n.store b).1}:=uh h1
  rw[h2]
  exact kD.down h3.1 rfl rfl rfl
 |true=>
  rw[h1] at h
  have h2:(gj n b).1={n with store:=(mZ n.store b).1}:=ug h1
  simp only[fS,aJ] at h ⊢
  rw[uh h,h2]
  exact kD.down (h3.trans (vG h3.1 b x)).1 rfl rfl rfl
theorem Hh(hn:NI V n)(h1:n.ag≠1)(id block:Int)(x:ByteArray):Rs V n (dL n id block x):=by
 unfold dL
 refine oC (fun h=>⟨U6 hn.d (TP h),ey.nil⟩) (fun h=> ?_)
 obtain⟨s,hs,he⟩:=U5 hn.d (FY h)
 rw[he]
 exact p9 ⟨kD.Kt hn h1 hs rfl rfl rfl rfl rfl rfl rfl,ey.re _ _ _ _⟩ ⟨kD.Kt hn h1 hs rfl rfl rfl rfl rfl rfl rfl,ey.se _ (p:=CF 2 _ _) (by show(2:Int)≠1;decide)⟩
theorem RV(hn:NI V n)(h1:n.ag≠1)(block:Int)(x:ByteArray):Rs V n (jt n block x):=by
 unfold jt
 refine oC (fun h=>⟨U6 hn.d (TP h),ey.nil⟩) (fun h=> ?_)
 obtain⟨s,hs,he⟩:=U5 hn.d (FY h)
 rw[he]
 exact⟨kD.Kt hn h1 hs rfl rfl rfl rfl rfl rfl rfl,ey.se _ (p:=Et 3 _) (by show(3:Int)≠1;decide)⟩
theorem Hi(hn:NI V n)(h1:n.ag≠1)(block:Int):kD V n (bi n block).1:=U3 hn (zI hn.d block) (fun h=>absurd h h1) _
theorem Oi(hn:NI V n)(h1:n.ag≠1)(block:Int):kD V n (io n block):=by
 unfold io
 exact az (p:=fun x=>kD V n x) (kD.refl hn) (Hi hn h1 block)
theorem RW(hn:NI V n)(h1:n.ag≠1)(block:Int):Rs V n (iR n block):=by
 unfold iR
 refine p9 ⟨kD.refl hn,ey.nil⟩ ?_
 have hw:Sk (SV V) n.store (jm n.store block).1:=zI hn.d block
 refine oC (fun h=> ?_) (fun h=> ?_)
 ·have he:(bi {n with bL:=iE} block).1=dz {({n with bL:=iE}:Nd) with store:=(jm n.store block).1}:=uh (TP h)
  rw[he]
  exact⟨kD.down hw.1 rfl rfl rfl,ey.re _ _ _ _⟩
 ·have he:(bi {n with bL:=iE} block).1={({n with bL:=iE}:Nd) with store:=(jm n.store block).1}:=ug (FY h)
  rw[he]
  exact⟨kD.Kt hn h1 hw rfl rfl rfl rfl rfl rfl rfl, .cons (EU _ _ _ _) (ey.se _ (p:=Et 4 _) (by show(4:Int)≠1;decide))⟩
theorem kD.tgt{m:Nd}(hn:NI V n)(hu:n.up=true)(h4:n.ag=4)(hd:lD (SV V) m.store.ao)(hs:SV V m.store.aj)(id:m.id=n.id)(up:m.up=n.up)(st:m.ag=n.ag)(hk:m.bd=n.bd)(dr:m.aQ=n.aQ)(mi:m.bh=n.bh)(hp:m.eQ=n.eQ):kD V n m:=
 ⟨⟨hd,fun _=>hs,fun _=>by rw[hp];exact hn.p h4,fun h0=>by rw[up,hu] at h0;exact absurd h0 (by simp)⟩,id,dr,mi,fun _=>⟨hu,hk⟩,fun _=>af st,fun _ h _=>by omega,fun _ _ h=>absurd h4 h⟩
theorem BS(hc:Cp V)(hn:NI V n)(hu:n.up=true)(h4:n.ag=4):ey (fZ n).2/\((∃w s,lD (SV V) s.ao/\SV V s.aj/\(fZ n).1={n with wanted:=w,store:=s})\/∃m,lD (SV V) m.store.ao/\m.id=n.id/\m.aQ=n.aQ/\m.bh=n.bh/\(fZ n).1=dz m):=by
 unfold fZ
 cases h1:(!n.store.aj.bp||!(n.wanted==0)) with
 |true=>exact⟨ey.nil,af ⟨n.wanted,n.store,hn.d,hn.s hu,rfl⟩⟩
 |false=>
  cases h2:(n7 n.store.cr 0).isSome with
  |true=>exact⟨ey.se _ (p:=Et 5 _) (by show(5:Int)≠1;decide),af ⟨_,n.store,hn.d,hn.s hu,rfl⟩⟩
  |false=>
   have hb:SV V (n9 n):=hc.ret _ _ (hn.p h4)
   cases h:(aH n (n9 n)).2 with
   |false=>
    obtain⟨m,k1,k2,k3,k4,k5⟩:=qI hc hn.d hb h
    exact⟨ey.nil,ab ⟨m,k1,k2,k3,k4,k5⟩⟩
   |true=>
    obtain⟨d,hd,he⟩:=kN hc hn.d hb h
    simp only[fS,aJ,ft]
    exact⟨ey.se _ (p:=ud 8) (by decide),af ⟨n.wanted,⟨d,n9 n,n.store.cr⟩,hd,hb,he⟩⟩
theorem YZ(hc:Cp V)(hn:NI V n)(hu:n.up=true)(h4:n.ag=4)(block:Int)(x:ByteArray):Rs V n (nc n block x):=by
 have h1:n.ag≠1:=by omega
 unfold nc
 refine p9 ⟨kD.refl hn,ey.nil⟩ ?_
 have hp:Sk (SV V) n.store (jn n.store block x).1:=vG hn.d block x
 refine oC (fun h=> ?_) (fun h=> ?_)
 ·have he:(eE n block x).1=dz {n with store:=(jn n.store block x).1}:=uh (TP h)
  rw[he]
  exact⟨kD.down hp.1 rfl rfl rfl,ey.nil⟩
 ·have he:(eE n block x).1={n with store:=(jn n.store block x).1}:=ug (FY h)
  have hw:Sk (SV V) n.store (jm (jn n.store block x).1 block).1:=hp.trans (zI hp.1 block)
  refine oC (fun h2=> ?_) (fun h2=> ?_)
  ·have Y0:(bi (eE n block x).1 block).1=dz {(eE n block x).1 with store:=(jm (eE n block x).1.store block).1}:=uh (TP h2)
   rw[Y0,he]
   exact⟨kD.down hw.1 rfl rfl rfl,ey.nil⟩
  ·have Y0:(bi (eE n block x).1 block).1={(eE n block x).1 with store:=(jm (eE n block x).1.store block).1}:=ug (FY h2)
   have he4:nP n block x={n with store:=(jm (jn n.store block x).1 block).1,wanted:=0}:=by
    unfold nP
    rw[Y0,he]
   have XU:NI V (nP n block x):=by
    rw[he4]
    exact⟨hw.1,fun h=>by show SV V (jm (jn n.store block x).1 block).1.aj;rw[hw.2];exact hn.s h,hn.p,hn.z⟩
   have hq:=BS hc XU (by rw[he4];exact hu) (by rw[he4];exact h4)
   refine⟨?_, .app (ey.se _ (p:=Et 7 _) (by show(7:Int)≠1;decide)) hq.1⟩
   rcases hq.2 with⟨w,s,k1,k2,k3⟩|⟨m,k1,k2,k3,k4,k5⟩
   ·show kD V n (fZ (nP n block x)).1
    rw[k3,he4]
    exact kD.tgt hn hu h4 k1 k2 rfl rfl rfl rfl rfl rfl rfl
   ·show kD V n (fZ (nP n block x)).1
    rw[k5]
    rw[he4] at k2 k3 k4
    exact kD.down k1 k2 k3 k4
theorem RX(hc:Cp V)(hn:NI V n)(hu:n.up=true)(h3:n.ag=3):Rs V n (ju n):=by
 unfold ju
 have hb:SV V (hZ n):=hc.ret _ _ (hn.s hu)
 refine oC (fun h=>⟨kZ hc hn hb (TP h),ey.nil⟩) (fun h=> ?_)
 obtain⟨d,hd,he⟩:=kN hc hn.d hb (FY h)
 rw[he]
 exact⟨kD.com hn hu (by omega) hd hb (EW _) rfl ⟨rfl,rfl⟩ rfl (ab ⟨af h3,rfl⟩) rfl rfl rfl rfl,ey.se _ (by decide)⟩
theorem RY(hc:Cp V)(hn:NI V n)(hu:n.up=true)(h1:n.ag≠1)(k:Int):Rs V n (ed n k):=by
 unfold ed
 refine p9 (p9 ⟨kD.refl hn,ey.se _ (by decide)⟩ ⟨kD.vH hn hn.d hn.s rfl rfl rfl rfl rfl rfl rfl (fun h=>absurd h h1) rfl,ey.se _ (by decide)⟩) ?_
 refine p9 ⟨kD.vH hn hn.d hn.s rfl rfl rfl rfl rfl rfl rfl (fun h=>absurd h h1) rfl,ey.re _ _ _ _⟩ ?_
 refine p9 ⟨kD.vH hn hn.d hn.s rfl rfl rfl rfl rfl rfl rfl (fun h=>absurd h h1) rfl,ey.nil⟩ ?_
 have hb:SV V (lM n):=hn.s hu
 refine oC (fun h=>⟨kZ hc hn hb (TP h),ey.nil⟩) (fun h=> ?_)
 obtain⟨d,hd,he⟩:=kN hc hn.d hb (FY h)
 rw[he]
 exact⟨kD.com hn hu h1 hd hb rfl rfl ⟨rfl,rfl⟩ rfl (af rfl) rfl rfl rfl rfl,ey.re _ _ _ _⟩
theorem Lz{k s:Int}{t:He}(h:(bc k s t).ae≠4):bc k s t=⟨k,s⟩/\t.cH=false:=by
 unfold bc at h ⊢
 cases hb:(t.cH||k==4) with
 |true=>rw[hb] at h;exact absurd rfl h
 |false=>simp at hb;exact⟨rfl,hb.1⟩
structure Dec(x y:He):Prop where
 iY:(aI x y).iY=0\/(aI x y).iY=1
 s0:(aI x y).iY=0->x.bp=false/\y.cH=false/\(y.bp=true\/y.dg=true\/y.v.bH=x.v.bH\/bD x.v y.v.bH>0)
 s1:(aI x y).iY=1->y.bp=false/\x.cH=false/\(x.bp=true\/x.dg=true\/x.v.bH=y.v.bH\/bD y.v x.v.bH>0)
theorem ui{x y:He}(h4:(aI x y).ae≠4)(h1:(aI x y).ae≠1):Dec x y:=by
 have U7:∀k,(aI x y)=bc k 0 y->x.bp=false->(y.bp=true\/y.dg=true\/y.v.bH=x.v.bH\/bD x.v y.v.bH>0)->Dec x y:=by
  intro k he hi hz
  have h:=Lz (k:=k) (s:=0) (t:=y) (by rw[<-he];exact h4)
  have hs:(aI x y).iY=0:=by rw[he,h.1]
  exact⟨af hs,fun _=>⟨hi,h.2,hz⟩,fun h5=>by omega⟩
 have U8:∀k,(aI x y)=bc k 1 x->y.bp=false->(x.bp=true\/x.dg=true\/x.v.bH=y.v.bH\/bD y.v x.v.bH>0)->Dec x y:=by
  intro k he hi hz
  have h:=Lz (k:=k) (s:=1) (t:=x) (by rw[<-he];exact h4)
  have hs:(aI x y).iY=1:=by rw[he,h.1]
  exact⟨ab hs,fun h5=>by omega,fun _=>⟨hi,h.2,hz⟩⟩
 generalize hr:aI x y=r at U7 U8
 unfold aI at hr
 cases c1:(!(x.an==y.an)||x.cH&&y.cH||x.bp&&y.bp||x.dg&&y.dg) with
 |true=>
  exfalso
  rw[c1] at hr
  apply h4
  unfold aI
  rw[c1]
  rfl
 |false=>
  rw[c1] at hr
  cases c2:x.bp with
  |true=>
   rw[c2] at hr
   refine U8 _ hr.symm ?_ (af c2)
   simp[c2] at c1
   exact c1.1.2
  |false=>
   rw[c2] at hr
   cases c3:y.bp with
   |true=>rw[c3] at hr;exact U7 _ hr.symm c2 (af c3)
   |false=>
    rw[c3] at hr
    cases c4:x.dg with
    |true=>rw[c4] at hr;exact U8 _ hr.symm c3 (ab (af c4))
    |false=>
     rw[c4] at hr
     cases c5:y.dg with
     |true=>rw[c5] at hr;exact U7 _ hr.symm c2 (ab (af c5))
     |false=>
      rw[c5] at hr
      cases c6:x.v.bH==y.v.bH with
      |true=>
       rw[c6] at hr
       have e6:=eq_of_beq c6
       cases c7:(mi x.cr==0&&mi y.cr==0) with
       |true=>
        exfalso
        apply h1
        unfold aI
        rw[c1,c2,c3,c4,c5,c6,c7]
        rfl
       |false=>
        rw[c7] at hr
        cases c8:(y.cH||!x.cH&&y.sN&&!x.sN) with
        |true=>rw[c8] at hr;exact U8 _ hr.symm c3 (ab (ab (af e6)))
        |false=>rw[c8] at hr;exact U7 _ hr.symm c2 (ab (ab (af e6.symm)))
      |false=>
       rw[c6] at hr
       cases c9:(decide (bD x.v y.v.bH>0)&&decide (bD y.v x.v.bH<0)) with
       |true=>rw[c9] at hr;simp at c9;exact U7 _ hr.symm c2 (ab (ab (ab c9.1)))
       |false=>
        rw[c9] at hr
        cases c10:(decide (bD y.v x.v.bH>0)&&decide (bD x.v y.v.bH<0)) with
        |true=>rw[c10] at hr;simp at c10;exact U8 _ hr.symm c3 (ab (ab (ab c10.1)))
        |false=>
         exfalso
         apply h4
         unfold aI
         rw[c1,c2,c3,c4,c5,c6,c9,c10]
         rfl
end
theorem Hj{v:Ve}{g:Int}(h:bD v g>0):g≠0/\(g=v.i4\/g=v.o0\/g=v.o1):=by
 unfold bD at h
 cases h0:g==0 with
 |true=>rw[h0] at h;simp at h
 |false=>
  rw[h0] at h
  refine⟨by simpa using h0,?_⟩
  cases h1:v.bH==g with
  |true=>rw[h1] at h;simp at h
  |false=>
   rw[h1] at h
   cases h2:v.i4==g with
   |true=>exact af (eq_of_beq h2).symm
   |false=>
    rw[h2] at h
    cases h3:v.o0==g with
    |true=>exact ab (af (eq_of_beq h3).symm)
    |false=>
     rw[h3] at h
     cases h4:v.o1==g with
     |true=>exact ab (ab (eq_of_beq h4).symm)
     |false=>rw[h4] at h;simp at h
section
variable{V:Bool->Ve->Prop}
variable{h:He}
theorem Y1(hc:Cp V)(hn:NI V n)(hu:n.up=true)(h1:n.ag=1)(hh:V h.bp h.v){v:Vd}(m:BitVec 32)(hv:v.ae≠4->v.ae≠1->v.iY≠n.id->h.bp=false):Rs V n (lB n h v m):=by
 unfold lB
 refine oC (fun _=>⟨kD.refl hn, .cons (EV _) .nil⟩) (fun k4=>oC (fun _=> ?_) (fun k1=> ?_))
 ·have hb:SV V (hZ n):=hc.ret _ _ (hn.s hu)
  refine oC (fun hk=> ?_) (fun hk=>⟨kZ hc hn hb hk,ey.nil⟩)
  obtain⟨d,hd,he⟩:=kN hc hn.d hb hk
  rw[he]
  exact⟨⟨⟨hd,fun _=>hb,fun h4=>absurd h4 (by simp[qG]),fun h0=>absurd (hu.symm.trans h0) (by simp)⟩,rfl,rfl,rfl,fun _=>⟨hu,rfl⟩,fun _=>ab (af ⟨h1,af rfl⟩),fun _ _ h5=>absurd h5 (by simp[qG]),fun _ _ _=>EW _⟩,ey.nil⟩
 ·simp at k4 k1
  have hj:Sk (SV V) n.store (nN n.store m).1:=Ly hn.d _
  refine oC (fun hk=> ?_) (fun hk=> ?_)
  ·have he:(kv n m).1=dz {n with store:=(nN n.store m).1}:=uh (TP hk)
   rw[he]
   exact⟨kD.down hj.1 rfl rfl rfl,ey.nil⟩
  ·have he:(kv n m).1={n with store:=(nN n.store m).1}:=ug (FY hk)
   refine oC (fun _=> ?_) (fun qS=> ?_)
   ·rw[he]
    exact⟨⟨⟨hj.1,fun hu=>by show SV V (nN n.store m).1.aj;rw[hj.2];exact hn.s hu,fun h4=>absurd h4 (by simp[qG]),fun h0=>absurd (hu.symm.trans h0) (by simp)⟩,rfl,rfl,rfl,fun _=>⟨hu,rfl⟩,fun _=>ab (af ⟨h1,ab (af rfl)⟩),fun _ _ h5=>absurd h5 (by simp[qG]),fun _ _ _=>by show(nN n.store m).1.aj.v.bH=_;rw[hj.2]⟩,ey.nil⟩
   ·have hi:h.bp=false:=hv k4 k1 (by simpa using qS)
    have hs:(nN n.store m).1.aj=n.store.aj:=hj.2
    have hb:SV V (p7 (kv n m).1 h):=by
     rw[he]
     show V true (zu (nN n.store m).1.aj.v h.v.bH)
     rw[hs]
     exact hc.frm _ _ _ (hn.s hu) (hc.ve _ _ hh).1
    have Is:SV V (p7 n h):=by
     show V true (zu n.store.aj.v h.v.bH)
     exact hc.frm _ _ _ (hn.s hu) (hc.ve _ _ hh).1
    have XU:NI V (kv n m).1:=by
     rw[he]
     exact⟨hj.1,fun hu=>by show SV V (nN n.store m).1.aj;rw[hs];exact hn.s hu,hn.p,hn.z⟩
    refine oC (fun MT=> ?_) (fun MT=> ?_)
    ·obtain⟨x,x1,x2,x3,x4,x5⟩:=qI hc XU.d Is (TP MT)
     rw[x5]
     rw[he] at x2 x3 x4
     exact⟨kD.down x1 x2 x3 x4,ey.nil⟩
    ·obtain⟨d,hd,he2⟩:=kN hc XU.d Is (FY MT)
     have Y0:qG (aH (kv n m).1 (p7 n h)).1 h 4={n with store:=⟨d,p7 n h,(nN n.store m).1.cr⟩,ag:=4,cU:=h.cH,eQ:=h}:=by
      rw[he2,he]
      rfl
     have akX:NI V (qG (aH (kv n m).1 (p7 n h)).1 h 4):=by
      rw[Y0]
      exact⟨hd,fun _=>Is,fun _=>by show V false h.v;rw[<-hi];exact hh,fun h0=>absurd (hu.symm.trans h0) (by simp)⟩
     have hq:=BS hc akX (by rw[Y0];exact hu) (by rw[Y0])
     refine⟨?_,hq.1⟩
     rcases hq.2 with⟨w,s,q1,q2,q3⟩|⟨x,q1,q2,q3,q4,q5⟩
     ·rw[q3,Y0]
      exact⟨⟨q1,fun _=>q2,fun _=>by show V false h.v;rw[<-hi];exact hh,fun h0=>absurd (hu.symm.trans h0) (by simp)⟩,rfl,rfl,rfl,fun _=>⟨hu,rfl⟩,fun _=>ab (af ⟨h1,ab (ab rfl)⟩),fun _ _ h5=>absurd h5 (show(4:Int)≠1 by decide),fun _ h5 _=>absurd rfl h5⟩
     ·rw[q5]
      rw[Y0] at q2 q3 q4
      exact kD.down q1 q2 q3 q4
theorem Oj(hc:Cp V)(hn:NI V n)(hu:n.up=true)(h1:n.ag=1){v:Vd}(m:BitVec 32)(h4:(lB n h v m).1.ag=4):v.ae≠4/\v.ae≠1/\v.iY≠n.id:=by
 unfold lB at h4
 cases k4:v.ae==4 with
 |true=>rw[k4] at h4;simp at h4;omega
 |false=>
  rw[k4] at h4
  cases k1:v.ae==1 with
  |true=>
   exfalso
   rw[k1] at h4
   have hb:SV V (hZ n):=hc.ret _ _ (hn.s hu)
   cases hk:(aH n (hZ n)).2 with
   |true=>rw[hk] at h4;simp[qG] at h4
   |false=>
    obtain⟨x,_,_,_,_,x5⟩:=qI hc hn.d hb hk
    rw[hk,x5] at h4
    simp[dz] at h4
  |false=>
   rw[k1] at h4
   refine⟨by simpa using k4,by simpa using k1,fun qS=> ?_⟩
   cases hk:(kv n m).2 with
   |false=>
    have he:(kv n m).1=dz {n with store:=(nN n.store m).1}:=uh hk
    rw[hk,he] at h4
    simp[dz] at h4
   |true=>
    rw[hk,qS] at h4
    simp[qG] at h4
theorem EY(gm:n.id=0\/n.id=1)(k4:(b9 n h).1.ae≠4)(k1:(b9 n h).1.ae≠1)(hs:(b9 n h).1.iY≠n.id):h.bp=false/\(n.store.aj.bp=true\/n.store.aj.dg=true\/mA n=h.v.bH\/bD h.v (mA n)>0):=by
 unfold b9 at k4 k1 hs
 rcases gm with h0|h0
 ·have hb:(n.id==1)=false:=by rw[h0];rfl
  rw[hb] at k4 k1 hs
  have hd:=ui k4 k1
  have xK:(aI (ji n) h).iY=1:=by
   rcases hd.iY with h5|h5
   ·exact absurd h5 (by rw[h0] at hs;exact hs)
   ·exact h5
  have:=hd.s1 xK
  exact⟨this.1,this.2.2⟩
 ·have hb:(n.id==1)=true:=by rw[h0];rfl
  rw[hb] at k4 k1 hs
  have hd:=ui k4 k1
  have xK:(aI h (ji n)).iY=0:=by
   rcases hd.iY with h5|h5
   ·exact h5
   ·exact absurd h5 (by rw[h0] at hs;exact hs)
  have:=hd.s0 xK
  exact⟨this.1,this.2.2⟩
def HeB(V:Bool->Ve->Prop)(b:ByteArray):Prop:=(cK b).2=0->(cK b).1.ae=1->V (cK b).1.aw.bp (cK b).1.aw.v
theorem Hk{b:ByteArray}{s:Int}(h:(bw b s).2=0):(cK b).2=0/\(cK b).1.bd=s/\(bw b s).1=(cK b).1:=by
 unfold bw at h ⊢
 cases h1:!((cK b).2==0) with
 |true=>
  rw[h1] at h
  exfalso
  have:(cK b).2=0:=h
  rw[this] at h1
  simp at h1
 |false=>
  rw[h1] at h
  cases h2:!((cK b).1.bd==s) with
  |true=>rw[h2] at h;simp at h
  |false=>exact⟨by simpa using h1,by simpa using h2,rfl⟩
theorem U9{c:Bool}(h:(bif b then false else c)=true):b=false/\c=true:=by
 cases b
 ·exact⟨rfl,h⟩
 ·exact absurd h (by simp)
theorem yk(h:bO n p=true):n.up=true/\((p.ae=1/\n.ag=1)\/(p.ae≠1/\(n.ag=2\/n.ag=3\/n.ag=4)/\(p.ae=6->n.ag=4)/\(p.ae=8->n.ag=3)/\(p.ae=9->n.ag=4))):=by
 unfold bO at h
 have h0:=U9 h
 simp only[eh,ni] at h0
 refine⟨h0.1.1,?_⟩
 have h:=h0.2
 cases c1:p.ae==1 with
 |true=>rw[c1] at h;exact af ⟨eq_of_beq c1,by simpa using h⟩
 |false=>
  rw[c1] at h
  have n1:p.ae≠1:=by simpa using c1
  refine ab ⟨n1,?_⟩
  cases c2:p.ae==2 with
  |true=>rw[c2] at h;simp at h;have:=eq_of_beq c2;omega
  |false=>
   rw[c2] at h
   cases c3:p.ae==3 with
   |true=>rw[c3] at h;simp at h;have:=eq_of_beq c3;omega
   |false=>
    rw[c3] at h
    cases c4:p.ae==4 with
    |true=>rw[c4] at h;simp at h;have:=eq_of_beq c4;omega
    |false=>
     rw[c4] at h
     cases c5:(p.ae==5||p.ae==7||p.ae==8) with
     |true=>rw[c5] at h;simp at h c5;omega
     |false=>
      rw[c5] at h
      cases c6:p.ae==6 with
      |true=>rw[c6] at h;simp at h;have:=eq_of_beq c6;omega
      |false=>
       rw[c6] at h
       cases c7:p.ae==9 with
       |true=>rw[c7] at h;simp at h;have:=eq_of_beq c7;omega
       |false=>
        rw[c7] at h
        simp at c5 c6 c7
        cases c8:(p.ae==10||p.ae==13) with
        |true=>rw[c8] at h;simp at h;omega
        |false=>
         rw[c8] at h
         cases c9:(p.ae==11||p.ae==12) with
         |true=>rw[c9] at h;simp at h;omega
         |false=>rw[c9] at h;simp at h
theorem U_(hc:Cp V)(hn:NI V n)(gm:n.id=0\/n.id=1)(hf:bO n p=true)(hh:p.ae=1->V p.aw.bp p.aw.v):Rs V n (jX n p):=by
 obtain⟨hu,hk⟩:=yk hf
 unfold jX
 rcases hk with⟨k1,s1⟩|⟨k1,s1,k6,k8,k9⟩
 ·have:(p.ae==1)=true:=by rw[k1];rfl
  rw[this]
  exact Y1 hc hn hu s1 (hh k1) _ (fun a b c=>(EY gm a b c).1)
 ·have n1:n.ag≠1:=by omega
  refine oC (fun h=>absurd (eq_of_beq h) k1) (fun _=> ?_)
  refine p9 (RV hn n1 _ _) (p9 (RW hn n1 _) (p9 ⟨Hi hn n1 _,ey.nil⟩ (p9 ⟨kD.refl hn,ey.se _ (p:=CF 6 _ _) (by show(6:Int)≠1;decide)⟩ ?_)))
  refine oC (fun h=>YZ hc hn hu (k6 (eq_of_beq h)) _ _) (fun _=> ?_)
  refine p9 ⟨Oi hn n1 _,ey.nil⟩ ?_
  refine oC (fun h=>RX hc hn hu (k8 (eq_of_beq h))) (fun _=> ?_)
  refine oC (fun h=>⟨kD.com (d:=n.store.ao) (b:=n.store.aj) hn hu n1 hn.d (hn.s hu) rfl rfl ⟨rfl,rfl⟩ rfl (ab ⟨ab (k9 (eq_of_beq h)),rfl⟩) rfl rfl rfl rfl,ey.nil⟩) (fun _=>RY hc hn hu n1 _)
theorem vI(hc:Cp V)(hn:NI V n)(gm:n.id=0\/n.id=1){b:ByteArray}(hb:(bw b n.bd).2=0->HeB V b):Rs V n (bF n b):=by
 unfold bF
 refine p9 ⟨kD.refl hn,ey.nil⟩ (p9 ⟨kD.refl hn,ey.nil⟩ (oC (fun _=>⟨kD.refl hn, .cons (EV _) .nil⟩) (fun h=> ?_)))
 simp only[eh,ni] at h
 have h0:(bw b n.bd).2=0:=eq_of_beq h.1
 have h1:=Hk h0
 refine U_ hc hn gm h.2 (fun hk=> ?_)
 rw[h1.2.2] at hk ⊢
 exact hb h0 h1.1 hk
theorem vJ(hc:Cp V)(hn:NI V n)(gm:n.id=0\/n.id=1){b:ByteArray}(hb:(bw b n.bd).2=0->HeB V b)(h4:(bF n b).1.ag=4)(hs:n.ag≠4):
 n.up=true/\n.ag=1/\(bw b n.bd).2=0/\(cK b).2=0/\(cK b).1.ae=1/\(b9 n (cK b).1.aw).1.ae≠4/\(b9 n (cK b).1.aw).1.ae≠1/\(b9 n (cK b).1.aw).1.iY≠n.id:=by
 have hr:=(vI hc hn gm hb).1
 have hup:(bF n b).1.up=true:=by
  cases hu:(bF n b).1.up with
  |true=>rfl
  |false=>have:=hr.ok.z hu;omega
 have sH:=hr.st hup
 have s1:n.ag=1:=by omega
 have hu:=(hr.up hup).1
 unfold bF at h4
 cases c1:(!n.up||n.ag==0) with
 |true=>rw[c1] at h4;simp at h4;omega
 |false=>
  rw[c1] at h4
  cases c2:(bw b n.bd).2==16 with
  |true=>rw[c2] at h4;simp at h4;omega
  |false=>
   rw[c2] at h4
   cases c3:(!((bw b n.bd).2==0)||!bO n (bw b n.bd).1) with
   |true=>rw[c3] at h4;simp at h4;omega
   |false=>
    rw[c3] at h4
    simp only[eh,ni] at c3
    have h0:(bw b n.bd).2=0:=eq_of_beq c3.1
    have h1:=Hk h0
    have hf:=(yk c3.2).2
    rw[h1.2.2] at hf h4
    have hk:(cK b).1.ae=1:=by omega
    have MT:((cK b).1.ae==1)=true:=by rw[hk];rfl
    have h5:(AY n (cK b).1.aw).1.ag=4:=by
     have h6:(jX n (cK b).1).1.ag=4:=h4
     unfold jX at h6
     rw[MT] at h6
     exact h6
    obtain⟨v1,v2,v3⟩:=Oj hc hn hu s1 _ h5
    exact⟨hu,s1,h0,h1.1,hk,v1,v2,v3⟩
end
abbrev IQ(Q:Prop):Su->Prop:=fun s=>s.bp=true->Q
theorem LA{s t:Su}(h:dD s=dD t):s.bp=t.bp:=by
 unfold dD at h
 have p4:=cE h (by rw[bC,bC])
 have p3:=cE p4.1 (by rw[bC,bC])
 have p2:=cE p3.1 (by rw[bC,bC])
 have p1:=cE p2.1 (by rw[bC,bC])
 have p0:=(cE p1.1 (by rw[cf,cf];rfl)).2
 rw[A3,A3] at p0
 have q:=cE p0 (by rw[cf,cf];rfl)
 exact(fl3 (nS (Qe _ _ _) (Qe _ _ _) q.2)).1
theorem Qg{s:Su}(h:s.bp=true->Q):Gj (IQ Q) (bV s).1:=by
 cases hr:dI s with
 |true=>
  intro hd hi
  have he:(bV s).1=cA (dD s):=by unfold bV;rw[hr];rfl
  have h1:=(uf hd).2.2
  rw[he] at h1 hi
  have h2:=LA (zG h1)
  exact h (h2.trans hi)
 |false=>
  have:(bV s).1=⟨#[]⟩:=by unfold bV;rw[hr];rfl
  rw[this]
  exact vD
theorem BT(h:lD (IQ Q) d){s:Su}(hs:s.bp=true->Q):lD (IQ Q) (eG d s).1:=by
 unfold eG
 have hw:=wG h (i:=0) (fun _=>Qg hs)
 exact az (p:=fun(x:Dk×Int)=>lD (IQ Q) x.1) h (az (p:=fun(x:Dk×Int)=>lD (IQ Q) x.1) hw (zH hw))
structure IP(Q:Prop)(n:Nd):Prop where
 d:lD (IQ Q) n.store.ao
 s:n.up=true->n.store.aj.bp=true->Q
theorem IP.akY(q:Q)(n:Nd):IP Q n:=⟨⟨fun _ _=>q,fun _ _ _ _ _=>q⟩,fun _ _=>q⟩
theorem IP.down(h:lD (IQ Q) n.store.ao):IP Q (dz n):=⟨EQ h,fun hu=>absurd hu (by simp[dz])⟩
theorem IP.same{m:Nd}(h:IP Q n)(hs:m.store=n.store)(hu:m.up=n.up):IP Q m:=⟨by rw[hs];exact h.d,by rw[hs,hu];exact h.s⟩
theorem lQ(h:IP Q n){b:Su}(hb:b.bp=true->Q):IP Q (aH n b).1:=by
 have hd:lD (IQ Q) (dM n.store b).1.ao:=by
  unfold dM
  exact az (p:=fun(x:So×Int)=>lD (IQ Q) x.1.ao) h.d (az (p:=fun(x:So×Int)=>lD (IQ Q) x.1.ao) (BT h.d hb) (BT h.d hb))
 have hs:(dM n.store b).1.aj=b\/(dM n.store b).1.aj=n.store.aj:=by
  unfold dM
  exact az (p:=fun(x:So×Int)=>x.1.aj=b\/x.1.aj=n.store.aj) (ab rfl) (az (p:=fun(x:So×Int)=>x.1.aj=b\/x.1.aj=n.store.aj) (af rfl) (ab rfl))
 unfold aH
 refine az (p:=fun(x:Nd×Bool)=>IP Q x.1) (IP.down hd) ⟨hd,fun hu hi=> ?_⟩
 rcases hs with hs|hs
 ·exact hb (by rw[<-hs];exact hi)
 ·exact h.s hu (by rw[<-hs];exact hi)
theorem zJ(h:IP Q n){s:So}(hs:Sk (IQ Q) n.store s)(e:Int):IP Q (gy n s e).1:=by
 unfold gy
 refine az (p:=fun(x:Nd×Bool)=>IP Q x.1) (IP.down hs.1) ⟨hs.1,fun hu hi=> ?_⟩
 have Km:s.aj.bp=true:=hi
 rw[hs.2] at Km
 exact h.s hu Km
theorem Qh(h:IP Q n)(b:Int)(x:ByteArray):IP Q (im n b x).1:=by
 have h1:IP Q (gj n b).1:=zJ h (ES h.d b) _
 unfold im
 exact az (p:=fun(x:Nd×Bool)=>IP Q x.1) h1 (zJ h1 (vG h1.d b x) _)
theorem wH(h:IP Q n)(b:Int):IP Q (bi n b).1:=zJ h (zI h.d b) _
theorem LC(h:IP Q n):n.up=true->IP Q (a9 n).1:=by
 intro hu
 unfold a9
 cases n.aQ with
 |nil=>exact h
 |cons g r=>
  show IP Q (jo n g r).1
  unfold jo
  have h1:IP Q (aH (nO n g r) (pI n g)).1:=lQ (show IP Q (nO n g r) from⟨h.d,h.s⟩) (fun hi=>h.s hu hi)
  exact az (p:=fun(x:Nd×Int)=>IP Q x.1) (h.same rfl rfl) (az (p:=fun(x:Nd×Int)=>IP Q x.1) h1 (h1.same rfl rfl))
abbrev Gk(Q:Prop)(x:Nd×List Ou):Prop:=IP Q x.1
variable{y:Nd×List Ou}
theorem iT(hx:Gk Q x)(hy:Gk Q y):Gk Q (bif b then x else y):=by
 cases b
 ·exact hy
 ·exact hx
theorem RZ(hx:b=true->Gk Q x)(hy:b=false->Gk Q y):Gk Q (bif b then x else y):=by
 cases b
 ·exact hy rfl
 ·exact hx rfl
theorem LD(h:IP Q n)(id:Int):Gk Q (cj n id):=by
 unfold cj
 refine RZ (fun _=>h) (fun hu=>iT h (iT h (iT h (iT h (iT h (iT (h.same rfl rfl) ?_))))))
 have h1:IP Q (aH n {n.store.aj with cH:=true}).1:=lQ h (fun hi=>h.s (FY hu) hi)
 exact iT h1 (h1.same rfl rfl)
theorem Ok(h:IP Q n)(id:Int):Gk Q (dN n id):=by
 unfold dN
 refine RZ (fun _=>h) (fun hu=>iT h (iT h ?_))
 have h1:IP Q (aH n {n.store.aj with cH:=false}).1:=lQ h (fun hi=>h.s (FY hu) hi)
 exact iT h1 (iT (h1.same rfl rfl) (h1.same rfl rfl))
theorem LE(h:IP Q n)(id:Int):Gk Q (dj n id):=by
 unfold dj
 refine RZ (fun _=>h) (fun hu=>iT h (iT h ?_))
 have h1:IP Q (aH n {n.store.aj with dg:=true}).1:=lQ h (fun hi=>h.s (FY hu) hi)
 exact iT h1 h1
theorem R0(h:IP Q n)(id b:Int):Gk Q (js n id b):=by
 unfold js
 exact iT h (iT h h)
theorem Hl(h:IP Q n)(id b:Int)(x:ByteArray):Gk Q (dL n id b x):=by
 have h1:=Qh h b x
 unfold dL
 exact iT h1 (iT h1 (h1.same rfl rfl))
theorem BU{b:Int}{x:ByteArray}(h:(dk n b x==0)=true):n.up=true/\n.aN=true/\n.bL.on=false:=by
 unfold dk at h
 cases h1:n.up with
 |false=>rw[h1] at h;simp at h
 |true=>
  rw[h1] at h
  cases h2:n.aN with
  |false=>rw[h2] at h;simp at h
  |true=>
   rw[h2] at h
   cases h3:(decide (b<0)||decide (b>=n.store.aj.an)) with
   |true=>rw[h3] at h;simp at h
   |false=>
    rw[h3] at h
    cases h4:!((x.size:Int)==8) with
    |true=>rw[h4] at h;simp at h
    |false=>
     rw[h4] at h
     cases h5:n.bL.on with
     |true=>rw[h5] at h;simp at h
     |false=>exact⟨rfl,rfl,rfl⟩
theorem R1(h:IP Q n)(id b:Int)(x:ByteArray):Gk Q (cD n id b x):=by
 unfold cD
 refine RZ (fun _=>h) (fun hb=> ?_)
 have hu:=(BU (FY hb)).1
 have h1:=LC h hu
 exact iT (iT h1 (iT h1 (Hl h1 id b x))) (Hl h id b x)
theorem R2(h:IP Q n)(b:Int):Gk Q (iR n b):=by
 have h1:IP Q (bi {n with bL:=iE} b).1:=wH (show IP Q {n with bL:=iE} from⟨h.d,h.s⟩) b
 unfold iR
 exact iT h (iT h1 h1)
theorem R3(h:IP Q n)(b:Int)(x:ByteArray):Gk Q (jt n b x):=by
 have h1:=Qh h b x
 unfold jt
 exact iT h1 h1
theorem U'(h:IP Q n):Gk Q (fZ n):=by
 have h1:IP Q (aH n (n9 n)).1:=lQ h (fun hi=>absurd hi (by simp[n9]))
 unfold fZ
 exact iT h (iT (h.same rfl rfl) (iT h1 h1))
theorem Y2(h:IP Q n)(b:Int)(x:ByteArray):Gk Q (nc n b x):=by
 have h1:IP Q (eE n b x).1:=zJ h (vG h.d b x) _
 have h2:IP Q (bi (eE n b x).1 b).1:=wH h1 b
 have h3:IP Q (nP n b x):=h2.same rfl rfl
 unfold nc
 exact iT h (iT h1 (iT h2 (U' h3)))
theorem R4(h:IP Q n)(hu:n.up=true):Gk Q (ju n):=by
 have h1:IP Q (aH n (hZ n)).1:=lQ h (fun hi=>h.s hu hi)
 unfold ju
 exact iT h1 (h1.same rfl rfl)
theorem R5(h:IP Q n)(hu:n.up=true)(k:Int):Gk Q (ed n k):=by
 have h1:IP Q (aH n (lM n)).1:=lQ h (fun hi=>h.s hu hi)
 unfold ed
 exact iT (iT h (h.same rfl rfl)) (iT (h.same rfl rfl) (iT (h.same rfl rfl) (iT h1 (h1.same rfl rfl))))
theorem Va(h:IP Q n)(h1:n.ag=1->Q)(hf:bO n p=true):Gk Q (jX n p):=by
 obtain⟨hu,hc⟩:=yk hf
 unfold jX
 refine RZ (fun hk=> ?_) (fun _=>iT (R3 h _ _) (iT (R2 h _) (iT (wH h _) (iT h (iT (Y2 h _ _) (iT ?_ (iT (R4 h hu) (iT (h.same rfl rfl) (R5 h hu _)))))))))
 ·have q:Q:=h1 (by
   rcases hc with⟨_,h5⟩|⟨h5,_⟩
   ·exact h5
   ·exact absurd (eq_of_beq hk) h5)
  exact IP.akY q _
 ·show IP Q (io n p.block)
  unfold io
  exact az (p:=fun(x:Nd)=>IP Q x) h (wH h _)
theorem BV(h:IP Q n)(h1:n.ag=1->Q)(b:ByteArray):Gk Q (bF n b):=by
 unfold bF
 refine iT h (iT h (RZ (fun _=>h) (fun hf=> ?_)))
 rw[eh] at hf
 exact Va h h1 (FY hf.2)
theorem Vb(h:IP Q n)(hu:n.up=true):Gk Q (aF n):=by
 have h1:IP Q (ei n):=h.same rfl rfl
 have h2:=LC h1 hu
 unfold aF
 exact iT h (iT h1 (iT h2 h2))
theorem LF(h:IP Q n)(w:Bool):IP Q (eD n w).1.1:=by
 unfold eD
 cases hu:n.up with
 |false=>exact h
 |true=>
  have h1:IP Q (aF n).1:=Vb h hu
  exact az (p:=fun(x:(Nd×Bool)×List Ou)=>IP Q x.1.1) h (az (p:=fun(x:(Nd×Bool)×List Ou)=>IP Q x.1.1) h1 h1)
theorem vK(h:IP Q n)(ks:List Bool):IP Q (bS n ks).1:=by
 have hr:=A4 h.d ks
 unfold bS
 cases hu:n.up with
 |true=>exact h
 |false=>
  cases ha:!((cd (ce n.store.ao ks)).2==0) with
  |true=>exact⟨hr,fun hx=>absurd hx (by simp[hu])⟩
  |false=>
   obtain⟨h1,h2⟩:=Hd hr (by simpa using ha)
   exact⟨by show lD (IQ Q) (cd (ce n.store.ao ks)).1.ao;rw[h1];exact hr,fun _ hi=>h2 hi⟩
structure qV(n:Nd):Prop where
 q:n.bL.on=true->n.aN=true
 a:n.cb=true->n.aN=false
structure Sm(n m:Nd):Prop where
 id:m.id=n.id
 h:(m.bL=n.bL/\m.cb=n.cb/\m.aN=n.aN)\/(m.bL.on=false/\m.cb=false)
theorem Sm.refl(n:Nd):Sm n n:=⟨rfl,af ⟨rfl,rfl,rfl⟩⟩
theorem Sm.trans{a b c:Nd}(h:Sm a b)(k:Sm b c):Sm a c:=by
 refine⟨k.id.trans h.id,?_⟩
 rcases k.h with⟨k1,k2,k3⟩|k1
 ·rcases h.h with⟨h1,h2,h3⟩|⟨h1,h2⟩
  ·exact af ⟨k1.trans h1,k2.trans h2,k3.trans h3⟩
  ·exact ab ⟨by rw[k1];exact h1,by rw[k2];exact h2⟩
 ·exact ab k1
theorem Sm.rq{m:Nd}(h:Sm n m)(k:qV n):qV m:=by
 rcases h.h with⟨h1,h2,h3⟩|⟨h1,h2⟩
 ·exact⟨by rw[h1,h3];exact k.q,by rw[h2,h3];exact k.a⟩
 ·exact⟨fun h=>absurd (h1.symm.trans h) (by simp),fun h=>absurd (h2.symm.trans h) (by simp)⟩
theorem Sm.on{m:Nd}(h:Sm n m)(k:m.bL.on=true):n.bL.on=true:=by
 rcases h.h with⟨h1,_⟩|⟨h1,_⟩
 ·rw[<-h1];exact k
 ·exact absurd (h1.symm.trans k) (by simp)
theorem I5{m:Nd}(h:m.id=n.id):Sm n (dz m):=⟨h,ab ⟨rfl,rfl⟩⟩
theorem vL(n:Nd)(s:So)(e:Int):Sm n (gy n s e).1:=by
 unfold gy
 exact az (p:=fun(x:Nd×Bool)=>Sm n x.1) (I5 rfl) ⟨rfl,af ⟨rfl,rfl,rfl⟩⟩
theorem jP(n:Nd)(b:Su):Sm n (aH n b).1:=by
 unfold aH
 exact az (p:=fun(x:Nd×Bool)=>Sm n x.1) (I5 rfl) ⟨rfl,af ⟨rfl,rfl,rfl⟩⟩
theorem Qj(n:Nd)(b:Int)(x:ByteArray):Sm n (im n b x).1:=by
 have h1:Sm n (gj n b).1:=vL _ _ _
 unfold im
 exact az (p:=fun(x:Nd×Bool)=>Sm n x.1) h1 (h1.trans (vL _ _ _))
theorem wI(n:Nd)(b:Int):Sm n (bi n b).1:=vL _ _ _
theorem LG(n:Nd):Sm n (a9 n).1:=by
 unfold a9
 cases n.aQ with
 |nil=>exact Sm.refl n
 |cons g r=>
  show Sm n (jo n g r).1
  unfold jo
  have h1:Sm n (aH (nO n g r) (pI n g)).1:=(show Sm n (nO n g r) from⟨rfl,af ⟨rfl,rfl,rfl⟩⟩).trans (jP _ _)
  exact az (p:=fun(x:Nd×Int)=>Sm n x.1) ⟨rfl,af ⟨rfl,rfl,rfl⟩⟩ (az (p:=fun(x:Nd×Int)=>Sm n x.1) h1 ⟨h1.id,h1.h⟩)
def wJ(i:Int)(l:List Ou):Prop:=∀o∈l,o.node=i
def FZ(i:Int)(l:List Ou):Prop:=∀o∈l,o.ae=2->o.j2=0->o.node≠i
theorem wJ.nil(i:Int):wJ i []:=fun o h=>absurd h (by simp)
theorem FZ.nil(i:Int):FZ i []:=fun o h=>absurd h (by simp)
variable{i:Int}
theorem wJ.cons(h:o.node=i)(hl:wJ i l):wJ i (o::l):=fun x hx=>by
 rcases cM.1 hx with rfl|hx
 ·exact h
 ·exact hl x hx
theorem FZ.cons(h:o.ae=2->o.j2≠0)(hl:FZ i l):FZ i (o::l):=fun x hx hk he=>by
 rcases cM.1 hx with rfl|hx
 ·exact absurd he (h hk)
 ·exact hl x hx hk he
theorem wJ.app{m:List Ou}(h:wJ i l)(k:wJ i m):wJ i (l++m):=fun x hx=>(df.1 hx).elim (h x) (k x)
theorem FZ.app{m:List Ou}(h:FZ i l)(k:FZ i m):FZ i (l++m):=fun x hx=>(df.1 hx).elim (h x) (k x)
structure Ct(n:Nd)(x:Nd×List Ou):Prop where
 ok:qV x.1
 id:x.1.id=n.id
 ow:wJ n.id x.2
 kp:x.1.bL.on=true->n.bL.on=true/\FZ n.id x.2
theorem mJ(hx:Ct n x)(hy:Ct n y):Ct n (bif b then x else y):=by
 cases b
 ·exact hy
 ·exact hx
theorem uK(hx:b=true->Ct n x)(hy:b=false->Ct n y):Ct n (bif b then x else y):=by
 cases b
 ·exact hy rfl
 ·exact hx rfl
theorem LH{m:Nd}(h:qV n)(hs:Sm n m)(ho:wJ n.id l)(hk:FZ n.id l):Ct n (m,l):=⟨hs.rq h,hs.id,ho,fun hr=>⟨hs.on hr,hk⟩⟩
theorem oD(h:qV n)(id e:Int)(x:ByteArray)(he:e≠0):Ct n (n,[ap n id e x]):=
 LH h (Sm.refl n) (.cons rfl (.nil _)) (.cons (fun _=>he) (.nil _))
theorem pF{m:Nd}(h:qV n)(hs:Sm n m):Ct n (m,[]):=LH h hs (.nil _) (.nil _)
theorem Ol{m k:Nd}(h:qV n)(hs:Sm n m)(p:Pk)(hk:k.id=n.id):Ct n (m,[bE k p]):=
 LH h hs (.cons hk (.nil _)) (.cons (fun h2=>absurd h2 (by simp[bE])) (.nil _))
theorem vM{m:Nd}(hq:qV m)(gm:m.id=n.id)(ho:wJ n.id l)(hr:m.bL.on=false):Ct n (m,l):=⟨hq,gm,ho,fun h=>absurd (hr.symm.trans h) (by simp)⟩
theorem np(h:qV n)(hp:n.aN=false):n.bL.on=false:=by
 cases hr:n.bL.on with
 |false=>rfl
 |true=>have:=h.q hr;rw[hp] at this;cases this
theorem vN{m:Nd}(hs:Sm n m)(h:n.bL.on=false):m.bL.on=false:=by
 cases hr:m.bL.on with
 |false=>rfl
 |true=>have:=hs.on hr;rw[h] at this;cases this
theorem LJ(h:qV n)(id:Int):Ct n (cj n id):=by
 unfold cj
 refine mJ (oD h _ _ _ (by decide)) (uK (fun _=>oD h _ _ _ (by decide)) (fun hp=>mJ (oD h _ _ _ (by decide)) (mJ (oD h _ _ _ (by decide)) (uK (fun _=>oD h _ _ _ (by decide)) (fun hb=>mJ (oD h _ _ _ (by decide)) (mJ ?_ ?_))))))
 ·exact⟨⟨h.q,fun _=>hp⟩,rfl, .cons (by rfl) (.nil _),fun hr=>⟨hr, .cons (fun h2=>absurd h2 (by simp[bE])) (.nil _)⟩⟩
 ·have hs:=jP n {n.store.aj with cH:=true}
  have ho:=vN hs (np h hp)
  simp only[eh] at hb
  have ha:(aH n {n.store.aj with cH:=true}).1.cb=false:=by
   rcases hs.h with⟨_,h2,_⟩|⟨_,h2⟩
   ·rw[h2];exact hb.2
   ·exact h2
  refine mJ (pF h hs) (vM ⟨fun _=>rfl,fun h2=> ?_⟩ hs.id (.cons (by exact hs.id) (.nil _)) ho)
  have h2:(aH n {n.store.aj with cH:=true}).1.cb=true:=h2
  rw[ha] at h2;cases h2
theorem Om(h:qV n)(id:Int):Ct n (dN n id):=by
 unfold dN
 refine mJ (oD h _ _ _ (by decide)) (uK (fun _=>oD h _ _ _ (by decide)) (fun hp=>uK (fun _=>oD h _ _ _ (by decide)) (fun hb=> ?_)))
 have hs:=jP n {n.store.aj with cH:=false}
 simp only[eh] at hb
 have ho:=vN hs hb.1
 have hq:qV {(aH n {n.store.aj with cH:=false}).1 with aN:=false}:=⟨fun h2=>absurd (ho.symm.trans h2) (by simp),fun _=>rfl⟩
 refine mJ (pF h hs) (mJ (vM (by exact hq) (by exact hs.id) (.cons (by exact hs.id) (.cons (by exact hs.id) (.nil _))) ho) (vM (by exact hq) (by exact hs.id) (.cons (by exact hs.id) (.nil _)) ho))
theorem LK(h:qV n)(id:Int):Ct n (dj n id):=by
 unfold dj
 refine mJ (oD h _ _ _ (by decide)) (uK (fun _=>oD h _ _ _ (by decide)) (fun hp=>mJ (oD h _ _ _ (by decide)) ?_))
 have hs:=jP n {n.store.aj with dg:=true}
 exact mJ (pF h hs) (vM (hs.rq h) (by exact hs.id) (.cons (by exact hs.id) (.nil _)) (vN hs (np h hp)))
theorem R6(h:qV n)(b:Int):Ct n (iR n b):=by
 have hs:=wI {n with bL:=iE} b
 have h0:qV {n with bL:=iE}:=⟨fun h2=>absurd h2 (by simp[iE]),h.a⟩
 have ho:=vN hs rfl
 have hi:(bi {n with bL:=iE} b).1.id=n.id:=hs.id
 unfold iR
 exact mJ (pF h (Sm.refl n)) (mJ (vM (hs.rq h0) hi (.cons (by rfl) (.nil _)) ho) (vM (hs.rq h0) hi (.cons rfl (.cons hi (.nil _))) ho))
theorem R7(h:qV n)(b:Int)(x:ByteArray):Ct n (jt n b x):=by
 have hs:=Qj n b x
 unfold jt
 exact mJ (pF h hs) (Ol h hs _ (by exact hs.id))
theorem LL(h:qV n):Ct n (fZ n):=by
 have hs:=jP n (n9 n)
 unfold fZ
 exact mJ (pF h (Sm.refl n)) (mJ (Ol h (by exact⟨rfl,af ⟨rfl,rfl,rfl⟩⟩) _ (by rfl)) (mJ (pF h hs) (Ol h hs _ (by exact hs.id))))
theorem Y3(h:qV n)(b:Int)(x:ByteArray):Ct n (nc n b x):=by
 have h1:Sm n (eE n b x).1:=vL _ _ _
 have h2:=h1.trans (wI (eE n b x).1 b)
 have h3:Sm n (nP n b x):=⟨h2.id,h2.h⟩
 have hk:=LL (h3.rq h)
 unfold nc
 refine mJ (pF h (Sm.refl n)) (mJ (pF h h1) (mJ (pF h h2) ⟨hk.ok,hk.id.trans h3.id,?_,fun hr=> ?_⟩))
 ·have:=hk.ow
  rw[h3.id] at this
  exact wJ.app (.cons h3.id (.nil _)) this
 ·obtain⟨k1,k2⟩:=hk.kp hr
  rw[h3.id] at k2
  exact⟨h3.on k1,FZ.app (.cons (fun h2=>absurd h2 (by simp[bE])) (.nil _)) k2⟩
theorem R8(h:qV n):Ct n (ju n):=by
 have hs:=jP n (hZ n)
 unfold ju
 exact mJ (pF h hs) (Ol h (by exact⟨hs.id,hs.h⟩) _ (by exact hs.id))
theorem R9(h:qV n)(k:Int)(hk:k≠10->k≠12->k≠13->n.cb=true):Ct n (ed n k):=by
 unfold ed
 refine uK (fun _=>mJ (Ol h (Sm.refl n) _ (by rfl)) (Ol h (by exact⟨rfl,af ⟨rfl,rfl,rfl⟩⟩) _ (by rfl))) (fun k1=>uK (fun _=> ?_) (fun k2=>uK (fun _=>pF h (by exact⟨rfl,af ⟨rfl,rfl,rfl⟩⟩)) (fun k3=> ?_)))
 ·exact⟨⟨h.q,fun h2=>absurd h2 (by simp)⟩,rfl, .cons (by rfl) (.nil _),fun hr=>⟨hr, .cons (fun _=>by show(12:Int)≠0;decide) (.nil _)⟩⟩
 ·have ha:=hk (by simpa using k1) (by simpa using k2) (by simpa using k3)
  have hs:=jP n (lM n)
  have ho:=vN hs (np h (h.a ha))
  exact mJ (pF h hs) (vM ⟨fun _=>rfl,fun h2=>absurd h2 (by simp)⟩ hs.id (.cons (by exact hs.id) (.nil _)) ho)
theorem Y4(h:qV n)(H:He)(v:Vd)(m:BitVec 32):Ct n (lB n H v m):=by
 have s1:=jP n (hZ n)
 have s2:Sm n (kv n m).1:=vL _ _ _
 have s3:=s2.trans (jP (kv n m).1 (p7 n H))
 have s4:Sm n (qG (aH (kv n m).1 (p7 n H)).1 H 4):=⟨s3.id,s3.h⟩
 have hk:=LL (s4.rq h)
 unfold lB
 refine mJ (LH h (Sm.refl n) (.cons (by rfl) (.nil _)) (.cons (fun h2=>absurd h2 (by simp[e9])) (.nil _))) (mJ (mJ (pF h ⟨s1.id,s1.h⟩) (pF h s1)) (mJ (pF h s2) (mJ (pF h ⟨s2.id,s2.h⟩) (mJ (pF h s3) ⟨hk.ok,hk.id.trans s4.id,?_,fun hr=> ?_⟩))))
 ·have:=hk.ow
  rw[s4.id] at this
  exact this
 ·obtain⟨k1,k2⟩:=hk.kp hr
  rw[s4.id] at k2
  exact⟨s4.on k1,k2⟩
theorem Vc(h:qV n)(hf:bO n p=true):Ct n (jX n p):=by
 unfold jX
 refine uK (fun _=>Y4 h _ _ _) (fun k1=>uK (fun _=>R7 h _ _) (fun k2=>uK (fun _=>R6 h _) (fun k3=>uK (fun _=>pF h (wI n _)) (fun k4=>uK (fun _=>Ol h (Sm.refl n) _ (by rfl)) (fun k5=>uK (fun _=>Y3 h _ _) (fun k6=>uK (fun _=> ?_) (fun k7=>uK (fun _=>R8 h) (fun k8=>uK (fun _=>pF h (by exact⟨rfl,af ⟨rfl,rfl,rfl⟩⟩)) (fun k9=>R9 h _ ?_)))))))))
 ·refine pF h ?_
  unfold io
  exact az (p:=fun(x:Nd)=>Sm n x) (Sm.refl n) (wI n _)
 ·intro n10 n12 n13
  unfold bO at hf
  have e10:(p.ae==10)=false:=by simpa using n10
  have e12:(p.ae==12)=false:=by simpa using n12
  have e13:(p.ae==13)=false:=by simpa using n13
  rw[k1,k2,k3,k4,k5,k6,k7,k8,k9,e10,e12,e13] at hf
  cases ha:n.cb with
  |true=>rfl
  |false=>
   rw[ha] at hf
   revert hf
   cases(!n.up||decide (p.ae>=2)&&decide (p.ae<=7)&&decide (p.block>=n.store.aj.an))<;>cases p.ae==11<;>simp
theorem BW(h:qV n)(b:ByteArray):Ct n (bF n b):=by
 unfold bF
 refine mJ (pF h (Sm.refl n)) (mJ (pF h (Sm.refl n)) (uK (fun _=>LH h (Sm.refl n) (.cons (by rfl) (.nil _)) (.cons (fun h2=>absurd h2 (by simp[e9])) (.nil _))) (fun hf=> ?_)))
 rw[eh] at hf
 exact Vc h (FY hf.2)
theorem On(n:Nd):wJ n.id (iS n):=by
 unfold iS
 cases n.cb
 ·exact .nil _
 ·exact .cons rfl (.nil _)
structure Ls(n:Nd)(x:Nd×List Ou):Prop where
 rq:qV x.1
 id:x.1.id=n.id
 ow:wJ n.id x.2
 kp:x.1.bL.on=true->n.bL.on=true/\x.2=[]
theorem acy(hx:b=true->Ls n x)(hy:b=false->Ls n y):Ls n (bif b then x else y):=by
 cases b
 ·exact hy rfl
 ·exact hx rfl
theorem Oo(hq:qV x.1)(gm:x.1.id=n.id)(ho:wJ n.id x.2)(hr:x.1.bL.on=false):Ls n x:=⟨hq,gm,ho,fun h=>absurd (hr.symm.trans h) (by simp)⟩
theorem LM(h:qV n):Ls n (aF n):=by
 have q0:qV (ei n):=⟨fun h=>absurd h (by simp[ei,iE]),fun h=>absurd h (by simp[ei])⟩
 have s1:=LG (ei n)
 have o1:(a9 (ei n)).1.bL.on=false:=vN s1 rfl
 have i1:(a9 (ei n)).1.id=n.id:=s1.id
 have ha:=On n
 unfold aF
 refine acy (fun _=>⟨h,rfl, .nil _,fun h=>⟨h,rfl⟩⟩) (fun _=>acy (fun _=>Oo q0 rfl ha rfl) (fun _=>acy (fun _=>Oo (s1.rq q0) i1 ha o1) (fun _=>Oo (s1.rq q0) i1 ?_ o1)))
 exact ha.app (.cons i1 (.nil _))
theorem LN(h:qV n)(w:Bool):Ls n ((eD n w).1.1,(eD n w).2):=by
 have h1:=LM h
 unfold eD
 cases hu:n.up with
 |false=>exact⟨h,rfl, .nil _,fun h=>⟨h,rfl⟩⟩
 |true=>
  cases(aF n).1.up
  ·exact h1
  ·exact h1
def I6(i:Int)(l:List Ou):Prop:=∀o∈l,o.node≠i
theorem I6.nil(i:Int):I6 i []:=fun o h=>absurd h (by simp)
theorem I6.app{m:List Ou}(h:I6 i l)(k:I6 i m):I6 i (l++m):=fun x hx=>(df.1 hx).elim (h x) (k x)
theorem wJ.non{j:Int}(h:wJ i l)(pj:i≠j):I6 j l:=fun o ho=>by rw[h o ho];exact pj
theorem wJ.kept(h:wJ i l):wJ i (a_ l):=fun o ho=>h o (List.mem_filter.1 ho).1
structure Qi(c:Cl):Prop where
 i0:c.n0.id=0
 i1:c.n1.id=1
 q0:qV c.n0
 q1:qV c.n1
def X4(l:List Ou):Prop:=∀o∈l,o.node=0\/o.node=1
theorem X4.nil:X4 []:=fun o h=>absurd h (by simp)
theorem X4.app{m:List Ou}(h:X4 l)(k:X4 m):X4 (l++m):=fun x hx=>(df.1 hx).elim (h x) (k x)
theorem wJ.nds(h:wJ i l)(hi:i=0\/i=1):X4 l:=fun o ho=>by rw[h o ho];exact hi
structure Qt(c d:Cl)(l:List Ou):Prop where
 ok:Qi d
 nd:X4 l
 k0:d.n0.bL.on=true->c.n0.bL.on=true/\I6 0 l
 k1:d.n1.bL.on=true->c.n1.bL.on=true/\I6 1 l
theorem Qt.refl(h:Qi c):Qt c c []:=⟨h, .nil,fun h=>⟨h, .nil _⟩,fun h=>⟨h, .nil _⟩⟩
theorem Qt.trans{a b:Cl}{m:List Ou}(h:Qt a b l)(k:Qt b c m):Qt a c (l++m):=
 ⟨k.ok,h.nd.app k.nd,fun x=>⟨(h.k0 (k.k0 x).1).1,(h.k0 (k.k0 x).1).2.app (k.k0 x).2⟩,fun x=>⟨(h.k1 (k.k1 x).1).1,(h.k1 (k.k1 x).1).2.app (k.k1 x).2⟩⟩
theorem Qi.n_{d:Cl}(h:Qi c)(h0:d.n0=c.n0)(h1:d.n1=c.n1):Qi d:=⟨by rw[h0];exact h.i0,by rw[h1];exact h.i1,by rw[h0];exact h.q0,by rw[h1];exact h.q1⟩
theorem Qt.n_{d:Cl}(h:Qi c)(h0:d.n0=c.n0)(h1:d.n1=c.n1):Qt c d []:=⟨h.n_ h0 h1, .nil,fun x=>⟨by rw[<-h0];exact x, .nil _⟩,fun x=>⟨by rw[<-h1];exact x, .nil _⟩⟩
theorem I7(h:Qi c):Qt c (f9 c).1 (f9 c).2:=by
 have l0:=LN h.q0 c.w0
 have l1:=LN h.q1 c.w1
 have o0:=l0.ow
 have o1:=l1.ow
 rw[h.i0] at o0
 rw[h.i1] at o1
 refine⟨⟨l0.id.trans h.i0,l1.id.trans h.i1,l0.rq,l1.rq⟩,(o0.nds (af rfl)).app (o1.nds (ab rfl)),fun x=> ?_,fun x=> ?_⟩
 ·obtain⟨k1,k2⟩:=l0.kp x
  refine⟨k1,?_⟩
  show I6 0 ((eD c.n0 c.w0).2++(eD c.n1 c.w1).2)
  have k2:(eD c.n0 c.w0).2=[]:=k2
  rw[k2]
  exact o1.non (by decide)
 ·obtain⟨k1,k2⟩:=l1.kp x
  refine⟨k1,?_⟩
  show I6 1 ((eD c.n0 c.w0).2++(eD c.n1 c.w1).2)
  have k2:(eD c.n1 c.w1).2=[]:=k2
  rw[k2,dS]
  exact o0.non (by decide)
theorem LO(c:Cl)(i:Int)(n:Nd)(l:List Ou):(cW c i n l).n0=(bB c i n).n0/\(cW c i n l).n1=(bB c i n).n1:=by
 unfold cW
 cases n.up
 ·exact⟨gA _ _ _,gB _ _ _⟩
 ·exact⟨rfl,rfl⟩
theorem wK(h:Qi (bB c i n)):∃m,(aW c i n l).2=a_ l++m/\Qt (bB c i n) (aW c i n l).1 m:=by
 obtain⟨e0,e1⟩:=LO c i n l
 unfold aW
 cases !(cW c i n l).ai.up||n.up&&!d6 l with
 |true=>exact⟨[],(dS _).symm,Qt.n_ h e0 e1⟩
 |false=>
  cases d6 l with
  |true=>
   have hq:Qi {cW c i n l with w0:=false,w1:=false}:=h.n_ e0 e1
   have:=(Qt.n_ (d:={cW c i n l with w0:=false,w1:=false}) h e0 e1).trans (I7 hq)
   exact⟨_,rfl,this⟩
  |false=>
   have:=(Qt.n_ (d:=cW c i n l) h e0 e1).trans (I7 (h.n_ e0 e1))
   exact⟨_,rfl,this⟩
theorem BX(n:Nd)(s:Int):a_ (d7 n s).2=[]:=rfl
theorem R_(h:Qi c):Qt c (cZ c).1 (cZ c).2:=by
 have hq:Qi (bB c 0 (d7 c.n0 c.ai.bd).1):=⟨h.i0,h.i1,⟨h.q0.q,h.q0.a⟩,h.q1⟩
 obtain⟨m,h1,h2⟩:=wK (l:=(d7 c.n0 c.ai.bd).2) hq
 rw[BX,jf] at h1
 unfold cZ
 rw[h1]
 exact⟨h2.ok,h2.nd,h2.k0,h2.k1⟩
theorem Sa(h:Qi c):Qt c (gz c).1 (gz c).2:=by
 have hq:Qi (bB c 1 (d7 c.n1 c.ai.bd).1):=⟨h.i0,h.i1,h.q0,⟨h.q1.q,h.q1.a⟩⟩
 obtain⟨m,h1,h2⟩:=wK (l:=(d7 c.n1 c.ai.bd).2) hq
 rw[BX,jf] at h1
 unfold gz
 rw[h1]
 exact⟨h2.ok,h2.nd,h2.k0,h2.k1⟩
theorem LP(h:Qi c)(i:Int):Qt c (ir c i).1 (ir c i).2:=by
 have hp:Qt c (bq c i true) []:=Qt.n_ h (gA _ _ _) (gB _ _ _)
 unfold ir
 cases !(fL c i).up with
 |true=>exact Qt.refl h
 |false=>
  cases !Ey (bq c i true) (1-i)||!(fL c (1-i)).up||c.ai.up with
  |true=>exact hp
  |false=>
   have ho:Qt c {bq c i true with ai:=fU c.ai} []:=Qt.n_ h (gA _ _ _) (gB _ _ _)
   have h0:=R_ ho.ok
   have h1:=Sa h0.ok
   exact(ho.trans (h0.trans h1))
theorem Qk(h:Qi c):Qt c (x9 c).1 (x9 c).2:=by
 unfold x9
 cases !c.ai.up
 ·exact I7 h
 ·exact Qt.refl h
structure Wv1(e:bg)(i:Int)(n m:Nd)(l:List Ou):Prop where
 kp:m.bL.on=true->(n.bL.on=true/\(e.ae=4\/FZ i l))\/(e.ae=5/\e.node=i/\I6 i l)
structure X5(e:bg)(c d:Cl)(l:List Ou):Prop where
 ok:Qi d
 nd:X4 l
 e0:Wv1 e 0 c.n0 d.n0 l
 e1:Wv1 e 1 c.n1 d.n1 l
theorem I6.X6(h:I6 i l):FZ i l:=fun o ho _ _=>h o ho
variable{e:bg}
theorem Qt.ev{d:Cl}(h:Qt c d l):X5 e c d l:=
 ⟨h.ok,h.nd,⟨fun x=>af ⟨(h.k0 x).1,ab (h.k0 x).2.X6⟩⟩,⟨fun x=>af ⟨(h.k1 x).1,ab (h.k1 x).2.X6⟩⟩⟩
theorem FZ.kept(h:FZ i l):FZ i (a_ l):=fun o ho=>h o (List.mem_filter.1 ho).1
theorem EZ(h:Qi c)(hi:i=0\/i=1)(hq:qV n)(gm:n.id=(fL c i).id)(ho:wJ i l)(hk:n.bL.on=true->((fL c i).bL.on=true/\(e.ae=4\/FZ i (a_ l)))\/(e.ae=5/\e.node=i/\I6 i (a_ l))):X5 e c (aW c i n l).1 (aW c i n l).2:=by
 rcases hi with rfl|rfl
 ·have hQ:Qi (bB c 0 n):=⟨gm.trans h.i0,h.i1,hq,h.q1⟩
  obtain⟨m,h1,h2⟩:=wK (l:=l) hQ
  rw[h1]
  refine⟨h2.ok,(ho.kept.nds (af rfl)).app h2.nd,⟨fun x=> ?_⟩,⟨fun x=> ?_⟩⟩
  ·obtain⟨k1,k2⟩:=h2.k0 x
   rcases hk k1 with⟨a,b⟩|⟨a,b,d⟩
   ·refine af ⟨a,b.imp id fun b=>b.app k2.X6⟩
   ·exact ab ⟨a,b,d.app k2⟩
  ·obtain⟨k1,k2⟩:=h2.k1 x
   exact af ⟨k1,ab ((ho.kept.non (by decide)).app k2).X6⟩
 ·have hQ:Qi (bB c 1 n):=⟨h.i0,gm.trans h.i1,h.q0,hq⟩
  obtain⟨m,h1,h2⟩:=wK (l:=l) hQ
  rw[h1]
  refine⟨h2.ok,(ho.kept.nds (ab rfl)).app h2.nd,⟨fun x=> ?_⟩,⟨fun x=> ?_⟩⟩
  ·obtain⟨k1,k2⟩:=h2.k0 x
   exact af ⟨k1,ab ((ho.kept.non (by decide)).app k2).X6⟩
  ·obtain⟨k1,k2⟩:=h2.k1 x
   rcases hk k1 with⟨a,b⟩|⟨a,b,d⟩
   ·refine af ⟨a,b.imp id fun b=>b.app k2.X6⟩
   ·exact ab ⟨a,b,d.app k2⟩
theorem Qi.at(h:Qi c)(hi:i=0\/i=1):(fL c i).id=i/\qV (fL c i):=by
 rcases hi with rfl|rfl
 ·exact⟨h.i0,h.q0⟩
 ·exact⟨h.i1,h.q1⟩
theorem qJ(h:Qi c)(hi:i=0\/i=1)(hx:Ct (fL c i) x):X5 e c (aW c i x.1 x.2).1 (aW c i x.1 x.2).2:=by
 have ha:=h.at hi
 have ho:=hx.ow
 rw[ha.1] at ho
 refine EZ h hi hx.ok hx.id ho fun y=> ?_
 obtain⟨k1,k2⟩:=hx.kp y
 rw[ha.1] at k2
 exact af ⟨k1,ab k2.kept⟩
structure Wt(n:Nd)(x:Nd×List Ou):Prop where
 rq:qV x.1
 id:x.1.id=n.id
 ow:wJ n.id x.2
 kp:x.1.bL.on=true->(n.bL.on=true/\FZ n.id (a_ x.2))\/I6 n.id (a_ x.2)
theorem Wt.of(h:Ct n x):Wt n x:=⟨h.ok,h.id,h.ow,fun y=>af ⟨(h.kp y).1,(h.kp y).2.kept⟩⟩
theorem Sb(hx:b=true->Wt n x)(hy:b=false->Wt n y):Wt n (bif b then x else y):=by
 cases b
 ·exact hy rfl
 ·exact hx rfl
theorem I8{m:Nd}(hq:qV n)(hs:Sm n m)(ho:wJ n.id l)(hn:n.bL.on=false):Ct n (m,l):=vM (hs.rq hq) hs.id ho (vN hs hn)
theorem E0{s:So}{e:Int}(h:(gy n s e).2=true):(gy n s e).1={n with store:=s}:=by
 revert h
 unfold gy
 cases !(e==0)
 ·exact fun _=>rfl
 ·exact fun h=>absurd h (by simp)
theorem Se{b:Int}{x:ByteArray}(h:(im n b x).2=true):(im n b x).1.aN=n.aN/\(im n b x).1.cb=n.cb:=by
 revert h
 unfold im
 cases h1:(gj n b).2 with
 |false=>exact fun h=>absurd h (by simp)
 |true=>
  intro h
  have h:(gy (gj n b).1 (jn (gj n b).1.store b x).1 (jn (gj n b).1.store b x).2).2=true:=h
  have e1:(gj n b).1={n with store:=(mZ n.store b).1}:=E0 h1
  have e2:=E0 h
  show(gy (gj n b).1 (jn (gj n b).1.store b x).1 (jn (gj n b).1.store b x).2).1.aN=_/\(gy (gj n b).1 (jn (gj n b).1.store b x).1 (jn (gj n b).1.store b x).2).1.cb=_
  rw[e2,e1]
  exact⟨rfl,rfl⟩
theorem Hm(h:qV n)(hn:n.bL.on=false)(hp:n.aN=true)(id b:Int)(x:ByteArray):Wt n (dL n id b x):=by
 have hs:=Qj n b x
 have gm:(im n b x).1.id=n.id:=hs.id
 unfold dL
 refine Sb (fun _=> .of (I8 h hs (.nil _) hn)) (fun hl=>Sb (fun _=> .of (I8 h hs (.cons gm (.nil _)) hn)) (fun _=> ?_))
 obtain⟨h3,h2⟩:=Se (by simpa using hl)
 refine⟨⟨fun _=>h3.trans hp,fun ha=> ?_⟩,gm, .cons gm (.nil _),fun _=>ab (.nil _)⟩
 have ha:(im n b x).1.cb=true:=ha
 rw[h2] at ha
 exact absurd (h.a ha) (by rw[hp];simp)
theorem Gl{b:Su}(h:(aH n b).2=true):(aH n b).1.aN=n.aN:=by
 revert h
 unfold aH
 cases !((dM n.store b).2==0)
 ·exact fun _=>rfl
 ·exact fun h=>absurd h (by simp)
theorem Oq(hz:(a9 n).2=0):(a9 n).1.aN=n.aN:=by
 revert hz
 unfold a9
 cases n.aQ with
 |nil=>exact fun h=>absurd h (show(14:Int)≠0 by decide)
 |cons g r=>
  show(jo n g r).2=0->(jo n g r).1.aN=n.aN
  unfold jo
  cases g==0 with
  |true=>exact fun h=>absurd h (by simp)
  |false=>
   cases h1:(aH (nO n g r) (pI n g)).2 with
   |false=>exact fun h=>absurd h (by simp)
   |true=>exact fun _=>Gl h1
theorem Sf(h:qV n)(id b:Int)(x:ByteArray):Wt n (cD n id b x):=by
 unfold cD
 refine Sb (fun hb=> .of (oD h _ _ _ (by simpa using hb))) (fun hb=> ?_)
 obtain⟨hu,hp,hn⟩:=BU (FY hb)
 have hs:=LG n
 have hi:(a9 n).1.id=n.id:=hs.id
 have w2:=Hm h hn hp id b x
 refine Sb (fun _=>Sb (fun _=> .of (I8 h hs (.nil _) hn)) (fun k6=>Sb (fun _=> .of (I8 h hs (.cons hi (.nil _)) hn)) (fun k0=> ?_))) (fun _=>w2)
 have w3:=Hm (hs.rq h) (vN hs hn) ((Oq (by simpa using k0)).trans hp) id b x
 refine⟨w3.rq,w3.id.trans hi,?_,fun y=> ?_⟩
 ·have:=w3.ow;rw[hi] at this;exact this
 ·have:=w3.kp y
  rw[hi] at this
  rcases this with⟨a,_⟩|a
  ·exact absurd (hs.on a) (by rw[hn];simp)
  ·exact ab a
theorem LQ(n:Nd)(id b:Int):(js n id b).1=n:=by
 unfold js
 exact az (p:=fun(x:Nd×List Ou)=>x.1=n) rfl (az (p:=fun(x:Nd×List Ou)=>x.1=n) rfl rfl)
theorem Sg(n:Nd)(id b:Int):wJ n.id (js n id b).2:=by
 unfold js
 exact az (p:=fun(x:Nd×List Ou)=>wJ n.id x.2) (.cons rfl (.nil _)) (az (p:=fun(x:Nd×List Ou)=>wJ n.id x.2) (.cons rfl (.nil _)) (.cons rfl (.nil _)))
theorem vO(h:qV n)(ks:List Bool):qV (bS n ks).1/\(bS n ks).1.id=n.id/\((bS n ks).1.bL.on=true->n.bL.on=true/\(bS n ks).2≠0):=by
 unfold bS
 cases n.up with
 |true=>exact⟨h,rfl,fun x=>⟨x,show(7:Int)≠0 by decide⟩⟩
 |false=>
  cases ha:!((cd (ce n.store.ao ks)).2==0) with
  |true=>exact⟨⟨h.q,h.a⟩,rfl,fun x=>⟨x,by simpa using ha⟩⟩
  |false=>exact⟨⟨fun x=>absurd x (by simp[iE]),fun x=>absurd x (by simp)⟩,rfl,fun x=>absurd x (by simp[iE])⟩
theorem Sh(n:Nd)(k:Int):Sm n (iF n k):=by
 unfold iF
 cases n.up
 ·exact Sm.refl n
 ·exact⟨rfl,af ⟨rfl,rfl,rfl⟩⟩
theorem Vf(n:Nd)(k:Int):Sm n (fd n k):=by
 unfold fd
 cases decide ((n.aQ.length:Int)<1000)
 ·exact Sm.refl n
 ·exact⟨rfl,af ⟨rfl,rfl,rfl⟩⟩
theorem E1(h:Qi c)(hi:i=0\/i=1)(hq:qV n)(gm:n.id=(fL c i).id)(ho:wJ i l)(hk:n.bL.on=true->(fL c i).bL.on=true/\FZ i l):X5 e c (bB c i n) l:=by
 rcases hi with rfl|rfl
 ·exact⟨⟨gm.trans h.i0,h.i1,hq,h.q1⟩,ho.nds (af rfl),⟨fun x=>af ⟨(hk x).1,ab (hk x).2⟩⟩,⟨fun x=>af ⟨x,ab (ho.non (by decide)).X6⟩⟩⟩
 ·exact⟨⟨h.i0,gm.trans h.i1,h.q0,hq⟩,ho.nds (ab rfl),⟨fun x=>af ⟨x,ab (ho.non (by decide)).X6⟩⟩,⟨fun x=>af ⟨(hk x).1,ab (hk x).2⟩⟩⟩
theorem vP{x y:Cl×List Ou}(hx:b=true->X5 e c x.1 x.2)(hy:b=false->X5 e c y.1 y.2):X5 e c (bif b then x else y).1 (bif b then x else y).2:=by
 cases b
 ·exact hy rfl
 ·exact hx rfl
theorem Y5(h:Qi c)(hi:i=0\/i=1)(hn:e.node=i):X5 e c (jv c e i (fL c i)).1 (jv c e i (fL c i)).2:=by
 obtain⟨gm,hq⟩:=h.at hi
 have r0:X5 e c c []:=(Qt.refl h).ev
 unfold jv
 refine vP (fun _=>qJ h hi (LJ hq _)) (fun _=>vP (fun _=>qJ h hi (Om hq _)) (fun _=>vP (fun _=>qJ h hi (LK hq _)) (fun _=>vP (fun h4=> ?_) (fun _=>vP (fun h5=> ?_) (fun _=>
  vP (fun _=>(LP h i).ev) (fun _=>vP (fun _=> ?_) (fun _=>vP (fun _=>(Qk h).ev) (fun _=>vP (fun _=> ?_) (fun _=>vP (fun _=>vP (fun _=>r0) (fun _=>qJ (x:=(dz (fL c i),[])) h hi (pF hq (I5 rfl)))) (fun _=>
  vP (fun _=> ?_) (fun _=>vP (fun _=>qJ (x:=(iF (fL c i) e.n,[])) h hi (pF hq (Sh _ _))) (fun _=>vP (fun _=> ?_) (fun _=>vP (fun _=>vP (fun _=>r0) (fun _=>qJ h hi (BW hq _))) (fun _=>r0))))))))))))))
 ·have e1:=LQ (fL c i) e.id e.block
  have ow:=Sg (fL c i) e.id e.block
  rw[gm] at ow
  refine EZ h hi (by rw[e1];exact hq) (by rw[e1]) ow fun x=>af ⟨by rw[e1] at x;exact x,af (eq_of_beq h4)⟩
 ·have w:=Sf hq e.id e.block e.data
  have ow:=w.ow
  rw[gm] at ow
  refine EZ h hi w.rq w.id ow fun x=> ?_
  have:=w.kp x
  rw[gm] at this
  rcases this with⟨a,b⟩|b
  ·exact af ⟨a,ab b⟩
  ·exact ab ⟨eq_of_beq h5,hn,b⟩
 ·have hp:Qt c (bq c i false) []:=Qt.n_ h (gA _ _ _) (gB _ _ _)
  exact(hp.trans (Qk hp.ok)).ev
 ·unfold oz
  refine vP (fun _=>r0) (fun _=> ?_)
  have hq':Qi {c with ai:=(ge c.ai i).2.1}:=h.n_ rfl rfl
  have:=qJ (e:=e) (c:={c with ai:=(ge c.ai i).2.1}) hq' hi (BW hq (ge c.ai i).1)
  exact⟨this.ok,this.nd,this.e0,this.e1⟩
 ·obtain⟨h1,h2,h3⟩:=vO hq e.aU
  refine E1 h hi h1 h2 (.cons (by show(bS (fL c i) e.aU).1.id=i;rw[h2,gm]) (.nil _)) fun x=>⟨(h3 x).1, .cons (fun _=>(h3 x).2) (.nil _)⟩
 ·have hs:=Vf (fL c i) e.n
  exact E1 h hi (hs.rq hq) hs.id (.nil _) fun x=>⟨hs.on x, .nil _⟩
theorem Vg(h:Qi c):X5 e c (iI c e).1 (iI c e).2:=by
 unfold iI
 cases hb:!(e.node==0)&&!(e.node==1) with
 |true=>exact(Qt.refl h).ev
 |false=>
  have hi:e.node=0\/e.node=1:=by
   simp only[M0,ni,jF] at hb
   exact hb
  exact Y5 h hi rfl
structure J2(Q R:Prop)(c:Cl):Prop where
 j0:IP Q c.n0
 j1:IP R c.n1
variable{R:Prop}
theorem J2.n_{d:Cl}(h:J2 Q R c)(h0:d.n0=c.n0)(h1:d.n1=c.n1):J2 Q R d:=⟨by rw[h0];exact h.j0,by rw[h1];exact h.j1⟩
theorem I9(h:J2 Q R c):J2 Q R (f9 c).1:=⟨LF h.j0 _,LF h.j1 _⟩
theorem A5(h:J2 Q R (bB c i n)):J2 Q R (aW c i n l).1:=by
 obtain⟨e0,e1⟩:=LO c i n l
 have h1:J2 Q R (cW c i n l):=h.n_ e0 e1
 unfold aW
 refine az (p:=fun(x:Cl×List Ou)=>J2 Q R x.1) h1 (az (p:=fun(x:Cl×List Ou)=>J2 Q R x.1) ?_ (I9 h1))
 exact I9 (c:={cW c i n l with w0:=false,w1:=false}) (h.n_ e0 e1)
def Qof(Q R:Prop)(i:Int):Prop:=if i=0 then Q else R
theorem J2.at(h:J2 Q R c)(hi:i=0\/i=1):IP (Qof Q R i) (fL c i):=by
 rcases hi with rfl|rfl
 ·exact h.j0
 ·exact h.j1
theorem J2.put(h:J2 Q R c)(hi:i=0\/i=1)(hn:IP (Qof Q R i) n):J2 Q R (bB c i n):=by
 rcases hi with rfl|rfl
 ·exact⟨hn,h.j1⟩
 ·exact⟨h.j0,hn⟩
theorem Si(h:J2 Q R c):J2 Q R (cZ c).1:=A5 (J2.put h (af rfl) (h.j0.same rfl rfl))
theorem Sj(h:J2 Q R c):J2 Q R (gz c).1:=A5 (J2.put h (ab rfl) (h.j1.same rfl rfl))
theorem LR(h:J2 Q R c)(i:Int):J2 Q R (ir c i).1:=by
 have hp:J2 Q R (bq c i true):=h.n_ (gA _ _ _) (gB _ _ _)
 unfold ir
 refine az (p:=fun(x:Cl×List Ou)=>J2 Q R x.1) h (az (p:=fun(x:Cl×List Ou)=>J2 Q R x.1) hp ?_)
 have ho:J2 Q R {bq c i true with ai:=fU c.ai}:=h.n_ (gA _ _ _) (gB _ _ _)
 exact Sj (Si ho)
theorem Ql(h:J2 Q R c):J2 Q R (x9 c).1:=by
 unfold x9
 exact az (p:=fun(x:Cl×List Ou)=>J2 Q R x.1) h (I9 h)
theorem Sl(h:IP Q n)(k:Int):IP Q (iF n k):=by
 unfold iF
 exact az (p:=fun(x:Nd)=>IP Q x) ⟨h.d.same rfl rfl,h.s⟩ h
theorem Vh(h:IP Q n)(k:Int):IP Q (fd n k):=by
 unfold fd
 cases decide ((n.aQ.length:Int)<1000)
 ·exact h
 ·exact h.same rfl rfl
theorem Y6(h:J2 Q R c)(hi:i=0\/i=1)(hs:(fL c i).ag=1->Qof Q R i):J2 Q R (jv c e i (fL c i)).1:=by
 have hn:=h.at hi
 have Y7:∀(c':Cl) {n:Nd} {l:List Ou},J2 Q R c'->IP (Qof Q R i) n->J2 Q R (aW c' i n l).1:=fun c' n l hc h'=>A5 (hc.put hi h')
 have cc:∀{b:Bool} {x y:Cl×List Ou},J2 Q R x.1->J2 Q R y.1->J2 Q R (bif b then x else y).1:=fun {b} {x y} hx hy=>az (p:=fun(x:Cl×List Ou)=>J2 Q R x.1) hx hy
 unfold jv
 refine cc (Y7 c h (LD hn _)) (cc (Y7 c h (Ok hn _)) (cc (Y7 c h (LE hn _)) (cc (Y7 c h (R0 hn _ _)) (cc (Y7 c h (R1 hn _ _ _)) (cc (LR h i) (cc (Ql (h.n_ (gA _ _ _) (gB _ _ _)))
  (cc (Ql h) (cc ?_ (cc (cc h (Y7 c h (IP.down hn.d))) (cc (h.put hi (vK hn _)) (cc (Y7 c h (Sl hn _)) (cc (h.put hi (Vh hn _)) (cc (cc h (Y7 c h (BV hn hs _))) h)))))))))))))
 unfold oz
 exact cc h (Y7 {c with ai:=(ge c.ai i).2.1} (h.n_ rfl rfl) (BV hn hs _))
theorem acz(h:J2 Q R c)(h0:c.n0.ag=1->Q)(h1:c.n1.ag=1->R):J2 Q R (iI c e).1:=by
 unfold iI
 cases hb:!(e.node==0)&&!(e.node==1) with
 |true=>exact h
 |false=>
  have hi:e.node=0\/e.node=1:=by
   simp only[M0,ni,jF] at hb
   exact hb
  refine Y6 h hi ?_
  rcases hi with hi|hi
  ·rw[hi];exact h0
  ·rw[hi];exact h1
structure VL(N:Nat)(v:Vl):Prop where
 a:v.ay.length=N
 b:v.begun.length=N
 l:v.aB.length=N
structure VW(C:Int)(M:Nat)(v:Vl):Prop where
 l:∀x∈v.aB,x<=C
 b:∀x∈v.begun,x.length<=M
variable{C:Int}{M:Nat}
theorem VW.mono{D:Int}{L:Nat}(h:VW C M v)(hc:C<=D)(hm:M<=L):VW D L v:=⟨fun x hx=>Df (h.l x hx) hc,fun x hx=>aZ (h.b x hx) hm⟩
theorem I_{l:List α}{i:Nat}{x y:α}(h:y∈l.set i x):y∈l\/y=x:=H6 h
theorem Hn(h:VL N v)(w:VW C M v)(b:Int)(x:ByteArray):VL N (gC v b x)/\VW C (M+1) (gC v b x):=by
 unfold gC
 cases j3 v b with
 |false=>exact⟨h,w.mono (nj _) (wc _)⟩
 |true=>
  refine⟨⟨h.a,?_,h.l⟩,⟨w.l,fun y hy=> ?_⟩⟩
  ·show(v.begun.set _ _).length=N
   rw[tz];exact h.b
  ·rcases I_ hy with hy|rfl
   ·exact aZ (w.b y hy) (wc _)
   ·rw[iq]
    have:(v.begun.getD b.toNat []).length<=M:=by
     rw[eX]
     cases hg:v.begun[b.toNat]? with
     |none=>exact dh _
     |some z=>exact w.b z (jD hg)
    simp only[cV,eO]
    omega
theorem Qm(h:VL N v)(w:VW C M v)(r:Rq):VL N (pD v r C)/\VW C M (pD v r C):=by
 unfold pD
 cases j3 v r.block with
 |false=>exact⟨h,w⟩
 |true=>
  refine⟨⟨?_,?_,?_⟩,⟨fun y hy=> ?_,fun y hy=> ?_⟩⟩
  ·show(v.ay.set _ _).length=N
   rw[tz];exact h.a
  ·show(v.begun.set _ _).length=N
   rw[tz];exact h.b
  ·show(v.aB.set _ _).length=N
   rw[tz];exact h.l
  ·rcases I_ hy with hy|rfl
   ·exact w.l y hy
   ·exact nj _
  ·rcases I_ hy with hy|rfl
   ·exact w.b y hy
   ·exact dh _
structure Mg(N M:Nat)(m:Mm):Prop where
 v0:VL N m.n0
 v1:VL N m.n1
 h0:m.h0=true->VL N m.s0
 h1:m.h1=true->VL N m.s1
 w0:VW m.count M m.n0
 w1:VW m.count M m.n1
 x0:VW m.count M m.s0
 x1:VW m.count M m.s1
 c:0<=m.count
 u:0<=m.cg
theorem Vi(m:Mm)(p:Int)(v:Vl):(wY m p v).count=m.count/\(wY m p v).cg=m.cg/\(wY m p v).s0=m.s0/\(wY m p v).s1=m.s1/\(wY m p v).h0=m.h0/\(wY m p v).h1=m.h1/\(wY m p v).w0=m.w0/\(wY m p v).w1=m.w1:=by
 unfold wY
 cases p==0<;>exact⟨rfl,rfl,rfl,rfl,rfl,rfl,rfl,rfl⟩
theorem Mg.put{m:Mm}(h:Mg N M m)(p:Int)(hv:VL N v)(hw:VW m.count M v):Mg N M (wY m p v):=by
 unfold wY
 cases p==0
 ·exact⟨h.v0,hv,h.h0,h.h1,h.w0,hw,h.x0,h.x1,h.c,h.u⟩
 ·exact⟨hv,h.v1,h.h0,h.h1,hw,h.w1,h.x0,h.x1,h.c,h.u⟩
theorem Mg.of{m:Mm}(h:Mg N M m)(p:Int):VL N (vof m p)/\VW m.count M (vof m p):=by
 unfold vof
 cases p==0
 ·exact⟨h.v1,h.w1⟩
 ·exact⟨h.v0,h.w0⟩
theorem Mg.up{L:Nat}{m:Mm}(h:Mg N M m)(hm:M<=L):Mg N L m:=
 ⟨h.v0,h.v1,h.h0,h.h1,h.w0.mono (nj _) hm,h.w1.mono (nj _) hm,h.x0.mono (nj _) hm,h.x1.mono (nj _) hm,h.c,h.u⟩
theorem sX{m:Mm}(h:Mg N M m)(p:Int)(e:bg):Mg N (M+1) (gg m p e):=by
 obtain⟨hv,hw⟩:=h.of p
 obtain⟨a,b⟩:=Hn hv hw e.block e.data
 exact(h.up (wc _)).put p a b
theorem LS(m:Mm)(p:Int)(e:bg):(gg m p e).count=m.count/\(gg m p e).cg=m.cg/\(gg m p e).s0=m.s0/\(gg m p e).s1=m.s1/\(gg m p e).h0=m.h0/\(gg m p e).h1=m.h1/\(gg m p e).w0=m.w0/\(gg m p e).w1=m.w1:=Vi _ _ _
theorem Sq{m:Mm}(h:Mg N M m)(c:Cl)(e:bg):Mg N (M+2) (kL m c e):=by
 unfold kL
 cases c.ai.up
 ·exact(sX h _ e).up (wc _)
 ·exact sX (sX h _ e) _ e
theorem E2(m:Mm)(c:Cl)(e:bg):(kL m c e).count=m.count/\(kL m c e).cg=m.cg/\(kL m c e).s0=m.s0/\(kL m c e).s1=m.s1/\(kL m c e).w0=m.w0/\(kL m c e).w1=m.w1:=by
 unfold kL
 obtain⟨a1,a2,a3,a4,_,_,a7,a8⟩:=LS m e.node e
 cases c.ai.up
 ·exact⟨a1,a2,a3,a4,a7,a8⟩
 ·obtain⟨b1,b2,b3,b4,_,_,b7,b8⟩:=LS (gg m e.node e) (1-e.node) e
  exact⟨b1.trans a1,b2.trans a2,b3.trans a3,b4.trans a4,b7.trans a7,b8.trans a8⟩
theorem Mg.w{m:Mm}(h:Mg N M m)(p:Int)(r:Rq):Mg N M (p8 m p r):=by
 unfold p8
 cases p==0
 ·exact⟨h.v0,h.v1,h.h0,h.h1,h.w0,h.w1,h.x0,h.x1,h.c,h.u⟩
 ·exact⟨h.v0,h.v1,h.h0,h.h1,h.w0,h.w1,h.x0,h.x1,h.c,h.u⟩
theorem Ot(m:Mm)(p:Int)(r:Rq):(p8 m p r).count=m.count/\(p8 m p r).cg=m.cg/\(p8 m p r).s0=m.s0/\(p8 m p r).s1=m.s1:=by
 unfold p8
 cases p==0<;>exact⟨rfl,rfl,rfl,rfl⟩
theorem Ho{m:Mm}(h:Mg N M m)(c:Cl)(e:bg)(l:List Ou):Mg N (M+2) (bU m c e l):=by
 unfold bU
 exact az (p:=fun(x:Mm)=>Mg N (M+2) x) (h.up (by omega)) ((Sq h c e).w _ _)
theorem LT(m:Mm)(c:Cl)(e:bg)(l:List Ou):(bU m c e l).count=m.count/\(bU m c e l).cg=m.cg/\(bU m c e l).s0=m.s0/\(bU m c e l).s1=m.s1:=by
 unfold bU
 obtain⟨a1,a2,a3,a4⟩:=Ot (kL m c e) e.node ⟨true,e.id,e.block,e.data⟩
 obtain⟨b1,b2,b3,b4,_⟩:=E2 m c e
 exact az (p:=fun(x:Mm)=>x.count=m.count/\x.cg=m.cg/\x.s0=m.s0/\x.s1=m.s1) ⟨rfl,rfl,rfl,rfl⟩ ⟨a1.trans b1,a2.trans b2,a3.trans b3,a4.trans b4⟩
theorem CJ{m:Mm}(h:Mg N M m)(p:Int)(r:Rq):Mg N M (mG m p r):=by
 obtain⟨hv,hw⟩:=h.of p
 obtain⟨a,b⟩:=Qm hv hw r
 exact h.put p a b
theorem A6{m:Mm}(h:Mg N M m)(hc:m.count<1000000)(p:Int):Mg N M (jb m p)/\(jb m p).count=m.count+1:=by
 have e:wrap .i64 (m.count+1)=m.count+1:=dG (by have:=h.c;omega) (by omega)
 have hw:=h.w p iE
 obtain⟨n1,n2,n3,n4⟩:=Ot m p iE
 have l1:(p8 m p iE).count<=m.count+1:=by rw[n1];omega
 refine⟨⟨hw.v0,hw.v1,hw.h0,hw.h1,?_,?_,?_,?_,?_,hw.u⟩,e⟩
 ·show VW (wrap .i64 (m.count+1)) M _;rw[e];exact hw.w0.mono l1 (aL _)
 ·show VW (wrap .i64 (m.count+1)) M _;rw[e];exact hw.w1.mono l1 (aL _)
 ·show VW (wrap .i64 (m.count+1)) M _;rw[e];exact hw.x0.mono l1 (aL _)
 ·show VW (wrap .i64 (m.count+1)) M _;rw[e];exact hw.x1.mono l1 (aL _)
 ·show 0<=wrap .i64 (m.count+1);rw[e];have:=h.c;omega
theorem uj(m:Mm)(p:Int)(r:Rq):(mG m p r).count=m.count/\(mG m p r).cg=m.cg/\(mG m p r).s0=m.s0/\(mG m p r).s1=m.s1/\(mG m p r).h0=m.h0/\(mG m p r).h1=m.h1/\(mG m p r).w0=m.w0/\(mG m p r).w1=m.w1:=Vi _ _ _
structure Mst(N M:Nat)(m x:Mm)(k:Nat):Prop where
 g:Mg N M x
 c1:m.count<=x.count
 c2:x.count<=m.count+k
 u:x.cg=m.cg
 s0:x.s0=m.s0
 s1:x.s1=m.s1
theorem E3{m:Mm}(h:Mg N M m)(hc:m.count<1000000)(e:bg)(o:Ou):Mst N M m (bG e m o) 1:=by
 obtain⟨a,b⟩:=A6 h hc o.node
 obtain⟨n1,n2,n3,n4⟩:=Ot m o.node iE
 have k1:=CJ a o.node (zD m o.node)
 obtain⟨p1,p2,p3,p4,_⟩:=uj (jb m o.node) o.node (zD m o.node)
 have k2:=CJ k1 (1-o.node) (zD m o.node)
 obtain⟨q1,q2,q3,q4,_⟩:=uj (mG (jb m o.node) o.node (zD m o.node)) (1-o.node) (zD m o.node)
 have r1:Mst N M m (mG (jb m o.node) o.node (zD m o.node)) 1:=⟨k1,by rw[p1,b];omega,by rw[p1,b];omega,p2.trans n2,p3.trans n3,p4.trans n4⟩
 unfold bG
 exact az (p:=fun(x:Mm)=>Mst N M m x 1) ⟨h,by omega,by omega,rfl,rfl,rfl⟩ (az (p:=fun(x:Mm)=>Mst N M m x 1) ⟨k2,by rw[q1];exact r1.c1,by rw[q1];exact r1.c2,q2.trans r1.u,q3.trans r1.s0,q4.trans r1.s1⟩ r1)
theorem yl{N M:Nat}(e:bg):∀(l:List Ou) {m:Mm},Mg N M m->m.count+l.length<1000000->Mst N M m (l.foldl (bG e) m) l.length
 |[],m,h,_=>⟨h,by simp,by simp,rfl,rfl,rfl⟩
 |o::l,m,h,hc=>by
  simp only[cV] at hc ⊢
  have h1:=E3 h (by omega) e o
  have c2:=h1.c2
  have c1:=h1.c1
  have h2:=yl e l h1.g (by omega)
  have d1:=h2.c1
  have d2:=h2.c2
  rw[jp]
  exact⟨h2.g,by omega,by omega,h2.u.trans h1.u,h2.s0.trans h1.s0,h2.s1.trans h1.s1⟩
theorem CK(m:Mm)(e:bg)(o:Ou)(h:e.ae=4\/¬(o.ae=2/\o.j2=0)):mH m e o=false:=by
 unfold mH
 rcases h with h|h
 ·rw[h];simp
 ·cases h1:o.ae==2 with
  |false=>rfl
  |true=>
   cases h2:o.j2==0 with
   |false=>rfl
   |true=>exact absurd ⟨eq_of_beq h1,eq_of_beq h2⟩ h
theorem Ov(e:bg)(m:Mm)(o:Ou)(h:e.ae=4\/(o.ae=2->o.j2=0->o.node≠0)):(bG e m o).w0=m.w0:=by
 by_cases hn:o.node=0
 ·have:mH m e o=false:=CK m e o (h.imp id fun h ⟨a,b⟩=>h a b hn)
  unfold bG
  rw[this];rfl
 ·have hp:(o.node==0)=false:=by simpa using hn
  have a1:(jb m o.node).w0=m.w0:=by unfold jb p8;rw[hp];rfl
  have b1:=(uj (jb m o.node) o.node (zD m o.node)).2.2.2.2.2.2.1.trans a1
  have d1:=(uj (mG (jb m o.node) o.node (zD m o.node)) (1-o.node) (zD m o.node)).2.2.2.2.2.2.1.trans b1
  unfold bG
  exact az (p:=fun(x:Mm)=>x.w0=m.w0) rfl (az (p:=fun(x:Mm)=>x.w0=m.w0) d1 b1)
theorem Ow(e:bg)(m:Mm)(o:Ou)(hd:o.node=0\/o.node=1)(h:e.ae=4\/(o.ae=2->o.j2=0->o.node≠1)):(bG e m o).w1=m.w1:=by
 by_cases hn:o.node=1
 ·have:mH m e o=false:=CK m e o (h.imp id fun h ⟨a,b⟩=>h a b hn)
  unfold bG
  rw[this];rfl
 ·have hp:(o.node==0)=true:=by simpa using hd.resolve_right hn
  have a1:(jb m o.node).w1=m.w1:=by unfold jb p8;rw[hp];rfl
  have b1:=(uj (jb m o.node) o.node (zD m o.node)).2.2.2.2.2.2.2.trans a1
  have d1:=(uj (mG (jb m o.node) o.node (zD m o.node)) (1-o.node) (zD m o.node)).2.2.2.2.2.2.2.trans b1
  unfold bG
  exact az (p:=fun(x:Mm)=>x.w1=m.w1) rfl (az (p:=fun(x:Mm)=>x.w1=m.w1) d1 b1)
theorem ym(e:bg):∀(l:List Ou) (m:Mm),(e.ae=4\/FZ 0 l)->(l.foldl (bG e) m).w0=m.w0
 |[],m,_=>rfl
 |o::l,m,h=>by
  rw[jp,ym e l _ (h.imp id fun h x hx=>h x (ch _ hx))]
  exact Ov e m o (h.imp id fun h=>h o gQ)
theorem yn(e:bg):∀(l:List Ou) (m:Mm),X4 l->(e.ae=4\/FZ 1 l)->(l.foldl (bG e) m).w1=m.w1
 |[],m,_,_=>rfl
 |o::l,m,hd,h=>by
  rw[jp,yn e l _ (fun x hx=>hd x (ch _ hx)) (h.imp id fun h x hx=>h x (ch _ hx))]
  exact Ow e m o (hd o gQ) (h.imp id fun h=>h o gQ)
theorem BY{p:Int}(h:I6 p l):dC l p=false:=by
 unfold dC
 rw[pf]
 intro o ho
 have:(o.node==p)=false:=by simpa using h o ho
 rw[this];simp
theorem Hp{m:Mm}(h:m.w0.on=true\/(e.ae=5/\e.node=0/\I6 0 l)):(bU m c e l).w0.on=true:=by
 have n0:=(E2 m c e).2.2.2.2.1
 unfold bU
 rcases h with h|⟨h1,h2,h3⟩
 ·refine az (p:=fun(x:Mm)=>x.w0.on=true) h ?_
  unfold p8
  exact az (p:=fun(x:Mm)=>x.w0.on=true) rfl (by rw[<-n0] at h;exact h)
 ·rw[h1,h2,BY h3]
  rfl
theorem Hq{m:Mm}(h:m.w1.on=true\/(e.ae=5/\e.node=1/\I6 1 l)):(bU m c e l).w1.on=true:=by
 have n0:=(E2 m c e).2.2.2.2.2
 unfold bU
 rcases h with h|⟨h1,h2,h3⟩
 ·refine az (p:=fun(x:Mm)=>x.w1.on=true) h ?_
  unfold p8
  exact az (p:=fun(x:Mm)=>x.w1.on=true) (by rw[<-n0] at h;exact h) rfl
 ·rw[h1,h2,BY h3]
  rfl
theorem yo{m:Mm}(h:Mg N M m)(c:Cl):Mg N M (bW m c)/\(VL N m.s0->VL N (bW m c).s0)/\(VL N m.s1->VL N (bW m c).s1)/\(c.n0.ag=1->VL N (bW m c).s0)/\(c.n1.ag=1->VL N (bW m c).s1):=by
 have a0:VL N m.s0->VL N (bW m c).s0:=fun hs=>az (p:=fun(x:Vl)=>VL N x) h.v1 hs
 have a1:VL N m.s1->VL N (bW m c).s1:=fun hs=>az (p:=fun(x:Vl)=>VL N x) h.v0 hs
 refine⟨⟨h.v0,h.v1,fun x=>a0 (h.h0 x),fun x=>a1 (h.h1 x),h.w0,h.w1,az (p:=fun(x:Vl)=>VW m.count M x) h.w1 h.x0,az (p:=fun(x:Vl)=>VW m.count M x) h.w0 h.x1,h.c,h.u⟩,a0,a1,fun hs=> ?_,fun hs=> ?_⟩
 ·show VL N (bif c.n0.ag==1||c.n0.ag==4 then m.n1 else m.s0)
  rw[hs];exact h.v1
 ·show VL N (bif c.n1.ag==1||c.n1.ag==4 then m.n0 else m.s1)
  rw[hs];exact h.v0
structure Mup(N M:Nat)(m x:Mm)(k:Nat):Prop where
 g:Mg N M x
 c:x.count=m.count
 u1:m.cg<=x.cg
 u2:x.cg<=m.cg+k
 s0:x.s0=m.s0
 s1:x.s1=m.s1
theorem Qn{k:Int}(h0:0<=k)(h:k<1000000):k<=(bif b then wrap .i64 (k+1) else k)/\(bif b then wrap .i64 (k+1) else k)<=k+1:=by
 rw[dG (by omega) (by omega)]
 cases b
 ·exact⟨nj _,by show k<=k+1;omega⟩
 ·exact⟨by show k<=k+1;omega,nj _⟩
theorem Y8{m:Mm}(h:Mg N M m)(hl:m.cg<1000000)(hs:n.up=true->n.store.aj.bp=true->VL N m.s0):
 Mup N M m (oA m n) 1/\(oA m n).w0=(bif n.bL.on then m.w0 else iE)/\(oA m n).w1=m.w1:=by
 have h1:Mg N M (e_ m n):=by
  unfold e_
  exact az (p:=fun(x:Mm)=>Mg N M x) h ⟨h.v0,h.v1,h.h0,h.h1,h.w0,h.w1,h.x0,h.x1,h.c,h.u⟩
 have e:(e_ m n).count=m.count/\(e_ m n).cg=m.cg/\(e_ m n).s0=m.s0/\(e_ m n).s1=m.s1/\(e_ m n).w1=m.w1/\(e_ m n).w0=(bif n.bL.on then m.w0 else iE):=by
  unfold e_
  cases n.bL.on<;>exact⟨rfl,rfl,rfl,rfl,rfl,rfl⟩
 obtain⟨e1,e2,e3,e4,e5,e6⟩:=e
 unfold oA
 cases hu:n.up with
 |false=>exact⟨⟨h1,e1,by show m.cg<=(e_ m n).cg;omega,by show(e_ m n).cg<=_;omega,e3,e4⟩,e6,e5⟩
 |true=>
  show Mup N M m (jU (e_ m n) n.store.aj) 1/\(jU (e_ m n) n.store.aj).w0=_/\(jU (e_ m n) n.store.aj).w1=_
  unfold jU
  cases hi:n.store.aj.bp with
  |true=>
   refine⟨⟨⟨h1.v0,h1.v1,fun _=> ?_,h1.h1,h1.w0,h1.w1,h1.x0,h1.x1,h1.c,h1.u⟩,e1,by show m.cg<=(e_ m n).cg;omega,by show(e_ m n).cg<=_;omega,e3,e4⟩,e6,e5⟩
   show VL N (e_ m n).s0
   rw[e3];exact hs hu hi
  |false=>
   cases hh:(e_ m n).h0 with
   |false=>exact⟨⟨⟨h1.v0,h1.v1,fun x=>absurd x (by simp),h1.h1,h1.w0,h1.w1,h1.x0,h1.x1,h1.c,h1.u⟩,e1,by show m.cg<=(e_ m n).cg;omega,by show(e_ m n).cg<=_;omega,e3,e4⟩,e6,e5⟩
   |true=>
    have Cb:=Qn (b:=!(e_ m n).d0&&lN (e_ m n).n0 (e_ m n).s0) (k:=(e_ m n).cg) h1.u (by omega)
    refine⟨⟨⟨h1.h0 hh,h1.v1,fun x=>absurd x (by simp),h1.h1,h1.x0,h1.w1,h1.x0,h1.x1,h1.c,Df h1.u Cb.1⟩,e1,?_,?_,e3,e4⟩,e6,e5⟩
    ·have:=Cb.1;rw[<-e2];exact this
    ·have:=Cb.2;rw[<-e2];exact this
theorem Y9{m:Mm}(h:Mg N M m)(hl:m.cg<1000000)(hs:n.up=true->n.store.aj.bp=true->VL N m.s1):
 Mup N M m (qU m n) 1/\(qU m n).w1=(bif n.bL.on then m.w1 else iE)/\(qU m n).w0=m.w0:=by
 have h1:Mg N M (fV m n):=by
  unfold fV
  exact az (p:=fun(x:Mm)=>Mg N M x) h ⟨h.v0,h.v1,h.h0,h.h1,h.w0,h.w1,h.x0,h.x1,h.c,h.u⟩
 have e:(fV m n).count=m.count/\(fV m n).cg=m.cg/\(fV m n).s0=m.s0/\(fV m n).s1=m.s1/\(fV m n).w0=m.w0/\(fV m n).w1=(bif n.bL.on then m.w1 else iE):=by
  unfold fV
  cases n.bL.on<;>exact⟨rfl,rfl,rfl,rfl,rfl,rfl⟩
 obtain⟨e1,e2,e3,e4,e5,e6⟩:=e
 unfold qU
 cases hu:n.up with
 |false=>exact⟨⟨h1,e1,by show m.cg<=(fV m n).cg;omega,by show(fV m n).cg<=_;omega,e3,e4⟩,e6,e5⟩
 |true=>
  show Mup N M m (kM (fV m n) n.store.aj) 1/\(kM (fV m n) n.store.aj).w1=_/\(kM (fV m n) n.store.aj).w0=_
  unfold kM
  cases hi:n.store.aj.bp with
  |true=>
   refine⟨⟨⟨h1.v0,h1.v1,h1.h0,fun _=> ?_,h1.w0,h1.w1,h1.x0,h1.x1,h1.c,h1.u⟩,e1,by show m.cg<=(fV m n).cg;omega,by show(fV m n).cg<=_;omega,e3,e4⟩,e6,e5⟩
   show VL N (fV m n).s1
   rw[e4];exact hs hu hi
  |false=>
   cases hh:(fV m n).h1 with
   |false=>exact⟨⟨⟨h1.v0,h1.v1,h1.h0,fun x=>absurd x (by simp),h1.w0,h1.w1,h1.x0,h1.x1,h1.c,h1.u⟩,e1,by show m.cg<=(fV m n).cg;omega,by show(fV m n).cg<=_;omega,e3,e4⟩,e6,e5⟩
   |true=>
    have Cb:=Qn (b:=!(fV m n).d1&&lN (fV m n).n1 (fV m n).s1) (k:=(fV m n).cg) h1.u (by omega)
    refine⟨⟨⟨h1.v0,h1.h1 hh,h1.h0,fun x=>absurd x (by simp),h1.w0,h1.x1,h1.x0,h1.x1,h1.c,Df h1.u Cb.1⟩,e1,?_,?_,e3,e4⟩,e6,e5⟩
    ·have:=Cb.1;rw[<-e2];exact this
    ·have:=Cb.2;rw[<-e2];exact this
structure Iw(N M:Nat)(c:Cl)(m:Mm):Prop where
 q:Qi c
 g:Mg N M m
 j:J2 (VL N m.s0) (VL N m.s1) c
 w0:m.w0.on=c.n0.bL.on
 w1:m.w1.on=c.n1.bL.on
structure Sto(m x:Mm)(k:Nat):Prop where
 c1:m.count<=x.count
 c2:x.count<=m.count+k
 u1:m.cg<=x.cg
 u2:x.cg<=m.cg+2
theorem Qo(h:Q->R)(hn:IP Q n):IP R n:=
 ⟨⟨fun a b=>h (hn.d.1 a b),fun a b c d e=>h (hn.d.2 a b c d e)⟩,fun a b=>h (hn.s a b)⟩
theorem Y_{m:Mm}(h:Iw N M c m)(e:bg)(hc:m.count+(iI c e).2.length<1000000)(hl:m.cg<100000):
 Iw N (M+2) (iI c e).1 (kh m c e (iI c e).1 (iI c e).2)/\Sto m (kh m c e (iI c e).1 (iI c e).2) (iI c e).2.length:=by
 obtain⟨g1,a0,a1,b0,b1⟩:=yo h.g c
 have ev:=Vg (e:=e) h.q
 have jj:J2 (VL N (bW m c).s0) (VL N (bW m c).s1) c:=⟨Qo a0 h.j.j0,Qo a1 h.j.j1⟩
 have jd:=acz (e:=e) jj b0 b1
 generalize hd:(iI c e).1=d at ev jd ⊢
 generalize ho:(iI c e).2=l at ev hc ⊢
 have g2:=Ho g1 c e l
 obtain⟨n1,n2,n3,n4⟩:=LT (bW m c) c e l
 have Kf:(bU (bW m c) c e l).count+l.length<1000000:=by rw[n1];exact hc
 have g3:=yl e l g2 Kf
 have e3:(l.foldl (bG e) (bU (bW m c) c e l)).s0=(bW m c).s0:=g3.s0.trans n3
 have e4:(l.foldl (bG e) (bU (bW m c) c e l)).s1=(bW m c).s1:=g3.s1.trans n4
 have e5:(l.foldl (bG e) (bU (bW m c) c e l)).cg=m.cg:=g3.u.trans n2
 have q0:d.n0.bL.on=true->(l.foldl (bG e) (bU (bW m c) c e l)).w0.on=true:=fun hr=>by
  rcases ev.e0.kp hr with⟨k1,k2⟩|⟨k1,k2,k3⟩
  ·rw[ym e l _ k2]
   exact Hp (af (by show m.w0.on=true;rw[h.w0];exact k1))
  ·rw[ym e l _ (ab k3.X6)]
   exact Hp (ab ⟨k1,k2,k3⟩)
 have q1:d.n1.bL.on=true->(l.foldl (bG e) (bU (bW m c) c e l)).w1.on=true:=fun hr=>by
  rcases ev.e1.kp hr with⟨k1,k2⟩|⟨k1,k2,k3⟩
  ·rw[yn e l _ ev.nd k2]
   exact Hq (af (by show m.w1.on=true;rw[h.w1];exact k1))
  ·rw[yn e l _ ev.nd (ab k3.X6)]
   exact Hq (ab ⟨k1,k2,k3⟩)
 unfold kh
 generalize l.foldl (bG e) (bU (bW m c) c e l)=x at g3 e3 e4 e5 q0 q1 ⊢
 have u0:=Y8 g3.g (n:=d.n0) (by omega) (fun hu hi=>by rw[e3];exact jd.j0.s hu hi)
 obtain⟨v1,v2,v3⟩:=u0
 have:=v1.u2
 have u1:=Y9 v1.g (n:=d.n1) (by omega) (fun hu hi=>by rw[v1.s1,e4];exact jd.j1.s hu hi)
 obtain⟨t1,t2,t3⟩:=u1
 have c1:=g3.c1
 have c2:=g3.c2
 rw[n1] at c1 c2
 have cs:(bW m c).count=m.count:=rfl
 have c3:=v1.c
 have c4:=t1.c
 have l1:=v1.u1
 have l3:=t1.u1
 have l4:=t1.u2
 refine⟨⟨ev.ok,t1.g,⟨?_,?_⟩,?_,?_⟩,⟨by omega,by omega,by omega,by omega⟩⟩
 ·rw[t1.s0,v1.s0,e3];exact jd.j0
 ·rw[t1.s1,v1.s1,e4];exact jd.j1
 ·rw[t3,v2]
  cases hr:d.n0.bL.on with
  |true=>exact q0 hr
  |false=>rfl
 ·rw[t2,v3]
  cases hr:d.n1.bL.on with
  |true=>exact q1 hr
  |false=>rfl
def bl:Nat->Int->List UInt8
 |0,_=>[]
 |k+1,n=>bl k (n / 256)++[UInt8.ofNat (n % 256).toNat]
theorem A7:∀(k:Nat) {n:Int} (s:ByteArray),jO n->(zt k n s).data.toList=bl k n++s.data.toList
 |0,n,s,_=>rfl
 |k+1,n,s,h=>by
  unfold jO at h
  rw[zt,HT h.1,HU h.1,wrap64 (n:=n / 256) (by unfold jO;omega),oY (n:=n % 256) (by omega),A7 k _ (by unfold jO;omega),bl]
  simp[dc]
theorem I':∀(k:Nat) {n a:Int} (l:List UInt8),jO n->0<=a->n<256 ^ k->a*256 ^ k+n<18446744073709551616->
 (bl k n++l).foldl (fun n b=>wrap .u64 (wrap .u64 (n*256)+wrap .u64 (b.toNat:Int))) a=l.foldl (fun n b=>wrap .u64 (wrap .u64 (n*256)+wrap .u64 (b.toNat:Int))) (a*256 ^ k+n)
 |0,n,a,l,h,ha,hn,hs=>by
  unfold jO at h
  have:n=0:=by simp at hn;omega
  subst this
  simp[bl]
 |k+1,n,a,l,h,ha,hn,hs=>by
  unfold jO at h
  rw[Dg] at hn hs
  have e:a*(256 ^ k*256)=a*256 ^ k*256:=by rw[Int.mul_assoc]
  rw[e] at hs
  have hp:0<=a*256 ^ k:=Int.mul_nonneg ha (Int.pow_nonneg (by decide))
  generalize hq:a*256 ^ k=q at*
  rw[bl,kF,I' k _ (by unfold jO;omega) ha (by omega) (by omega),hq,Dg,<-Int.mul_assoc,hq]
  show List.foldl _ _ l=_
  congr 1
  have e1:((UInt8.ofNat (n % 256).toNat).toNat:Int)=n % 256:=by
   rw[UInt8.toNat_ofNat']
   omega
  show wrap .u64 (wrap .u64 ((q+n / 256)*256)+wrap .u64 (((UInt8.ofNat (n % 256).toNat).toNat:Nat):Int))=_
  rw[e1,wrap64 (n:=(q+n / 256)*256) (by unfold jO;omega),wrap64 (n:=n % 256) (by unfold jO;omega),wrap64 (by unfold jO;omega)]
  omega
theorem l8{n:Int}(h:jO n):gO (eR n).data.toList=n:=by
 unfold eR
 rw[A7 8 _ h]
 have:=I' 8 (n:=n) (a:=0) [] h (by omega) (by unfold jO at h;omega) (by unfold jO at h;omega)
 unfold gO
 simp only[dS] at this ⊢
 show List.foldl _ 0 (bl 8 n++[])=n
 rw[dS,this]
 simp
theorem Hr{n:Int}(h:0<=n/\n<4294967296):gO (ee n).data.toList=n:=by
 have h64:jO n:=by unfold jO;omega
 unfold ee
 rw[wrap64 h64,A7 4 _ h64]
 have:=I' 4 (n:=n) (a:=0) [] h64 (by omega) (by omega) (by omega)
 unfold gO
 simp only[dS] at this ⊢
 show List.foldl _ 0 (bl 4 n++[])=n
 rw[dS,this]
 simp
theorem LU(m:BitVec 32):BitVec.ofInt 32 (mi m)=m:=by
 simp[mi]
theorem uk(s:ByteArray):aa (cA s)=(s,0):=by
 have h1:(cA s).extract 0 ((cA s).size-4)=s:=by
  rw[i_,Nat.add_sub_cancel]
  apply De
  unfold cA
  rw[ByteArray.data_extract,M2]
  apply Array.toList_inj.1
  have hl:s.data.toList.length=s.size:=xY s
  rw[Array.toList_extract,Array.toList_append,HX,Di,Nat.sub_zero,List.take_left' hl]
 unfold aa
 rw[h1,fN (by rw[i_];omega),pO]
 rfl
theorem mP{a b c:ByteArray}{i:Nat}(hi:a.size=i)(hj:j=i+b.size):(a++b++c).extract i j=b:=by
 apply De
 apply Array.toList_inj.1
 rw[ByteArray.data_extract,M2,M2]
 have h1:a.data.toList.length=i:=by rw[<-hi];exact xY a
 have h2:b.data.toList.length=b.size:=xY b
 subst hj
 simp only[Array.toList_extract,Array.toList_append,HX]
 rw[kF,List.drop_left' h1]
 rw[List.take_left' (by omega)]
theorem m6(s:ByteArray)(i:Nat):aq s i=(s.data.toList[i]?).getD 0:=by
 unfold aq
 rw[nK]
theorem qj(l:List Int):(dc l).data.toList=l.map fun n=>UInt8.ofNat n.toNat:=by
 unfold dc
 have key:∀(l:List Int) (a:ByteArray),(l.foldl (fun r n=>r.push (UInt8.ofNat n.toNat)) a).data.toList=a.data.toList++l.map fun n=>UInt8.ofNat n.toNat:=by
  intro l
  induction l with
  |nil=>intro a;simp
  |cons x l ih=>intro a;rw[jp,ih];simp
 simpa using key l ByteArray.empty
theorem ak0(a b c:Bool):bK (UInt8.ofNat (fl a 1+fl b 2+fl c 4).toNat) 0=a/\bK (UInt8.ofNat (fl a 1+fl b 2+fl c 4).toNat) 1=b/\bK (UInt8.ofNat (fl a 1+fl b 2+fl c 4).toNat) 2=c/\¬(((UInt8.ofNat (fl a 1+fl b 2+fl c 4).toNat).toNat:Int)>7):=by
 revert a b c;decide
theorem ak1(a b c d:Bool):bK (UInt8.ofNat (fl a 1+fl b 2+fl c 4+fl d 8).toNat) 0=a/\bK (UInt8.ofNat (fl a 1+fl b 2+fl c 4+fl d 8).toNat) 1=b/\bK (UInt8.ofNat (fl a 1+fl b 2+fl c 4+fl d 8).toNat) 2=c/\bK (UInt8.ofNat (fl a 1+fl b 2+fl c 4+fl d 8).toNat) 3=d/\¬(((UInt8.ofNat (fl a 1+fl b 2+fl c 4+fl d 8).toNat).toNat:Int)>15):=by
 revert a b c d;decide
theorem CL{n:Int}(h:0<=n/\n<256):((UInt8.ofNat n.toNat).toNat:Int)=n:=by
 rw[UInt8.toNat_ofNat']
 omega
theorem Ox{s:Su}(hs:dI s=true)(hv:qh s.v):Gg (dD s)=s/\¬(((aq (dD s) 4).toNat:Int)>7):=by
 obtain⟨B,⟨c,b,o,q⟩,i,p,d⟩:=s
 have hr:=sU hs
 simp only at hr
 have w8:=oY (n:=B) (by omega)
 obtain⟨hc,hb,ho,hq⟩:=hv
 have b3:aq (dD ⟨B,⟨c,b,o,q⟩,i,p,d⟩) 3=UInt8.ofNat B.toNat:=by
  rw[m6]
  simp[dD,qj,w8]
 have b4:aq (dD ⟨B,⟨c,b,o,q⟩,i,p,d⟩) 4=UInt8.ofNat (fl i 1+fl p 2+fl d 4).toNat:=by
  rw[m6]
  simp[dD,qj]
 have n1:cB (dD ⟨B,⟨c,b,o,q⟩,i,p,d⟩) 5=c:=by
  unfold cB dD
  rw[qn (b:=eR b),qn (c:=eR q),mP (by simp[cf];rfl) (by rw[bC]),l8 hc]
 have n2:cB (dD ⟨B,⟨c,b,o,q⟩,i,p,d⟩) 13=b:=by
  unfold cB dD
  rw[qn (b:=eR o),mP (by simp[cf,bC];rfl) (by rw[bC]),l8 hb]
 have n3:cB (dD ⟨B,⟨c,b,o,q⟩,i,p,d⟩) 21=o:=by
  unfold cB dD
  rw[mP (by simp[cf,bC];rfl) (by rw[bC]),l8 ho]
 have n4:cB (dD ⟨B,⟨c,b,o,q⟩,i,p,d⟩) 29=q:=by
  unfold cB dD
  rw[<-Dd (b:=_++eR q),mP (by simp[cf,bC];rfl) (by rw[bC]),l8 hq]
 have f3:=ak0 i p d
 refine⟨?_,by rw[b4];exact f3.2.2.2⟩
 unfold Gg
 rw[b3,b4,n1,n2,n3,n4,f3.1,f3.2.1,f3.2.2.1,CL (by omega),dG (by omega) (by omega)]
theorem zK{s:Su}(hs:dI s=true)(hv:qh s.v):fC (bV s).1=(s,0):=by
 have h2:(bV s).1=cA (dD s):=by unfold bV;rw[hs];rfl
 obtain⟨h3,h4⟩:=Ox hs hv
 rw[h2]
 unfold fC
 rw[uk]
 simp only[pO,fS,aJ,h3,hs,Bool.or_false]
 rw[ub,fN h4]
 rfl
variable{h:He}
theorem Oy(hs:eZ h=true)(hv:qh h.v):N5 (d_ h)=h/\¬(((aq (d_ h) 1).toNat:Int)>15):=by
 obtain⟨B,⟨c,b,o,q⟩,i,w,d,p,m⟩:=h
 have hr:=wF hs
 simp only at hr
 have w8:=oY (n:=B) (by omega)
 obtain⟨hc,hb,ho,hq⟩:=hv
 have b3:aq (d_ ⟨B,⟨c,b,o,q⟩,i,w,d,p,m⟩) 0=UInt8.ofNat B.toNat:=by
  rw[m6]
  simp[d_,qj,w8]
 have b4:aq (d_ ⟨B,⟨c,b,o,q⟩,i,w,d,p,m⟩) 1=UInt8.ofNat (fl i 1+fl w 2+fl d 4+fl p 8).toNat:=by
  rw[m6]
  simp[d_,qj]
 have n1:cB (d_ ⟨B,⟨c,b,o,q⟩,i,w,d,p,m⟩) 2=c:=by
  unfold cB d_
  rw[qn (b:=eR q),qn (b:=eR o),qn (b:=eR b),mP (by simp[cf]) (by rw[bC]),l8 hc]
 have n2:cB (d_ ⟨B,⟨c,b,o,q⟩,i,w,d,p,m⟩) 10=b:=by
  unfold cB d_
  rw[qn (b:=eR q),qn (b:=eR o),mP (by simp[cf,bC]) (by rw[bC]),l8 hb]
 have n3:cB (d_ ⟨B,⟨c,b,o,q⟩,i,w,d,p,m⟩) 18=o:=by
  unfold cB d_
  rw[qn (b:=eR q),mP (by simp[cf,bC]) (by rw[bC]),l8 ho]
 have n4:cB (d_ ⟨B,⟨c,b,o,q⟩,i,w,d,p,m⟩) 26=q:=by
  unfold cB d_
  rw[mP (by simp[cf,bC]) (by rw[bC]),l8 hq]
 have n5:(d_ ⟨B,⟨c,b,o,q⟩,i,w,d,p,m⟩).extract 34 (d_ ⟨B,⟨c,b,o,q⟩,i,w,d,p,m⟩).size=ee (mi m):=by
  have hz:=lZ ⟨B,⟨c,b,o,q⟩,i,w,d,p,m⟩
  rw[hz]
  unfold d_
  rw[<-Dd (b:=_++ee _),mP (by simp[cf,bC]) (by rw[mY])]
 have f3:=ak1 i w d p
 refine⟨?_,by rw[b4];exact f3.2.2.2.2⟩
 unfold N5
 rw[b3,b4,n1,n2,n3,n4,n5,Hr (qC m),LU,f3.1,f3.2.1,f3.2.2.1,f3.2.2.2.1,CL (by omega),dG (by omega) (by omega)]
theorem LV(hs:eZ h=true)(hv:qh h.v):jL (d_ h)=(h,0):=by
 obtain⟨h1,h2⟩:=Oy hs hv
 unfold jL
 rw[lZ,fN h2,h1,hs]
 rfl
theorem Ja(hp:cN p=true)(sp:jO p.bd)(vp:qh p.aw.v):cK (jl p).1=(p,0):=by
 have hr:=sV hp
 have he:(jl p).1=cA (dy p):=by unfold jl;rw[hp];rfl
 have hk:1<=p.ae/\p.ae<=13:=hr.ae
 have w8:=oY (n:=p.ae) (by omega)
 have F8:=mI p
 have k0:pC (dy p)=p.ae:=by
  unfold pC
  rw[m6,F8]
  have:((dc [wrap .u8 p.ae]++eR p.bd++lP p).data.toList[0]?).getD 0=UInt8.ofNat p.ae.toNat:=by simp[qj,w8]
  rw[this,CL (by omega),dG (by omega) (by omega)]
 have s0:gO ((dy p).extract 1 9).data.toList=p.bd:=by
  rw[F8,mP (by simp[cf]) (by rw[bC]),l8 sp]
 have hz:(dc [wrap .u8 p.ae]++eR p.bd).size=9:=by simp[cf,bC]
 have r0:qE (dy p)=lP p:=by
  show(dy p).extract 9 (dy p).size=lP p
  rw[F8,<-Dd (b:=_++lP p),mP hz (by simp[cf,bC])]
 have h9:¬(((dy p).size:Int)<9):=by
  rw[F8,mQ,hz]
  omega
 have key:qF (dy p)=p/\(p.ae=1->(jL (qE (dy p))).2=0):=by
  unfold qF
  rw[k0,s0]
  unfold zx
  rw[r0]
  cases h1:p.ae==1 with
  |true=>
   have Kr:=eq_of_beq h1
   have hb:cT p.ae=false:=by rw[Kr];rfl
   have hd:p.data=⟨#[]⟩:=hr.acx (by rw[Kr];rfl)
   have ht:lP p=d_ p.aw:=by
    unfold lP
    have hh:(mF p.aw).1=d_ p.aw:=by unfold mF;rw[hr.aw Kr];rfl
    rw[hb,h1,hh,hd]
    exact Dd
   rw[ht,LV (hr.aw Kr) vp]
   refine⟨?_,fun _=>rfl⟩
   have hb0:p.block=0:=hr.zero hb
   simp only[bA]
   obtain⟨k,s,h,b,d⟩:=p
   simp only at Kr hd hb0
   subst Kr hd hb0
   rfl
  |false=>
   have Kr:p.ae≠1:=by simpa using h1
   have hh:p.aw=fQ:=hr.none Kr
   refine⟨?_,fun h=>absurd h Kr⟩
   simp only[aJ]
   cases hb:cT p.ae with
   |true=>
    have ht:lP p=dc [wrap .u8 p.block]++p.data:=by unfold lP;rw[hb];rfl
    have qT:=hr.block
    have w8b:=oY (n:=p.block) (by omega)
    have e1:aq (lP p) 0=UInt8.ofNat p.block.toNat:=by
     rw[m6,ht]
     simp[qj,w8b]
    have e2:(lP p).extract 1 (lP p).size=p.data:=by
     rw[ht,<-Dd (b:=_++p.data),mP (by simp[cf]) (by simp[cf])]
    have e3:decide (((lP p).size:Int)>0)=true:=by
     rw[ht,mQ,cf]
     simp only[cV,eO,ij]
     omega
    rw[e1,e2,e3,CL (by omega),dG (by omega) (by omega)]
    simp only[Bool.and_true,bA]
    rw[<-hh]
   |false=>
    have ht:lP p=p.data:=by unfold lP;rw[hb,h1];rfl
    have hb0:p.block=0:=hr.zero hb
    rw[ht]
    simp only[rL,aJ]
    rw[<-hh,<-hb0]
 rw[he]
 unfold cK
 rw[uk]
 simp only[pO,fS,aJ]
 unfold lK
 rw[key.1,hp,fN h9]
 have:(pC (dy p)==1&&!((jL (qE (dy p))).2==0))=false:=by
  rw[k0]
  cases h1:p.ae==1 with
  |false=>rfl
  |true=>rw[key.2 (eq_of_beq h1)];rfl
 rw[this]
 simp
end Go.Dm
