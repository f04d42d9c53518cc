/-
  A part of the proofs over this seat: a machine over data (the file in which the theorems stand says what is proved).
-/
import Derived.ChangeCalls
import Derived.KernelRfl
import Derived.OpenShut
import Derived.ProofKit
import Derived.Test.YtnilacbgecakcaaGreatFvC1
set_option maxRecDepth 100000
set_option maxHeartbeats 0
set_option linter.unusedSimpArgs false
set_option linter.unusedVariables false
namespace Go.Dm
open Go.RowKit
open Go.IntKind (wrap)
def acf(E:lW)(m:Mem)(o:Oper):Bool:=
 match o.op with
 | .pick _ _ _=>true
 | .call {callee:= .value _, ..}=>true
 | .call {callee:= .builtin .append, ..}=>true
 | .store t a _=>match a with| .tmp a=>E.vs a (3*t+2)|_=>false
 | .indexAddr t x i=>
   match E.P.underlying t,(E.ev m x).cell? with
   |some (.slice _),some (.sC _ _ _ _)=>match o.dst with|some d=>E.vs d (3*t+1)|none=>false
   |some (.slice _),_=>true
   |some (.array _ _),_=>match i with| .const _=>false|_=>true
   |_,_=>false
 | .index t _ i=>match E.P.underlying t with|some .string=>true|some (.array _ _)=>(match i with| .const _=>false|_=>true)|_=>false
 | .lookup _ _ _ _=>true
 | .makeSlice _ _ _=>true
 | .load t a=>match a with| .tmp a=>E.vs (a+100000) (3*t+2)|_=>false
 | .call {callee:= .builtin .len,args,argTypes}=>
   match argTypes.toList,args.toList with
   |t::_,[x]=>match E.P.underlying t,E.ev m x with
    |some (.slice _), .k (.v (.c (.slice _ _)))=>true
    |some (.slice _), .k (.v (.cX _ _ _))=>true
    |_,_=>false
   |_,_=>false
 | .convert iY dst x=>(GC E.P iY dst (E.ev m x)).isSome
 | .slice t _ _ _ mx=>
   match mx,E.P.underlying t with
   |none,some .string=>true
   |none,some (.slice _)=>true
   |_,_=>false
 | .binOp op _ x _ _=>
   match op with
   | .quo| .rem| .shl| .shr=>true
   | .add=>match(E.ev m x).rV with|some (.string _)=>true|_=>false
   |_=>false
 |_=>false
def PX(E:lW)(m:Mem)(o:Oper):Option (FuncId×List (C ⊕ (Nat×Nat))×List T):=
 match o.op with
 | .call {callee:= .value f,args,argTypes}=>
   if uz E o=true then none else
   match(E.ev m f).cell? with
   |some (.PB g dA)=>if E.il g then some (g,dA,nA E.P argTypes.toList (args.toList.map (E.ev m))) else none
   |some (.c (.fn g dA))=>if E.il g then some (g,dA.map .inl,nA E.P argTypes.toList (args.toList.map (E.ev m))) else none
   |_=>none
 |_=>none
def acg(E:lW)(m:Mem)(nv nt:Nat)(g:FuncId)(dA:List (C ⊕ (Nat×Nat)))(args:List T)(gs:List G):Option (uN×List G×List Prop):=
 match PD m nv,PE m nt,args.mapM T.k? with
 |some vs,some ts,some ks=>
  match E.J g (ks++dA.map abJ) vs ts gs with
  |some ((rs,jQ,nX),oW,ps)=>if nv<=jQ.length/\nt<=nX.length then some (xD rs jQ nX,oW,ps) else none
  |none=>none
 |_,_,_=>none
def gOp(E:lW)(m:Mem)(nv nt:Nat)(o:Oper)(gs:List G):Option (uN×List G×List Prop):=
 match PX E m o with
 |some (g,dA,args)=>acg E m nv nt g dA args gs
 |none=>
 match acf E m o with
 |true=>match gs with
  |g::gs=>match Ux E m nv nt o g with|some (e,ps)=>some (e,gs,ps)|none=>none
  |[]=>none
 |false=>match aA E m nv nt o with|some e=>some (e,gs,[])|none=>none
def Rx(E:lW):Prop:=∀g ks vs ts gs r oW ps,E.J g ks vs ts gs=some (r,oW,ps)->jh ps->E.I g ks vs ts=some r
variable{E:lW}{nv nt:Nat}{g:FuncId}{gs oW:List G}{ps:List Prop}
theorem NT(hJ:Rx E){m:Mem}{dA:List (C ⊕ (Nat×Nat))}{args:List T}{e:uN}(h:acg E m nv nt g dA args gs=some (e,oW,ps))(hp:jh ps):yT E m nv nt g dA args=some e:=by
 unfold acg at h
 unfold yT
 split at h
 ·rename_i vs ts ks h1 h2 h3
  simp only[h1,h2,h3]
  split at h
  ·rename_i rs jQ nX Uv X2 hj
   split at h
   ·rename_i rZ
    cases h
    simp only[hJ _ _ _ _ _ _ _ _ hj hp]
    rw[aP rZ]
   ·cases h
  ·cases h
 ·cases h
theorem Ry(hJ:Rx E){m:Mem}{o:Oper}{e:uN}(h:gOp E m nv nt o gs=some (e,oW,ps))(hp:jh ps):aA E m nv nt o=some e:=by
 unfold gOp at h
 split at h
 ·rename_i g dA args hi
  have hc:=NT hJ h hp
  unfold PX at hi
  split at hi
  ·rename_i f xs tm ho
   split at hi
   ·cases hi
   rename_i AQ
   simp only[aA,ho]
   unfold xg
   have AQ:uz E o=false:=by simpa using AQ
   rw[AQ]
   split at hi
   ·rename_i g' agA hf
    split at hi
    ·rename_i F5
     cases hi
     simp only[hf,ft,br]
     rw[aP F5]
     exact hc
    ·cases hi
   ·rename_i g' agA hf
    split at hi
    ·rename_i F5
     cases hi
     simp only[hf,ft,br]
     rw[aP F5]
     exact hc
    ·cases hi
   ·cases hi
  ·cases hi
 split at h
 ·split at h
  ·split at h
   ·rename_i hg;cases h;exact K2 hg hp
   ·cases h
  ·cases h
 ·split at h
  ·rename_i he;cases h;exact he
  ·cases h
def Uy(E:lW)(ops:Array Oper):List Oper->St->List G->Option (St×List Touch×List G×List Prop)
 |[],s,gs=>some (s,[],gs,[])
 |o::rX,s,gs=>
  match IH ops s.mem o gs with
  |none=>none
  |some (q,gs,ps)=>
   match(match q with|true=>gOp E s.mem s.vars.length s.dE.length o gs|false=>some (tJ,gs,[])) with
   |none=>none
   |some (e,gs,qs)=>
    match s.apply o.dst e with
    |none=>none
    |some s'=>
     match Uy E ops rX s' gs with
     |none=>none
     |some (s'',ts,gs,rs)=>some (s'',Touch.of ops o s.vars.length e::ts,gs,ps++(qs++rs))
theorem Eg{E:lW}(hJ:Rx E){ops:Array Oper}:∀{l:List Oper} {s s':St} {ts:List Touch} {gs oW:List G} {ps:List Prop},Uy E ops l s gs=some (s',ts,oW,ps)->jh ps->oM E ops l s=some (s',ts)
 |[],s,s',ts,gs,oW,ps,h,_=>by simp only[Uy,av,aY] at h;obtain⟨rfl,rfl,_⟩:=h;rfl
 |o::rX,s,s',ts,gs,oW,ps,h,hp=>by
  simp only[Uy] at h
  split at h
  ·cases h
  ·rename_i q Uv X2 hw
   split at h
   ·cases h
   ·rename_i e gs2 qs he
    split at h
    ·cases h
    ·rename_i s1 xK
     split at h
     ·cases h
     ·rename_i s2 ts2 gs3 rs i8
      simp only[av,aY] at h
      obtain⟨rfl,rfl,rfl,rfl⟩:=h
      rw[iV,iV] at hp
      simp only[oM,Gb hw hp.1]
      have:(if q=true then aA E s.mem s.vars.length s.dE.length o else some tJ)=some e:=by
       cases q with
       |true=>exact Ry hJ he hp.2.1
       |false=>simp only[av,aY] at he;simp[he.1]
      simp only[this,xK,Eg hJ i8 hp.2.2]
def IL(E:lW)(ops:Array Oper)(uI:Bool)(s:St)(gs:List G):Option (St×List G×List Prop):=
 match Uy E ops ops.toList s gs with
 |none=>none
 |some (s',ts,gs,ps)=>
  match !uI||(tI (pu ops.toList []) ts 0&&yU ops.toList&&E.P.follows .mixedOrders) with
  |true=>some (s',gs,ps)
  |false=>none
variable{s s':St}
theorem Ge(hJ:Rx E){ops:Array Oper}{uI:Bool}(h:IL E ops uI s gs=some (s',oW,ps))(hp:jh ps):qx E ops uI s=some s':=by
 unfold IL at h
 split at h
 ·cases h
 ·rename_i hg
  split at h
  ·rename_i hok
   simp only[av,aY] at h
   obtain⟨rfl,rfl,rfl⟩:=h
   unfold qx
   rw[Eg hJ hg hp]
   simp only
   rw[aP hok]
  ·cases h
def NU(E:lW)(H:Nat->bY)(n:Nat)(b:Code)(s:St)(e:dJ)(s':St):Prop:=cz E H n (.loop b) s=some (e,s')
def bT(E:lW)(H:Nat->bY)(n:Nat)(b:Code)(s0:St)(e:dJ)(s':St):Prop:=∀s,s.head (H (c_ b))=s0->NU E H n b s e s'
def K3(f:St->List G->Option (dJ×St×List G×List Prop))(g:St->Option St):Nat->St->List G->Option (dJ×St×List G×List Prop)
 |0,_,_=>none
 |n+1,s,gs=>
  match f s gs with
  |none=>none
  |some (e,s',gs,ps)=>
   match e with
   | .normal=>
     match g s' with
     |some s''=>match K3 f g n s'' gs with
      |some (e,s,gs,qs)=>some (e,s,gs,ps++qs)
      |none=>none
     |none=>none
   |e=>some (e,s',gs,ps)
def kR(E:lW)(H:Nat->bY)(n:Nat):Code->St->List G->Option (dJ×St×List G×List Prop)
 | .skip,s,gs=>some (.normal,s,gs,[])
 | .region _ ops uI,s,gs=>match IL E ops uI s gs with|some (s',gs,ps)=>some (.normal,s',gs,ps)|none=>none
 | .seq a b,s,gs=>
   match kR E H n a s gs with
   |none=>none
   |some (e,s',gs,ps)=>
    match e with
    | .normal=>match kR E H n b s' gs with
      |some (e,s,gs,qs)=>some (e,s,gs,ps++qs)
      |none=>none
    |e=>some (e,s',gs,ps)
 | .cond c x y,s,gs=>
   match PU (E.ev s.mem c).yQ gs with
   |none=>none
   |some (q,gs,ps)=>
    match(match q with|true=>kR E H n x s gs|false=>kR E H n y s gs) with
    |some (e,s,gs,qs)=>some (e,s,gs,ps++qs)
    |none=>none
 | .block id b,s,gs=>
   match kR E H n b s gs with
   |none=>none
   |some (e,s',gs,ps)=>
    match e with
    | .exit i=>if i=id then some (.normal,s',gs,ps) else some (.exit i,s',gs,ps)
    |e=>some (e,s',gs,ps)
 | .loop b,s,gs=>
   match gs with
   | .loop e s'::gs=>some (e,s',gs,[bT E H n b (s.head (H (c_ b))) e s'])
   | .un::gs=>
     K3 (fun s gs=>kR E H n b s gs) (fun s'=>(s'.cut (s.head (H (c_ b))).vars.length (s.head (H (c_ b))).dE.length).map fun s=>{s with tmps:=gG s.tmps (H (c_ b)).bJ}) n (s.head (H (c_ b))) gs
   |_=>none
 | .exit id,s,gs=>some (.exit id,s,gs,[])
 | .ret,s,gs=>some (.ret,s,gs,[])
 |_,_,_=>none
theorem BK{f:St->List G->Option (dJ×St×List G×List Prop)}{f':St->Option (dJ×St)}{g:St->Option St}(hf:∀s gs e s' oW ps,f s gs=some (e,s',oW,ps)->jh ps->f' s=some (e,s')):
 ∀(n:Nat) (s:St) (gs:List G) (e:dJ) (s':St) (oW:List G) (ps:List Prop),K3 f g n s gs=some (e,s',oW,ps)->jh ps->yV f' g n s=some (e,s')
 |0,s,gs,e,s',oW,ps,h,_=>by simp[K3] at h
 |n+1,s,gs,e,s',oW,ps,h,hp=>by
  simp only[K3] at h
  split at h
  ·cases h
  ·rename_i e1 s1 Uv X2 h1
   split at h
   ·split at h
    ·rename_i s2 X1
     split at h
     ·rename_i i8
      simp only[av,aY] at h
      obtain⟨rfl,rfl,rfl,rfl⟩:=h
      rw[iV] at hp
      simp only[yV,hf _ _ _ _ _ _ h1 hp.1,X1]
      exact BK hf n _ _ _ _ _ _ i8 hp.2
     ·cases h
    ·cases h
   ·rename_i jV
    simp only[av,aY] at h
    obtain⟨rfl,rfl,rfl,rfl⟩:=h
    simp only[yV,hf _ _ _ _ _ _ h1 hp]
    cases e1 with
    |normal=>exact(jV rfl).elim
    |_=>rfl
theorem fB{E:lW}(hJ:Rx E){H:Nat->bY}{n:Nat}:∀(c:Code) (s:St) (gs:List G) (e:dJ) (s':St) (oW:List G) (ps:List Prop),kR E H n c s gs=some (e,s',oW,ps)->jh ps->cz E H n c s=some (e,s')
 | .skip,s,gs,e,s',oW,ps,h,_=>by
   simp only[kR,av,aY] at h
   obtain⟨rfl,rfl,_⟩:=h;rfl
 | .region _ ops uI,s,gs,e,s',oW,ps,h,hp=>by
   simp only[kR] at h
   split at h
   ·rename_i hr
    simp only[av,aY] at h
    obtain⟨rfl,rfl,rfl,rfl⟩:=h
    simp only[cz,Ge hJ hr hp]
   ·cases h
 | .seq a b,s,gs,e,s',oW,ps,h,hp=>by
   simp only[kR] at h
   split at h
   ·cases h
   ·rename_i e1 s1 Uv X2 h1
    split at h
    ·split at h
     ·rename_i h2
      simp only[av,aY] at h
      obtain⟨rfl,rfl,rfl,rfl⟩:=h
      rw[iV] at hp
      simp only[cz,fB hJ a _ _ _ _ _ _ h1 hp.1]
      exact fB hJ b _ _ _ _ _ _ h2 hp.2
     ·cases h
    ·rename_i jV
     simp only[av,aY] at h
     obtain⟨rfl,rfl,rfl,rfl⟩:=h
     simp only[cz,fB hJ a _ _ _ _ _ _ h1 hp]
     cases e1 with
     |normal=>exact(jV rfl).elim
     |_=>rfl
 | .cond c x y,s,gs,e,s',oW,ps,h,hp=>by
   simp only[kR] at h
   split at h
   ·cases h
   ·rename_i q Uv X2 hb
    split at h
    ·rename_i h1
     simp only[av,aY] at h
     obtain⟨rfl,rfl,rfl,rfl⟩:=h
     rw[iV] at hp
     simp only[cz,BJ hb hp.1]
     cases q with
     |true=>exact fB hJ x _ _ _ _ _ _ h1 hp.2
     |false=>exact fB hJ y _ _ _ _ _ _ h1 hp.2
    ·cases h
 | .block id b,s,gs,e,s',oW,ps,h,hp=>by
   simp only[kR] at h
   split at h
   ·cases h
   ·rename_i e1 s1 Uv X2 h1
    split at h
    ·rename_i i
     split at h
     ·rename_i hi
      simp only[av,aY] at h
      obtain⟨rfl,rfl,rfl,rfl⟩:=h
      simp only[cz,fB hJ b _ _ _ _ _ _ h1 hp,hi,bu]
     ·rename_i hi
      simp only[av,aY] at h
      obtain⟨rfl,rfl,rfl,rfl⟩:=h
      simp only[cz,fB hJ b _ _ _ _ _ _ h1 hp,hi,br]
    ·rename_i jV
     simp only[av,aY] at h
     obtain⟨rfl,rfl,rfl,rfl⟩:=h
     simp only[cz,fB hJ b _ _ _ _ _ _ h1 hp]
     cases e1 with
     |exit i=>exact(jV i rfl).elim
     |_=>rfl
 | .loop b,s,gs,e,s',oW,ps,h,hp=>by
   simp only[kR] at h
   split at h
   ·simp only[av,aY] at h
    obtain⟨rfl,rfl,rfl,rfl⟩:=h
    exact hp.1 _ rfl
   ·simp only[cz]
    exact BK (fun s gs e s' oW ps h hp=>fB hJ b s gs e s' oW ps h hp) _ _ _ _ _ _ _ h hp
   ·cases h
 | .exit id,s,gs,e,s',oW,ps,h,_=>by
   simp only[kR,av,aY] at h
   obtain⟨rfl,rfl,_⟩:=h;rfl
 | .ret,s,gs,e,s',oW,ps,h,_=>by
   simp only[kR,av,aY] at h
   obtain⟨rfl,rfl,_⟩:=h;rfl
 | .rangeFunc _ _ _ _,_,_,_,_,_,_,h,_=>by simp[kR] at h
 | .scope _,_,_,_,_,_,_,h,_=>by simp[kR] at h
 | .label _,_,_,_,_,_,_,h,_=>by simp[kR] at h
 | .goto _,_,_,_,_,_,_,h,_=>by simp[kR] at h
 | .refuse _,_,_,_,_,_,_,h,_=>by simp[kR] at h
def AS(s:St):List K->Option (List au×List Prop)
 |[]=>some ([],[])
 | .v (.cX sz es (.tok i))::r=>
   match s.dE[i]?,AS s r with
   |some n,some (rs,ps)=>some (.top sz es::rs,(n=es.length)::ps)
   |_,_=>none
 |k::r=>match yW s k,AS s r with
  |some x,some (rs,ps)=>some (x::rs,ps)
  |_,_=>none
theorem tW{s:St}:∀{ks:List K} {rs:List au} {ps:List Prop},AS s ks=some (rs,ps)->jh ps->ks.mapM (yW s)=some rs
 |[],rs,ps,h,_=>by simp only[AS,av,aY] at h;obtain⟨rfl,_⟩:=h;rfl
 |k::ks,rs,ps,h,hp=>by
  unfold AS at h
  split at h
  ·rename_i jI;cases jI
  ·rename_i sz es i r jI
   cases jI
   split at h
   ·rename_i n Ke ps' hn hr
    simp only[av,aY] at h
    obtain⟨rfl,rfl⟩:=h
    rw[fv,tW hr hp.2]
    have:s.dE[i]?=some es.length:=by rw[hn,hp.1]
    simp[yW,this]
   ·cases h
  ·rename_i jI
   cases jI
   split at h
   ·rename_i x Ke ps' hx hr
    simp only[av,aY] at h
    obtain⟨rfl,rfl⟩:=h
    rw[fv,tW hr hp,hx]
    rfl
   ·cases h
def tX(s:St)(nl:Nat):List V->List G->Option (List V×List G×List Prop)
 |[],gs=>some ([],gs,[])
 | .sC id off sz n::r,gs=>
   match gs with
   | .uY es::gs=>if nl<=id then match tX s nl r gs with|some (vs,gs,ps)=>some (.c (.slice sz es)::vs,gs,((yS s.mem id off).bind (pk sz n)=some es)::ps)|none=>none else none
   |_=>none
 |x::r,gs=>match tX s nl r gs with|some (vs,gs,ps)=>some (x::vs,gs,ps)|none=>none
def xV(s:St)(nl:Nat):List K->List G->Option (List K×List G×List Prop)
 |[],gs=>some ([],gs,[])
 | .v x::r,gs=>match tX s nl [x] gs with
   |some ([y],gs,ps)=>match xV s nl r gs with|some (ks,gs,qs)=>some (.v y::ks,gs,ps++qs)|none=>none
   |_=>none
 | .agg xs::r,gs=>match tX s nl xs gs with
   |some (ys,gs,ps)=>match xV s nl r gs with|some (ks,gs,qs)=>some (.agg ys::ks,gs,ps++qs)|none=>none
   |none=>none
theorem oQ{s:St}{nl:Nat}:∀{xs:List V} {gs oW:List G} {ys:List V} {ps:List Prop},tX s nl xs gs=some (ys,oW,ps)->jh ps->xs.map (V.still s nl)=ys
 |[],gs,oW,ys,ps,h,_=>by simp only[tX,av,aY] at h;obtain⟨rfl,_⟩:=h;rfl
 |x::r,gs,oW,ys,ps,h,hp=>by
  unfold tX at h
  split at h
  ·rename_i jI;cases jI
  ·rename_i id off sz n r' Uv jI
   cases jI
   split at h
   ·rename_i es gs2
    split at h
    ·rename_i rZ
     split at h
     ·rename_i vs gs3 ps' hr
      simp only[av,aY] at h
      obtain⟨rfl,rfl,rfl⟩:=h
      rw[eY,oQ hr hp.2]
      simp only[V.still,aP rZ,hp.1]
     ·cases h
    ·cases h
   ·cases h
  ·rename_i x' r' Uv jV jI
   cases jI
   split at h
   ·rename_i vs gs3 ps' hr
    simp only[av,aY] at h
    obtain⟨rfl,rfl,rfl⟩:=h
    rw[eY,oQ hr hp]
    cases x with
    |sC id off sz n=>exact absurd rfl (jV id off sz n)
    |_=>rfl
   ·cases h
theorem tY{s:St}{nl:Nat}:∀{ks:List K} {gs oW:List G} {ls:List K} {ps:List Prop},xV s nl ks gs=some (ls,oW,ps)->jh ps->ks.map (K.still s nl)=ls
 |[],gs,oW,ls,ps,h,_=>by simp only[xV,av,aY] at h;obtain⟨rfl,_⟩:=h;rfl
 | .v x::r,gs,oW,ls,ps,h,hp=>by
   simp only[xV] at h
   split at h
   ·rename_i y Uv X2 hx
    split at h
    ·rename_i ks gs2 qs hr
     simp only[av,aY] at h
     obtain⟨rfl,rfl,rfl⟩:=h
     rw[iV] at hp
     have h1:=oQ hx hp.1
     simp only[eY,gp,List.cons.injEq,and_true] at h1
     rw[eY,tY hr hp.2]
     simp only[K.still,h1]
    ·cases h
   ·cases h
 | .agg xs::r,gs,oW,ls,ps,h,hp=>by
   simp only[xV] at h
   split at h
   ·rename_i ys Uv X2 hx
    split at h
    ·rename_i ks gs2 qs hr
     simp only[av,aY] at h
     obtain⟨rfl,rfl,rfl⟩:=h
     rw[iV] at hp
     rw[eY,tY hr hp.2]
     simp only[K.still,oQ hx hp.1]
    ·cases h
   ·cases h
def gFn(E:lW)(H:Nat->bY)(n:Nat)(fn:Func)(as:List A)(ip:List (List C))(gs:List G):Option (List au×List (List C)×List Prop):=
 match fn.body with
 |none=>none
 |some c=>
  match kR E H n c (start fn as ip) gs with
  |some (e,s,oW,ps)=>
   if(e= .normal\/e= .ret)/\ip.all (fun cs=>!cs.isEmpty)=true/\(iN as).length<=1 then
    match fn.results.toList.mapM (xE E.P s) with
    |some ks0=>
     match xV s ip.length ks0 oW with
     |some (ks,[],ts)=>
      match kz (px ks),AS s ks,wj s ip.length 0 with
      |true,some (rs,qs),some r=>if r.map List.length=ip.map List.length then some (rs,r,ps++(ts++qs)) else none
      |_,_,_=>none
     |_=>none
    |none=>none
   else none
  |none=>none
variable{H:Nat->bY}{n:Nat}{fn:Func}{ip cy:List (List C)}{rs:List au}
theorem Rz(hJ:Rx E){as:List A}(h:gFn E H n fn as ip gs=some (rs,cy,ps))(hp:jh ps):AJ E H n fn as ip=some (rs,cy):=by
 unfold gFn at h
 unfold AJ
 split at h
 ·cases h
 ·rename_i c hc
  simp only[hc]
  split at h
  ·rename_i e s oW X2 hg
   split at h
   ·rename_i co
    split at h
    ·rename_i ks0 NH
     split at h
     ·rename_i ks ts sH
      split at h
      ·rename_i Ke qs r hd hr hl
       split at h
       ·rename_i dK
        simp only[av,aY] at h
        obtain⟨rfl,rfl,rfl⟩:=h
        rw[iV,iV] at hp
        rw[fB hJ c _ _ _ _ _ _ hg hp.1]
        simp only
        rw[aP co]
        have:yX E.P s ip.length fn.results.toList=some Ke:=by
         unfold yX
         simp only[NH,tY sH hp.2.1]
         rw[aP hd,tW hr hp.2.2]
        simp only[this,hl]
        rw[aP dK]
       ·cases h
      ·cases h
     ·cases h
    ·cases h
   ·cases h
  ·cases h
variable{b:Code}{e:dJ}
theorem YG(S:Nat->St)(N:Nat)(h0:s.head (H (c_ b))=S 0)(hv:(S 0).vars.length=nv)(ht:(S 0).dE.length=nt)(step:∀i,i<N->∃s2,cz E H n b (S i)=some (.normal,s2)/\(s2.cut nv nt).map (fun s=>{s with tmps:=gG s.tmps (H (c_ b)).bJ})=some (S (i+1)))(aB:cz E H n b (S N)=some (e,s'))(he:e≠ .normal)(hn:N<n):NU E H n b s e s':=by
 unfold NU
 simp only[cz,h0,hv,ht]
 have key:∀(k i m:Nat),i+k=N->k<m->yV (fun s=>cz E H n b s) (fun s=>(s.cut nv nt).map fun s=>{s with tmps:=gG s.tmps (H (c_ b)).bJ}) m (S i)=some (e,s'):=by
  intro k
  induction k with
  |zero=>
   intro i m hi hm
   have:i=N:=by omega
   subst this
   cases m with
   |zero=>omega
   |succ m=>
    simp only[yV,aB]
    cases e with
    |normal=>exact absurd rfl he
    |_=>rfl
  |succ k ih=>
   intro i m hi hm
   cases m with
   |zero=>omega
   |succ m=>
    obtain⟨s2,h1,h2⟩:=step i (by omega)
    simp only[yV,h1,h2]
    exact ih (i+1) m (by omega) (by omega)
 exact key N 0 n (by omega) hn
abbrev Tab:=FuncId->Option (List A->List (List C)->Option (List au×List (List C)))
structure aa9(P:Program)(gl:Nat->Option (List C))(X:Tab):Prop where
 call:∀f h xs ip rs cy,X f=some h->h xs ip=some (rs,cy)->j_ P f/\Bp P gl f xs ip rs cy
def aci(H:FuncId->Nat->bY)(g:FuncId):Bool:=(H g 1000000).bJ==[0]
def acj(H:FuncId->Nat->bY)(d t:Nat):Bool:=(H 1000001 t).bJ.contains d
def acl(H:FuncId->Nat->bY)(g:FuncId):Bool:=(H g 1000000).bJ==[1]
def NV(H:FuncId->Nat->bY)(g:FuncId):Option Nat:=match(H g 1000002).bJ with|[sz]=>some sz|_=>none
def Eh(E:lW)(H:Nat->bY)(n:Nat)(fn:Func)(ks:List K)(vs:List (List V))(ts:List Nat)(gs:List G):Option ((List K×List (List V)×List Nat)×List G×List Prop):=
 match fn.body with
 |none=>none
 |some c=>
  match kR E H n c (DD fn ks vs ts) gs with
  |some (e,s,oW,ps)=>
   if e= .normal\/e= .ret then
    match fn.results.toList.mapM (xE E.P s) with
    |some rs=>some ((rs,s.vars,s.dE),oW,ps)
    |none=>none
   else none
  |none=>none
variable{vs:List (List V)}{ts:List Nat}
theorem zo(hJ:Rx E){ks:List K}{r:List K×List (List V)×List Nat}(h:Eh E H n fn ks vs ts gs=some (r,oW,ps))(hp:jh ps):tK E H n fn ks vs ts=some r:=by
 unfold Eh at h
 unfold tK
 split at h
 ·cases h
 ·rename_i c hc
  simp only[hc]
  split at h
  ·rename_i e s Uv X2 hg
   split at h
   ·rename_i he
    split at h
    ·rename_i rs hr
     cases h
     rw[fB hJ c _ _ _ _ _ _ hg hp]
     simp only
     rw[aP he]
     simp only[hr]
    ·cases h
   ·cases h
  ·cases h
def xq(P:Program)(F:rU)(gl:Nat->Option (List C))(H:FuncId->Nat->bY)(n:Nat)(r:yN×yO):yN:=fun g ks vs ts=>
 match(H g 1000003).Kz with
 |some h=>h ks vs ts
 |none=>match P.funcs[g]? with
  |some fn=>tK ⟨P,F,gl,aci H,acj H,acl H,NV H,r.1,r.2⟩ (H g) n fn ks vs ts
  |none=>none
def Uz(P:Program)(F:rU)(gl:Nat->Option (List C))(H:FuncId->Nat->bY)(n:Nat)(r:yN×yO):yO:=fun g ks vs ts gs=>
 match(H g 1000003).Kz with
 |some h=>(h ks vs ts).map fun x=>(x,gs,[])
 |none=>match gs with
  | .inl rs jQ nX::oW=>some ((rs,jQ,nX),oW,[xq P F gl H n r g ks vs ts=some (rs,jQ,nX)])
  |gs=>match P.funcs[g]? with
   |some fn=>Eh ⟨P,F,gl,aci H,acj H,acl H,NV H,r.1,r.2⟩ (H g) n fn ks vs ts gs
   |none=>none
def Ei(P:Program)(F:rU)(gl:Nat->Option (List C))(H:FuncId->Nat->bY)(n:Nat):Nat->yN×yO
 |0=>(fun _ _ _ _=>none,fun _ _ _ _ _=>none)
 |d+1=>(xq P F gl H n (Ei P F gl H n d),Uz P F gl H n (Ei P F gl H n d))
def tZ(P:Program)(F:rU)(gl:Nat->Option (List C))(H:FuncId->Nat->bY)(n d:Nat):lW:=
 ⟨P,F,gl,aci H,acj H,acl H,NV H,(Ei P F gl H n d).1,(Ei P F gl H n d).2⟩
theorem sK{P:Program}{F:rU}{gl:Nat->Option (List C)}{H:FuncId->Nat->bY}{n:Nat}:∀d,Rx (tZ P F gl H n d)
 |0=>fun g ks vs ts gs r oW ps h _=>by simp[tZ,Ei] at h
 |d+1=>fun g ks vs ts gs r oW ps h hp=>by
  have h1:Uz P F gl H n (Ei P F gl H n d) g ks vs ts gs=some (r,oW,ps):=h
  show xq P F gl H n (Ei P F gl H n d) g ks vs ts=some r
  unfold Uz at h1
  split at h1
  ·rename_i hd hh
   simp only[aV,aY] at h1
   obtain⟨x,hx,rfl,_,_⟩:=h1
   unfold xq
   simp only[hh,hx]
  ·rename_i hh
   split at h1
   ·simp only[av,aY] at h1
    obtain⟨rfl,_,rfl⟩:=h1
    exact hp.1
   ·split at h1
    ·rename_i fn Um
     unfold xq
     simp only[hh,Um]
     exact zo (sK d) h1 hp
    ·cases h1
theorem IM{P:Program}{F:rU}{gl:Nat->Option (List C)}{H:FuncId->Nat->bY}{n:Nat}(Ds:∀(f:FuncId) fn,P.funcs[f]?=some fn->(fn.name== "runtime.NumGoroutine")=false)
 (hC:∀f sz,NV H f=some sz->j_ P f/\va P f sz)(hI:∀f h ks vs ts rs jQ nX,(H f 1000003).Kz=some h->h ks vs ts=some (rs,jQ,nX)->j_ P f/\DF P gl f ks vs ts rs jQ nX)(hF:∀f xs ip rs cy,F f xs ip=some (rs,cy)->j_ P f/\Bp P gl f xs ip rs cy):∀d,pG (tZ P F gl H n d)
 |0=>⟨hC,(fun f ks vs ts rs jQ nX h=>by simp[tZ,Ei] at h),hF⟩
 |d+1=>⟨hC,(fun f ks vs ts rs jQ nX h=>by
  have h0:xq P F gl H n (Ei P F gl H n d) f ks vs ts=some (rs,jQ,nX):=h
  unfold xq at h0
  split at h0
  ·rename_i hd hhd
   exact hI f hd ks vs ts rs jQ nX hhd h0
  have h1:(match P.funcs[f]? with|some fn=>tK (tZ P F gl H n d) (H f) n fn ks vs ts|none=>none)=some (rs,jQ,nX):=h0
  split at h1
  ·rename_i fn Um
   refine⟨⟨fn,Um,?_,Ds f fn Um⟩,IG (E:=tZ P F gl H n d) (IM Ds hC hI hF d) Um h1⟩
   unfold tK at h1
   split at h1
   ·cases h1
   ·rename_i c hc;simp[hc]
  ·cases h1),hF⟩
def vo(P:Program)(gl:Nat->Option (List C))(X:Tab)(H:FuncId->Nat->bY)(n:Nat):Nat->rU
 |0=>fun _ _ _=>none
 |k+1=>fun g xs ip=>match X g with
  |some h=>h xs ip
  |none=>match P.funcs[g]? with
   |some fn=>AJ (tZ P (vo P gl X H n k) gl H n 6) (H g) n fn xs ip
   |none=>none
abbrev NW(P:Program)(gl:Nat->Option (List C))(X:Tab)(H:FuncId->Nat->bY)(n k:Nat):lW:=tZ P (vo P gl X H n k) gl H n 6
theorem PY{P:Program}{gl:Nat->Option (List C)}{X:Tab}{H:FuncId->Nat->bY}{n:Nat}(hX:aa9 P gl X)(hC:∀f sz,NV H f=some sz->j_ P f/\va P f sz)(hI:∀f h ks vs ts rs jQ nX,(H f 1000003).Kz=some h->h ks vs ts=some (rs,jQ,nX)->j_ P f/\DF P gl f ks vs ts rs jQ nX)(Ds:∀(f:FuncId) fn,P.funcs[f]?=some fn->(fn.name== "runtime.NumGoroutine")=false):∀k,pG (NW P gl X H n k)
 |0=>IM Ds hC hI (fun f xs ip rs cy h=>by simp[vo] at h) 6
 |k+1=>IM Ds hC hI (fun f xs ip rs cy h=>by
  simp only[vo] at h
  split at h
  ·rename_i hh hx
   exact hX.call f hh xs ip rs cy hx h
  ·split at h
   ·rename_i fn Um
    refine⟨⟨fn,Um,?_,Ds f fn Um⟩,?_⟩
    ·unfold AJ at h
     split at h
     ·cases h
     ·rename_i c hc;simp[hc]
    ·exact Uu (E:=NW P gl X H n k) (PY hX hC hI Ds k) Um h
   ·cases h) 6
variable{P:Program}{gl:Nat->Option (List C)}{X:Tab}{k:Nat}{xs:List A}
theorem YH{H:FuncId->Nat->bY}(hg:P.funcs[g]?=some fn)(hx:X g=none)(h:gFn (NW P gl X H n k) (H g) n fn xs ip gs=some (rs,cy,ps))(hp:jh ps):vo P gl X H n (k+1) g xs ip=some (rs,cy):=by
 simp only[vo,hg,hx]
 exact Rz (sK 6) h hp
theorem K4{H:FuncId->Nat->bY}{h:List A->List (List C)->Option (List au×List (List C))}(hx:X g=some h):vo P gl X H n (k+1) g xs ip=h xs ip:=by
 simp only[vo,hx]
variable{Q:Prop}
theorem NX{H:FuncId->Nat->bY}(hg:P.funcs[g]?=some fn)(hx:X g=none)(q:Q)(h:(gFn (NW P gl X H n k) (H g) n fn xs ip gs).map (fun r=>(r.1,r.2.1,jh r.2.2))=some (rs,cy,Q)):vo P gl X H n (k+1) g xs ip=some (rs,cy):=by
 rw[aV] at h
 obtain⟨⟨rs0,im0,ps⟩,h1,h2⟩:=h
 simp only[aY] at h2
 obtain⟨rfl,rfl,rfl⟩:=h2
 exact YH hg hx h1 q
open Go.RowKit
def xW(r:Nat):Code->Option Code
 | .loop b=>if c_ b=r then some b else xW r b
 | .seq a b=>match xW r a with|some c=>some c|none=>xW r b
 | .cond _ a b=>match xW r a with|some c=>some c|none=>xW r b
 | .block _ b=>xW r b
 |_=>none
def LB(P:Program)(f r:Nat):Code:=
 match P.funcs[f]? with
 |some fn=>match fn.body with
  |some c=>match xW r c with|some b=>b|none=> .skip
  |none=> .skip
 |none=> .skip
def bQ(E:lW)(H:Nat->bY)(n:Nat)(b:Code)(nv nt:Nat)(s s':St):Prop:=
 ∃s2,cz E H n b s=some (.normal,s2)/\(s2.cut nv nt).map (fun s=>{s with tmps:=gG s.tmps (H (c_ b)).bJ})=some s'
def dq(E:lW)(H:Nat->bY)(n:Nat)(b:Code)(s:St)(e:dJ)(s':St):Prop:=cz E H n b s=some (e,s')/\e≠ .normal
def PZ(E:lW)(H:Nat->bY)(n:Nat)(b:Code)(nv nt:Nat)(s:St)(gs:List G):Option (St×List Prop):=
 match kR E H n b s gs with
 |some (.normal,s2,[],ps)=>match s2.cut nv nt with
  |some s3=>some ({s3 with tmps:=gG s3.tmps (H (c_ b)).bJ},ps)
  |none=>none
 |_=>none
def YI(E:lW)(H:Nat->bY)(n:Nat)(b:Code)(s:St)(gs:List G):Option (dJ×St×List Prop):=
 match kR E H n b s gs with
 |some (.normal,_,_,_)=>none
 |some (e,s2,[],ps)=>some (e,s2,ps)
 |_=>none
theorem YJ(hJ:Rx E)(h:PZ E H n b nv nt s gs=some (s',ps))(hp:jh ps):bQ E H n b nv nt s s':=by
 unfold PZ at h
 split at h
 ·rename_i s2 ps2 hg
  split at h
  ·rename_i s3 hc
   simp only[av,aY] at h
   obtain⟨rfl,rfl⟩:=h
   exact⟨s2,fB hJ b _ _ _ _ _ _ hg hp,by rw[hc];rfl⟩
  ·cases h
 ·cases h
theorem acm(hJ:Rx E)(h:YI E H n b s gs=some (e,s',ps))(hp:jh ps):dq E H n b s e s':=by
 unfold YI at h
 split at h
 ·cases h
 ·rename_i e2 s2 ps2 jV hg
  simp only[av,aY] at h
  obtain⟨rfl,rfl,rfl⟩:=h
  exact⟨fB hJ b _ _ _ _ _ _ hg hp,fun he=>jV he⟩
 ·cases h
theorem UA(hJ:Rx E)(q:Q)(h:(PZ E H n b nv nt s gs).map (fun r=>(r.1,jh r.2))=some (s',Q)):bQ E H n b nv nt s s':=by
 rw[aV] at h
 obtain⟨⟨s0,ps⟩,h1,h2⟩:=h
 simp only[aY] at h2
 obtain⟨rfl,rfl⟩:=h2
 exact YJ hJ h1 q
theorem YK(hJ:Rx E)(q:Q)(h:(YI E H n b s gs).map (fun r=>(r.1,r.2.1,jh r.2.2))=some (e,s',Q)):dq E H n b s e s':=by
 rw[aV] at h
 obtain⟨⟨e0,s0,ps⟩,h1,h2⟩:=h
 simp only[aY] at h2
 obtain⟨rfl,rfl,rfl⟩:=h2
 exact acm hJ h1 q
variable{s0:St}
theorem t_(S:Nat->St)(N:Nat)(h0:s0=S 0)(hv:(S 0).vars.length=nv)(ht:(S 0).dE.length=nt)(step:∀i,i<N->bQ E H n b nv nt (S i) (S (i+1)))(aB:dq E H n b (S N) e s')(hn:N<n):bT E H n b s0 e s':=
 fun _ hs=>YG S N (hs.trans h0) hv ht step aB.1 aB.2 hn
def agB(k:IntKind)(x y:Int):Int:=k.wrap (BitVec.ofInt k.bits x^^^BitVec.ofInt k.bits y).toNat
variable{α:Type}
theorem ct{b:Bool}{x y z:α}(h:b=true)(hx:x=z):cond b x y=z:=by rw[h];exact hx
abbrev u(n:Int):C:= .raw (.int .u64 n)
abbrev ii(n:Int):C:= .raw (.int .i64 n)
abbrev w4(n:Int):C:= .raw (.int .u32 n)
abbrev bo(b:Bool):C:= .raw (.bool b)
abbrev tc(x:C):T:= .k (.v (.c x))
theorem dG{x:Int}(h1: -9223372036854775808<=x)(h2:x<9223372036854775808):wrap .i64 x=x:=by
 unfold wrap
 simp[IntKind.signed,IntKind.bits]
 omega
theorem ke{σ:Type}(S:σ->Nat->St)(P:Nat->σ->Prop)(l:List α)(g:σ->α->σ)(a0:σ){t:σ->St}(hs:s0=S a0 0)(hv:(S a0 0).vars.length=nv)(ht:(S a0 0).dE.length=nt)(hP:P 0 a0)(step:∀a i x,l[i]?=some x->P i a->bQ E H n b nv nt (S a i) (S (g a x) (i+1))/\P (i+1) (g a x))(aB:P l.length (l.foldl g a0)->dq E H n b (S (l.foldl g a0) l.length) e (t (l.foldl g a0)))(hn:l.length<n):bT E H n b s0 e (t (l.foldl g a0)):=by
 have lz:∀i,i<=l.length->P i ((l.take i).foldl g a0):=by
  intro i
  induction i with
  |zero=>intro _;simpa using hP
  |succ i ih=>
   intro hi
   have hx:l[i]?=some l[i]:=cm (by omega)
   have:=(step _ i _ hx (ih (by omega))).2
   rwa[List.take_add_one,hx,rP]
 refine t_ (nv:=nv) (nt:=nt) (fun i=>S ((l.take i).foldl g a0) i) l.length (by simpa using hs) (by simpa using hv) (by simpa using ht) (fun i hi=> ?_) ?_ hn
 ·have hx:l[i]?=some l[i]:=cm hi
  have:=(step _ i _ hx (lz i (by omega))).1
  rw[List.take_add_one,hx,rP]
  exact this
 ·rw[qX]
  exact aB (by have:=lz l.length (by omega);rwa[qX] at this)
theorem zp(S:Nat->St)(l:List α)(p:α->Bool){t:St}(hs:s0=S 0)(hv:(S 0).vars.length=nv)(ht:(S 0).dE.length=nt)(step:∀i x,l[i]?=some x->p x=false->bQ E H n b nv nt (S i) (S (i+1)))(hit:∀x,l[l.findIdx p]?=some x->p x=true->dq E H n b (S (l.findIdx p)) e t)(hj:l.findIdx p<l.length)(hn:l.length<n):bT E H n b s0 e t:=by
 refine t_ (nv:=nv) (nt:=nt) S (l.findIdx p) hs hv ht (fun i hi=> ?_) ?_ (by omega)
 ·have hx:l[i]?=some l[i]:=cm (by omega)
  exact step i _ hx (by have:=H7 hi;simpa using this)
 ·have hx:l[l.findIdx p]?=some l[l.findIdx p]:=cm hj
  exact hit _ hx (H2 (w:=hj))
theorem wB(S:Nat->St)(l:List α)(p:α->Bool){t:St}(hs:s0=S 0)(hv:(S 0).vars.length=nv)(ht:(S 0).dE.length=nt)(step:∀i x,l[i]?=some x->p x=false->bQ E H n b nv nt (S i) (S (i+1)))(akM:dq E H n b (S l.length) e t)(hj:l.all (fun x=>!p x)=true)(hn:l.length<n):bT E H n b s0 e t:=by
 refine t_ (nv:=nv) (nt:=nt) S l.length hs hv ht (fun i hi=> ?_) akM hn
 have hx:l[i]?=some l[i]:=cm hi
 refine step i _ hx ?_
 have:=lG.1 hj l[i] (Dn hi)
 simpa using this
theorem iz{l:List α}{p:α->Bool}(h:l.any p=true):l.findIdx p<l.length:=by
 rw[List.findIdx_lt_length]
 simpa using h
theorem qA{l:List α}{p:α->Bool}(h:l.any p=false):l.all (fun x=>!p x)=true:=by
 rw[lG]
 intro x hx
 rw[pf] at h
 have:=h x hx
 simpa using this
variable{i:Nat}
theorem RA(h:i<n)(hn:n<9223372036854775808):wrap .i64 ((i:Int)+1)=((i+1:Nat):Int):=by rw[dG (by omega) (by omega)];simp
abbrev st(s:ByteArray):C:= .raw (.string s)
abbrev CC(n:Int):C:= .raw (.int .u8 n)
def Wy(_:List G)(Q:Prop):Prop:=Q
theorem e0:Wy [] True:=trivial
theorem ep{p:Prop}(h:p)(r:Wy gs Q):Wy gs (p/\Q):=⟨h,r⟩
theorem eg(g:G)(r:Wy gs Q):Wy (g::gs) Q:=r
theorem eb{b c:Bool}(h:b=c)(r:Wy gs Q):Wy (.b c::gs) (b=c/\Q):=⟨h,r⟩
theorem en{b c:Bool}(h:b=c)(r:Wy gs Q):Wy (.b (not c)::gs) (not b=not c/\Q):=⟨cu not h,r⟩
theorem et(r:Wy gs Q):Wy (.b true::gs) (true=true/\Q):=⟨rfl,r⟩
theorem ef(r:Wy gs Q):Wy (.b false::gs) (false=false/\Q):=⟨rfl,r⟩
theorem jg(n:Nat)(r:Wy gs Q):Wy gs (n=n/\Q):=⟨rfl,r⟩
theorem ec{H:FuncId->Nat->bY}(h:vo P gl X H n k g xs ip=some (rs,cy))(r:Wy gs Q):Wy (.call rs cy::gs) (vo P gl X H n k g xs ip=some (rs,cy)/\Q):=⟨h,r⟩
theorem ro{H:FuncId->Nat->bY}(q:Wy gs Q)(hg:P.funcs[g]?=some fn:=by rfl)(hx:X g=none:=by rfl)(h:(gFn (NW P gl X H n k) (H g) n fn xs ip gs).map (fun r=>(r.1,r.2.1,jh r.2.2))=some (rs,cy,Q):=by kernel_rfl):vo P gl X H n (k+1) g xs ip=some (rs,cy):=NX hg hx q h
theorem rt{H:FuncId->Nat->bY}{r:Option (List au×List (List C))}(q:Wy gs Q)(e:some (rs,([]:List (List C)))=r)(hg:P.funcs[g]?=some fn:=by rfl)(hx:X g=none:=by rfl)(h:(gFn (NW P gl X H n k) (H g) n fn xs [] gs).map (fun r=>(r.1,r.2.1,jh r.2.2))=some (rs,[],Q):=by kernel_rfl):vo P gl X H n (k+1) g xs []=r:=(NX hg hx q h).trans e
theorem kS{H:FuncId->Nat->bY}{r:Option (List au×List (List C))}(q:Wy gs Q)(e:some (rs,cy)=r)(hg:P.funcs[g]?=some fn:=by rfl)(hx:X g=none:=by rfl)(h:(gFn (NW P gl X H n k) (H g) n fn xs ip gs).map (fun r=>(r.1,r.2.1,jh r.2.2))=some (rs,cy,Q):=by kernel_rfl):vo P gl X H n (k+1) g xs ip=r:=(NX hg hx q h).trans e
variable{F:rU}{d:Nat}
theorem YL{H:FuncId->Nat->bY}{ks:List K}{x:List K×List (List V)×List Nat}(hg:P.funcs[g]?=some fn)(hh:(H g 1000003).Kz=none)(q:Q)(h:(Eh (tZ P F gl H n d) (H g) n fn ks vs ts gs).map (fun r=>(r.1,r.2.1,jh r.2.2))=some (x,[],Q)):xq P F gl H n (Ei P F gl H n d) g ks vs ts=some x:=by
 rw[aV] at h
 obtain⟨⟨x0,gs0,ps⟩,h1,h2⟩:=h
 simp only[aY] at h2
 obtain⟨rfl,rfl,rfl⟩:=h2
 unfold xq
 simp only[hh,hg]
 exact zo (sK d) h1 q
theorem ri{H:FuncId->Nat->bY}{ks:List K}{x:List K×List (List V)×List Nat}{r:Option (List K×List (List V)×List Nat)}(q:Wy gs Q)(e:some x=r)(hg:P.funcs[g]?=some fn:=by rfl)(hh:(H g 1000003).Kz=none:=by rfl)(h:(Eh (tZ P F gl H n d) (H g) n fn ks vs ts gs).map (fun r=>(r.1,r.2.1,jh r.2.2))=some (x,[],Q):=by kernel_rfl):xq P F gl H n (Ei P F gl H n d) g ks vs ts=r:=(YL hg hh q h).trans e
variable{HH:FuncId->Nat->bY}{N:Nat}
theorem nx(q:Wy gs Q)(h:(PZ (tZ P F gl HH N d) H n b nv nt s gs).map (fun r=>(r.1,jh r.2))=some (s',Q):=by kernel_rfl):bQ (tZ P F gl HH N d) H n b nv nt s s':=UA (sK d) q h
theorem ou(q:Wy gs Q)(h:(YI (tZ P F gl HH N d) H n b s gs).map (fun r=>(r.1,r.2.1,jh r.2.2))=some (e,s',Q):=by kernel_rfl):dq (tZ P F gl HH N d) H n b s e s':=YK (sK d) q h
theorem nn{b:Bool}(h:b=true):(!b)=false:=by rw[h];rfl
theorem aT{f:α->List C}{l:List α}{x:α}(h:l[i]?=some x):(l.map f)[i]?=some (f x):=by rw[nm,h];rfl
theorem aG(f:α->List C)(l:List α):(l.map f).length=l.length:=jq f
theorem dH(f:α->List C)(l r:List α):l.map f++r.map f=(l++r).map f:=fA.symm
theorem eF(l:List (List C)):[]++l=l:=rfl
theorem zq(f:α->List C)(l:List α)(a:Nat):((l.map f).take l.length).drop a=(l.drop a).map f:=by
 rw[<-List.map_take,<-List.map_drop,qX]
abbrev eS(s:ByteArray):List C:=[st s]
abbrev eU(n:Int):List C:=[u n]
abbrev eI(n:Int):List C:=[ii n]
abbrev eB(b:Bool):List C:=[bo b]
abbrev strs(l:List ByteArray):List (List C):=l.map eS
theorem bz(f:α->List C){l:List α}(h:l.length<=n):(l.map f).length<=n:=by rw[jq];exact h
theorem j6{f:α->List C}{g:α->C}(h:∀x,f x=[g x])(l:List α):(l.map f).flatten.map V.c=l.map fun x=>V.c (g x):=by
 induction l with
 |nil=>rfl
 |cons x l ih=>simp only[eY,tu,fA,h,ih];rfl
theorem j7(f:α->List C){l:List α}(h:0<l.length):0<(l.map f).length:=by rw[jq];exact h
theorem qB(f:α->List C){l:List α}{j:Nat}(h:j<l.length):j<(l.map f).length:=by rw[jq];exact h
theorem ua(g:α->V)(l:List α)(j:Nat)(v:V)(h:j<l.length):0+j*1+[v].length<=(l.map g).length:=by
 simp only[jq,cV,eO];omega
theorem pZ(g:α->V)(l:List α)(j:Nat)(y:α)(h:j<l.length):(l.map g).take (0+j*1)++[g y]++(l.map g).drop (0+j*1+[g y].length)=(l.set j y).map g:=by
 have e:0+j*1=j:=by omega
 rw[e,PA,aP h]
 simp
theorem P0(g:α->V)(l:List α)(j:Nat)(y:α)(h:l[j]?=some y):(l.map g)[0+j*1]?=some (g y):=by
 have e:0+j*1=j:=by omega
 rw[e,nm,h];rfl
theorem K5{α:Type}(g:α->C):∀(l:List α),(l.map fun x=>V.c (g x)).mapM V.GB=some (l.map g)
 |[]=>rfl
 |x::l=>by rw[eY,fv,K5 g l];rfl
theorem Ej{α:Type}(g:α->C):∀(l:List α),pk 1 l.length (l.map g)=some (l.map fun x=>[g x])
 |[]=>rfl
 |x::l=>by
  simp only[cV,eY,pk]
  rw[aP (by omega)]
  simp only[List.drop_succ_cons,Di,Ej g l,dw]
  rfl
theorem gH(g:α->C)(l:List α)(h:n=l.length):(((l.map fun x=>V.c (g x)).drop 0).mapM V.GB).bind (pk 1 n)=some (l.map fun x=>[g x]):=by
 subst h
 rw[Di,K5,q9,Ej]
theorem P2(g:α->C)(l:List α)(n:Nat):(l.map fun x=>V.c (g x)).all (V.yM n)=true:=by
 simp[V.yM]
theorem GY(g:α->C)(l:List α)(k:Nat):(l.map fun x=>V.c (g x)).map (V.lm k)=l.map fun x=>V.c (g x):=by
 simp[V.lm]
def K6(uY:List Nat)(n k:Nat):Nat->List (List V)->Option (List (List V)×List Prop)
 |_,[]=>some ([],[])
 |i,xs::r=>match K6 uY n k (i+1) r with
  |some (ys,ps)=>if uY.contains i then some (xs::ys,(xs.all (V.yM n)=true)::(xs.map (V.lm k)=xs)::ps) else if xs.all (V.yM n) then some (xs.map (V.lm k)::ys,ps) else none
  |none=>none
theorem vv{uY:List Nat}{n k:Nat}:∀{i:Nat} {xs ys:List (List V)} {ps:List Prop},K6 uY n k i xs=some (ys,ps)->jh ps->xs.all (fun x=>x.all (V.yM n))=true/\xs.map (fun x=>x.map (V.lm k))=ys
 |_,[],ys,ps,h,_=>by simp only[K6,av,aY] at h;obtain⟨rfl,_⟩:=h;exact⟨rfl,rfl⟩
 |i,x::xs,ys,ps,h,hp=>by
  simp only[K6] at h
  split at h
  ·rename_i zs qs hr
   split at h
   ·simp only[av,aY] at h
    obtain⟨rfl,rfl⟩:=h
    obtain⟨h1,h2,h3⟩:=hp
    obtain⟨g1,g2⟩:=vv hr h3
    exact⟨by simp only[pe,h1,g1,HR],by rw[eY,g2,h2]⟩
   ·split at h
    ·rename_i h1
     simp only[av,aY] at h
     obtain⟨rfl,rfl⟩:=h
     obtain⟨g1,g2⟩:=vv hr hp
     exact⟨by simp only[pe,h1,g1,HR],by rw[eY,g2]⟩
    ·cases h
  ·cases h
def NY(uY:List Nat)(E:lW)(H:Nat->bY)(n:Nat)(b:Code)(nv nt:Nat)(s:St)(gs:List G):Option (St×List Prop):=
 match kR E H n b s gs with
 |some (.normal,s2,[],ps)=>match K6 uY nv nt 0 (s2.vars.take nv) with
  |some (vs,qs)=>some (⟨gG (s2.tmps.map (T.cut nv nt)) (H (c_ b)).bJ,vs,s2.dE.take nt⟩,ps++qs)
  |none=>none
 |_=>none
theorem RB(hJ:Rx E)(uY:List Nat)(q:Q)(h:(NY uY E H n b nv nt s gs).map (fun r=>(r.1,jh r.2))=some (s',Q)):bQ E H n b nv nt s s':=by
 rw[aV] at h
 obtain⟨⟨s0,ps⟩,h1,h2⟩:=h
 simp only[aY] at h2
 obtain⟨rfl,rfl⟩:=h2
 unfold NY at h1
 split at h1
 ·rename_i s2 ps2 hg
  split at h1
  ·rename_i vs qs hv
   simp only[av,aY] at h1
   obtain⟨rfl,rfl⟩:=h1
   rw[iV] at q
   obtain⟨g1,g2⟩:=vv hv q.2
   refine⟨s2,fB hJ b _ _ _ _ _ _ hg q.1,?_⟩
   simp only[St.cut,g1,g2,bu,dw]
  ·cases h1
 ·cases h1
theorem nx2(uY:List Nat)(q:Wy gs Q)(h:(NY uY (tZ P F gl HH N d) H n b nv nt s gs).map (fun r=>(r.1,jh r.2))=some (s',Q):=by kernel_rfl):bQ (tZ P F gl HH N d) H n b nv nt s s':=RB (sK d) uY q h
theorem pA{E:Nat->lW}(S:Nat->St)(l:List α)(p:α->Bool)(R:Nat->α->St)(D:St){e':dJ}(hv:(S 0).vars.length=nv)(ht:(S 0).dE.length=nt)(step:∀k i x,l[i]?=some x->p x=false->bQ (E k) H n b nv nt (S i) (S (i+1)))(hit:∀k i x,l[i]?=some x->p x=true->dq (E k) H n b (S i) e (R i x))(done:∀k,dq (E k) H n b (S l.length) e' D)(hn:l.length<n):
 (l.any p=false/\∀k,bT (E k) H n b (S 0) e' D)\/(l.any p=true/\∃i x,l[i]?=some x/\p x=true/\l.find? p=some x/\(∀j y,j<i->l[j]?=some y->p y=false)/\∀k,bT (E k) H n b (S 0) e (R i x)):=by
 cases hb:l.any p with
 |false=>exact .inl ⟨rfl,fun k=>wB S l p rfl hv ht (step k) (done k) (qA hb) hn⟩
 |true=>
  have hj:=iz hb
  have hx:l[l.findIdx p]?=some l[l.findIdx p]:=cm hj
  have hp:p l[l.findIdx p]=true:=H2 (w:=hj)
  refine .inr ⟨rfl,_,_,hx,hp,by rw[List.find?_eq_getElem?_findIdx,hx],fun j y fO hy=> ?_,fun k=>zp S l p rfl hv ht (step k) (fun x hy hq=> ?_) hj hn⟩
  ·have:=H7 fO
   obtain⟨hj2,rfl⟩:=List.getElem?_eq_some_iff.1 hy
   simpa using this
  ·rw[hx] at hy;cases hy
   exact hit k _ _ hx hq
theorem aba{E:Nat->lW}{σ:Type}(S:σ->Nat->St)(P:Nat->σ->Prop)(l:List α)(g:σ->α->σ)(a0:σ)(t:σ->St)(hv:(S a0 0).vars.length=nv)(ht:(S a0 0).dE.length=nt)(hP:P 0 a0)(abb:∀a i x,l[i]?=some x->P i a->P (i+1) (g a x))(step:∀k a i x,l[i]?=some x->P i a->bQ (E k) H n b nv nt (S a i) (S (g a x) (i+1)))(aB:∀k,P l.length (l.foldl g a0)->dq (E k) H n b (S (l.foldl g a0) l.length) e (t (l.foldl g a0)))(hn:l.length<n):P l.length (l.foldl g a0)/\∀k,bT (E k) H n b (S a0 0) e (t (l.foldl g a0)):=by
 have lz:∀i,i<=l.length->P i ((l.take i).foldl g a0):=by
  intro i
  induction i with
  |zero=>intro _;simpa using hP
  |succ i ih=>
   intro hi
   have hx:l[i]?=some l[i]:=cm (by omega)
   have:=abb _ i _ hx (ih (by omega))
   rwa[List.take_add_one,hx,rP]
 refine⟨by have:=lz l.length (aL _);rwa[qX] at this,fun k=>ke S P l g a0 rfl hv ht hP (fun a i x hx hp=>⟨step k a i x hx hp,abb a i x hx hp⟩) (aB k) hn⟩
variable{β:Type}
theorem YM{a:List α}{b:List β}{p:α×β}(h:(a.zip b)[i]?=some p):a[i]?=some p.1/\b[i]?=some p.2:=by
 rw[H4] at h
 exact h
theorem gJ{l:List α}{x:α}(h:l[i]?=some x):i<l.length:=(List.getElem?_eq_some_iff.1 h).1
theorem sM{l:List α}{x:α}(h:l[i]?=some x):decide ((i:Int)<(l.length:Int))=true:=cJ (by have:=gJ h;omega)
theorem Gf:decide ((n:Int)<(n:Int))=false:=fN (by omega)
theorem p6{l:List α}{x:α}(h:l[i]?=some x)(hn:l.length<=1000000000):wrap .i64 ((i:Int)+1)=((i+1:Nat):Int):=RA (n:=l.length) (gJ h) (by omega)
theorem GZ(a b:ByteArray):(a==b)=(a.data==b.data):=by cases a;cases b;rfl
instance:LawfulBEq ByteArray where
 rfl {a}:=by rw[GZ];exact pO _
 eq_of_beq {a b} h:=by
  rw[GZ] at h
  have:=eq_of_beq h
  cases a;cases b;simp at this;subst this;rfl
def hs:Nat->List T->List T
 |0,r=>r
 |n+1,r=> .bf::hs n r
def ks:Nat->List T->List T
 |0,r=>r
 |n+1,r=> .skip::ks n r
open Go.RowKit Go.ChangeShapes Go.WideShapes
def sw(P:Program):Nat->TypeId->List C->Prop
 |0,_,_=>False
 |f+1,t,xs=>
  match P.underlying t with
  |some .bool=>∃b,xs=[.raw (.bool b)]
  |some (.int k)=>∃n,xs=[.raw (.int k n)]/\(Lit.int k n).wf=true
  |some .string=>∃s:ByteArray,xs=[.raw (.string s)]/\s.size<=maxLen
  |some (.slice e)=>∃es,xs=[.slice (P.cellsOf e) es]/\es.length<=maxLen/\∀x∈es,sw P f e x
  |some (.array n e)=>∃es:List (List C),xs=es.flatten/\es.length=n/\∀x∈es,sw P f e x
  |some (.struct fs)=>∃ps:List (List C),xs=ps.flatten/\bj (fun g x=>sw P f g.type x) fs.toList ps
  |_=>False
def xr(P:Program):List Field->Nat->Option Nat
 |[],o=>some o
 |f::fs,o=>if f.offset=o then xr P fs (o+P.cellsOf f.type) else none
def nJ(P:Program):Nat->TypeId->Bool
 |0,_=>false
 |f+1,t=>
  match P.underlying t with
  |some .bool|some (.int _)|some .string=>true
  |some (.slice e)=>decide (0<P.cellsOf e)&&nJ P f e
  |some (.array n e)=>decide (P.cellsOf t=n*P.cellsOf e)&&nJ P f e
  |some (.struct fs)=>decide (xr P fs.toList 0=some (P.cellsOf t))&&fs.toList.all (fun g=>nJ P f g.type)
  |_=>false
section
variable{H:Type}{enc:TypeId×Value->H}{P:Program}{w:World}{cF:Nat}{UB:Bool}
def AT(w:World):Nat->Nat->Prop:=fun b _=>b<w.heap.size
theorem K7{R:List C->Prop}{sz:Nat}:∀{n:Nat} {cs:List Value},cs.length=n*sz->(∀i,i<n->∃ys,R ys/\bj (C.aE (AT w) w) ys ((cs.drop (i*sz)).take sz))->
 ∃es:List (List C),es.length=n/\(∀x∈es,R x)/\bj (C.aE (AT w) w) es.flatten cs
 |0,cs,hl,_=>by
  have:cs=[]:=rN (by simpa using hl)
  subst this
  exact⟨[],rfl,by simp,trivial⟩
 |n+1,cs,hl,h=>by
  obtain⟨ys,hy,hr⟩:=h 0 (by omega)
  rw[Nat.zero_mul,Di] at hr
  obtain⟨es,h1,h2,h3⟩:=K7 (n:=n) (sz:=sz) (cs:=cs.drop sz) (by rw[rR,hl,lU];omega) (fun i hi=>by
   obtain⟨ys,hy,hr⟩:=h (i+1) (by omega)
   refine⟨ys,hy,?_⟩
   rw[List.drop_drop]
   rwa[show sz+i*sz=(i+1)*sz by rw[lU];omega])
  refine⟨ys::es,by simp[h1],?_,?_⟩
  ·intro x hx
   rcases cM.1 hx with rfl|hx
   ·exact hy
   ·exact h2 x hx
  ·rw[tu]
   have:=hr.append h3
   rwa[H8] at this
theorem Ek{R:Field->List C->Prop}:∀{fs:List Field} {o m:Nat} {cs:List Value},xr P fs o=some m->o+cs.length=m->(∀f∈fs,∃ys,R f ys/\bj (C.aE (AT w) w) ys ((cs.drop (f.offset-o)).take (P.cellsOf f.type)))->(∀f∈fs,o<=f.offset)->
 ∃ps:List (List C),bj R fs ps/\bj (C.aE (AT w) w) ps.flatten cs
 |[],o,m,cs,hm,hl,_,_=>by
  simp only[xr,av] at hm
  have:cs=[]:=rN (by omega)
  subst this
  exact⟨[],trivial,trivial⟩
 |f::fs,o,m,cs,hm,hl,h,ho=>by
  simp only[xr] at hm
  split at hm
  ·rename_i hf
   obtain⟨ys,hy,hr⟩:=h f (by simp)
   rw[hf,Nat.sub_self,Di] at hr
   have Dq:∀{gs:List Field} {a b:Nat},xr P gs a=some b->a<=b:=by
    intro gs
    induction gs with
    |nil=>intro a b h;simp only[xr,av] at h;omega
    |cons g gs ih=>intro a b h;simp only[xr] at h;split at h
                   ·have:=ih h;omega
                   ·cases h
   have lz:∀{gs:List Field} {a b:Nat},xr P gs a=some b->∀g∈gs,a<=g.offset:=by
    intro gs
    induction gs with
    |nil=>intro a b h g hg;simp at hg
    |cons g gs ih=>
     intro a b h g' hg'
     simp only[xr] at h
     split at h
     ·rename_i hga
      rcases cM.1 hg' with rfl|hg'
      ·omega
      ·have:=ih h g' hg';omega
     ·cases h
   have rZ:=Dq hm
   obtain⟨ps,h1,h2⟩:=Ek (R:=R) (cs:=cs.drop (P.cellsOf f.type)) hm (by rw[rR];omega) (fun g hg=>by
    obtain⟨ys,hy,hr⟩:=h g (by simp[hg])
    refine⟨ys,hy,?_⟩
    have:=lz hm g hg
    rw[List.drop_drop]
    rwa[show P.cellsOf f.type+(g.offset-(o+P.cellsOf f.type))=g.offset-o by omega]) (lz hm)
   refine⟨ys::ps,⟨hy,h1⟩,?_⟩
   rw[tu]
   have:=hr.append h2
   rwa[H8] at this
  ·cases hm
theorem G0{α β:Type}{f:α->Option β}:∀{xs:List α} {ys:List β},xs.mapM f=some ys->∀(i:Nat) (x:α),xs[i]?=some x->∃y,ys[i]?=some y/\f x=some y
 |[],ys,h,i,x,hx=>by simp at hx
 |a::xs,ys,h,i,x,hx=>by
  rw[fv] at h
  simp only[j5,j4,ig,av] at h
  obtain⟨z,hz,zs,hzs,rfl⟩:=h
  cases i with
  |zero=>simp at hx;subst hx;exact⟨z,rfl,hz⟩
  |succ i=>simp at hx ⊢;exact G0 hzs i x hx
theorem BL{a:Addr}{vs:List Value}(h:w.cells? cF a n=some vs):vs.length=n/\∀j,j<n->∃v,vs[j]?=some v/\w.cell? (a.add j)=some v:=by
 unfold World.cells? at h
 split at h
 ·refine⟨by have:=kB h;simpa using this,fun j hj=> ?_⟩
  obtain⟨y,h1,h2⟩:=G0 h j j (by simp[hj])
  exact⟨y,h1,h2⟩
 ·cases h
theorem RC{a:Addr}{v:Value}(h:w.cell? a=some v):a.spot=none:=by
 unfold World.cell? at h
 split at h
 ·split at h
  ·cases h
  ·rename_i hs;cases hq:a.spot with
   |none=>rfl
   |some _=>rw[hq] at hs;simp at hs
 ·cases h
theorem K8{b o:Nat}:(⟨b,o,none⟩:Addr).add n=⟨b,o+n,none⟩:=by
 unfold Addr.add
 split
 ·rename_i h;subst h;rfl
 ·rfl
theorem rB:∀(n:Nat) {t:TypeId} {Ea:Nat} {cs:List Value} {x:DataW H×List MemPlace},nJ P n t=true->DataW.trod enc P w cF (fun _=>true) UB Ea t cs=some x->
 ∃xs,sw P n t xs/\bj (C.aE (AT w) w) xs cs
 |0,t,Ea,cs,x,hp,_=>by simp[nJ] at hp
 |n+1,t,Ea,cs,x,hp,h=>by
  simp only[nJ] at hp
  split at hp
  ·rename_i hu
   obtain⟨b,rfl,_⟩:=DataW.trod_bool hu h
   exact⟨[.raw (.bool b)],by simp only[sw,hu];exact⟨b,rfl⟩,(by unfold C.aE;exact⟨rfl,rfl⟩),trivial⟩
  ·rename_i k hu
   obtain⟨i,rfl,_,hw⟩:=DataW.trod_int hu h
   exact⟨[.raw (.int k i)],by simp only[sw,hu];exact⟨i,rfl,hw⟩,(by unfold C.aE;exact⟨rfl,rfl⟩),trivial⟩
  ·rename_i hu
   obtain⟨s,rfl,_,hs⟩:=DataW.trod_string hu h
   exact⟨[.raw (.string s)],by simp only[sw,hu];exact⟨s,rfl,hs⟩,(by unfold C.aE;exact⟨rfl,rfl⟩),trivial⟩
  ·rename_i e hu
   simp only[cY,ij] at hp
   obtain⟨F6,hp⟩:=hp
   rcases DataW.trod_slice hu h with⟨rfl,_⟩|⟨a,len,cap,anl,rX,m,_,rfl,_,hb,hlc,hcm,hel,sJ,F8,_⟩
   ·refine⟨[.slice (P.cellsOf e) []],by simp only[sw,hu];exact⟨[],rfl,by simp,by simp⟩,?_,trivial⟩
    simp only[C.aE]
    exact⟨none,0,0,rfl,rfl,aL _, .inl ⟨rfl,rfl⟩⟩
   ·have abc:∀i,i<len->∃vs ys,w.cells? cF (a.add (i*P.cellsOf e)) (P.cellsOf e)=some vs/\sw P n e ys/\bj (C.aE (AT w) w) ys vs:=fun i hi=>by
     have hg:=sJ i hi
     rw[cm (by omega)] at hg
     simp only[ig] at hg
     obtain⟨vs,h1,h2⟩:=hg
     obtain⟨ys,h3,h4⟩:=rB n hp h2
     exact⟨vs,ys,h1,h3,h4⟩
    by_cases oS:cap=0
    ·have:len=0:=by omega
     subst this;subst oS
     refine⟨[.slice (P.cellsOf e) []],by simp only[sw,hu];exact⟨[],rfl,by simp,by simp⟩,?_,trivial⟩
     simp only[C.aE]
     exact⟨some a,0,0,rfl,rfl,aL _, .inl ⟨rfl,rfl⟩⟩
    ·have abd:a.spot=none:=by
      have hz:∀{i:Nat},i*P.cellsOf e=0->∀vs,w.cells? cF (a.add (i*P.cellsOf e)) (P.cellsOf e)=some vs->a.spot=none:=fun {i} hi vs hv=>by
       obtain⟨_,h2⟩:=BL hv
       obtain⟨v,_,h3⟩:=h2 0 F6
       rw[hi] at h3
       simpa[Addr.add] using RC h3
      by_cases hl:len=0
      ·obtain⟨sr,Yz⟩:=F8 rfl
       have hg:=Yz 0 (by omega)
       rw[cm (by omega)] at hg
       simp only[ig] at hg
       obtain⟨vs,h1,_⟩:=hg
       exact hz (by simp[hl]) vs h1
      ·obtain⟨vs,_,h1,_⟩:=abc 0 (by omega)
       exact hz (by simp) vs h1
     obtain⟨b,o,sp⟩:=a
     simp only at abd
     subst abd
     have Ui:∀k i,i+k=len->∃es:List (List C),es.length=k/\(∀x∈es,sw P n e x)/\dF (AT w) w (P.cellsOf e) b es (o+i*P.cellsOf e):=by
      intro k
      induction k with
      |zero=>intro i _;exact⟨[],rfl,by simp,by simp only[dF]⟩
      |succ k ih=>
       intro i hi
       obtain⟨es,h1,h2,h3⟩:=ih (i+1) (by omega)
       obtain⟨vs,ys,g1,g2,g3⟩:=abc i (by omega)
       obtain⟨c1,c2⟩:=BL g1
       refine⟨ys::es,by simp[h1],?_,?_⟩
       ·intro x hx
        rcases cM.1 hx with rfl|hx
        ·exact g2
        ·exact h2 x hx
       ·simp only[dF]
        refine⟨by rw[g3.length,c1],lH fun j c hj=> ?_,by rwa[show o+i*P.cellsOf e+P.cellsOf e=o+(i+1)*P.cellsOf e by rw[lU];omega]⟩
        have Yg:j<P.cellsOf e:=by
         have:=(List.getElem?_eq_some_iff.1 hj).1
         rw[g3.length,c1] at this
         exact this
        obtain⟨v,q1,q2⟩:=c2 j Yg
        rw[K8,K8] at q2
        obtain⟨v',q3,q4⟩:=g3.get j c hj
        rw[q1] at q3;cases q3
        exact⟨World.block_lt_of_cell? w _ q2,v,q2,q4⟩
     obtain⟨es,h1,h2,h3⟩:=Ui len 0 (by omega)
     rw[Nat.zero_mul,qY] at h3
     refine⟨[.slice (P.cellsOf e) es],by simp only[sw,hu];exact⟨es,rfl,by omega,h2⟩,?_,trivial⟩
     simp only[C.aE]
     exact⟨some ⟨b,o,none⟩,len,cap,rfl,h1.symm,hlc, .inr ⟨b,o,rfl,h3⟩⟩
  ·rename_i k e hu
   simp only[cY,ij] at hp
   obtain⟨o9,hp⟩:=hp
   obtain⟨xs,m,_,_,ly,hxl,sJ⟩:=DataW.trod_array hu h
   obtain⟨es,h1,h2,h3⟩:=K7 (w:=w) (R:=sw P n e) (n:=k) (sz:=P.cellsOf e) (cs:=cs) (by rw[ly,o9]) (fun i hi=>by
    have hg:=sJ i hi
    rw[cm (by omega)] at hg
    exact rB n hp hg)
   exact⟨es.flatten,by simp only[sw,hu];exact⟨es,rfl,h1,h2⟩,h3⟩
  ·rename_i fs hu
   simp only[cY,ij] at hp
   obtain⟨F2,hp⟩:=hp
   obtain⟨xs,m,_,_,ly,hxl,sJ⟩:=DataW.trod_struct hu h
   obtain⟨ps,h1,h2⟩:=Ek (w:=w) (P:=P) (R:=fun g x=>sw P n g.type x) (cs:=cs) F2 (by omega) (fun f hf=>by
    obtain⟨i,hi,rfl⟩:=Do hf
    have Km:i<fs.size:=by simpa using hi
    have hg:=sJ i fs[i] (by simp[Km])
    rw[cm (by omega)] at hg
    have hpt:=lG.1 hp _ hf
    have:=rB n hpt (by simpa using hg)
    simpa using this) (fun _ _=>dh _)
   exact⟨ps.flatten,by simp only[sw,hu];exact⟨ps,rfl,h1⟩,h2⟩
  ·cases hp
def mkA(P:Program)(t:TypeId)(xs:List C):A:=
 match ny P t with
 |some true=> .agg xs
 |_=>match xs with
  |[x]=> .c x
  |xs=> .agg xs
variable{t:TypeId}
theorem acn{v:Value}{d:DataW H}{ps:List MemPlace}{r:Reach}{b0:Nat}(hp:nJ P n t=true)(hv:Value.okWide P w r b0 t v)(h:DataW.Trod enc P w cF (fun _=>true) UB t v d ps):
 ∃xs,sw P n t xs/\(mkA P t xs).aE (AT w) w [] v:=by
 obtain⟨Ea,hf⟩:=h
 obtain⟨xs,h1,h2⟩:=rB n hp hf
 refine⟨xs,h1,?_⟩
 cases n with
 |zero=>simp[nJ] at hp
 |succ n=>
  simp only[nJ] at hp
  have agg:∀cs:Array Value,v= .agg cs->ny P t=some true->(mkA P t xs).aE (AT w) w [] v:=fun cs mv ha=>by
   subst mv
   simp only[mkA,ha,A.aE]
   exact⟨cs.toList,by simp,by simpa[Value.cells] using h2⟩
  have one:∀x,xs=[x]->ny P t≠some true->v.cells.toList=[v]->(mkA P t xs).aE (AT w) w [] v:=fun x hx ha hc=>by
   subst hx
   rw[hc] at h2
   unfold mkA
   split
   ·rename_i he;exact absurd he ha
   ·exact h2.1
  split at hp
  ·rename_i hu
   simp only[sw,hu] at h1
   obtain⟨b,rfl⟩:=h1
   simp only[Value.okWide,hu,Cell.okWide] at hv
   exact one _ rfl (by simp[ny,hu,TypeDesc.isRow]) (by cases v<;>simp_all[Cell.ok,Value.cells])
  ·rename_i k hu
   simp only[sw,hu] at h1
   obtain⟨b,rfl,_⟩:=h1
   simp only[Value.okWide,hu,Cell.okWide] at hv
   exact one _ rfl (by simp[ny,hu,TypeDesc.isRow]) (by cases v<;>simp_all[Cell.ok,Value.cells])
  ·rename_i hu
   simp only[sw,hu] at h1
   obtain⟨b,rfl,_⟩:=h1
   simp only[Value.okWide,hu,Cell.okWide] at hv
   exact one _ rfl (by simp[ny,hu,TypeDesc.isRow]) (by cases v<;>simp_all[Cell.ok,Value.cells])
  ·rename_i e hu
   simp only[sw,hu] at h1
   obtain⟨es,rfl,_⟩:=h1
   simp only[Value.okWide,hu,Cell.okWide] at hv
   exact one _ rfl (by simp[ny,hu,TypeDesc.isRow]) (by cases v<;>simp_all[Cell.ok,Value.cells])
  ·rename_i k e hu
   simp only[Value.okWide,hu] at hv
   obtain⟨cs,rfl,_⟩:=hv
   exact agg cs rfl (by simp[ny,hu,TypeDesc.isRow])
  ·rename_i fs hu
   simp only[Value.okWide,hu] at hv
   obtain⟨cs,rfl,_⟩:=hv
   exact agg cs rfl (by simp[ny,hu,TypeDesc.isRow])
  ·cases hp
def IN(P:Program):List TypeId->List (List C)->List A
 |t::ts,x::xs=>mkA P t x::IN P ts xs
 |_,_=>[]
theorem El(P:Program):∀(ts:List TypeId) (P3:List (List C)),kA (IN P ts P3)=true
 |[],_=>by simp[IN,kA]
 |_::_,[]=>by simp[IN,kA]
 |t::ts,x::xs=>by
  have ih:=El P ts xs
  simp only[IN,kA,pe,cY] at ih ⊢
  refine⟨?_,ih⟩
  unfold mkA
  split
  ·rename_i h;split at h<;>(try split at h)<;>simp at h
  ·rfl
theorem P4{n:Nat}{r:Reach}{b0:Nat}:∀{ts:List TypeId} {vs:List Value} {ds:List (DataW H)} {ps:List MemPlace},ts.all (fun t=>nJ P n t)=true->(∀(j:Nat) t v,ts[j]?=some t->vs[j]?=some v->Value.okWide P w r b0 t v)->DataW.TrodAll enc P w cF (fun _=>true) UB ts vs ds ps->
 ∃P3,bj (sw P n) ts P3/\bj (A.aE (AT w) w []) (IN P ts P3) vs
 |[],vs,ds,ps,_,_,h=>by
  obtain⟨rfl,_,_⟩:=trodAll_nil h
  exact⟨[],trivial,trivial⟩
 |t::ts,vs,ds,ps,hp,hv,h=>by
  obtain⟨v,jQ,d,ds',p,q,rfl,rfl,rfl,h1,h2⟩:=trodAll_cons h
  simp only[pe,cY] at hp
  obtain⟨xs,g1,g2⟩:=acn hp.1 (hv 0 t v rfl rfl) h1
  obtain⟨P3,g3,g4⟩:=P4 hp.2 (fun j t' v' ht Kq=>hv (j+1) t' v' (by simpa using ht) (by simpa using Kq)) h2
  exact⟨xs::P3,⟨g1,g3⟩,⟨g2,g4⟩⟩
theorem xt{W':World}{sp':Nat->Bool}(hl:laidOutB P=true):∀{ts:List TypeId} {vs:List Value} {ds:List (DataW H)} {ps:List MemPlace},(∀t∈ts,P.readableRec t=true/\t<P.types.size)->DataW.TrodAll enc P w cF (fun _=>true) true ts vs ds ps->(∀p∈ps,w.sameAt W' p)->(∀p∈ps,sp' p.block=true)->
 DataW.TrodAll enc P W' cF sp' true ts vs ds ps
 |[],vs,ds,ps,_,h,_,_=>by
  obtain⟨rfl,rfl,rfl⟩:=trodAll_nil h
  rfl
 |t::ts,vs,ds,ps,ht,h,hs,F8=>by
  obtain⟨v,jQ,d,ds',p,q,rfl,rfl,rfl,h1,h2⟩:=trodAll_cons h
  exact⟨p,q,WideElems.Trod_stays hl (ht t (by simp)).1 (ht t (by simp)).2 h1 (fun x hx=>hs x (by simp[hx])) (fun x hx=>F8 x (by simp[hx])),xt hl (fun t' YD=>ht t' (by simp[YD])) h2 (fun x hx=>hs x (by simp[hx])) (fun x hx=>F8 x (by simp[hx])),rfl⟩
end
variable{f:FuncId}
theorem IOq{H:Type}{enc:TypeId×Value->H}{s:ChangeSpec}(hE:pG E)(hP:E.P=P){tb:TypeId}(hl:laidOutB P=true)(hr:∀t∈fn.params.toList,P.readableRec t=true/\t<P.types.size)(hp:fn.params.toList.all (fun t=>nJ P n t)=true)(hv:s.vars=[])(hs:∀ds:List (DataW H),ds.length=fn.params.toList.length->s.fn H ds={results:=[.lit (.bool true)],args:=ds})(hrt:fn.resultTypes= #[tb])(hb:P.underlying tb=some .bool)(law:∀P3,bj (sw P n) fn.params.toList P3->E.F f (IN P fn.params.toList P3) []=some ([.c (.raw (.bool true))],[]))(W:World)(hgl:iy E.gl (AT W) W)(cF:Nat)(args:Array Value)(ds gs:List (DataW H))(NZ:List MemPlace)(aco:∀(j:Nat) t v,fn.params[j]?=some t->args[j]?=some v->Value.okWide P W .any cF t v)(hW:DataW.Whole enc P fn.params.toList s.vars false W args.toList ds gs NZ):
 Calls P f args W fun e W'=>∃v,e= .returned v/\s.post enc P fn false true false false W args v W':=by
 subst hP
 have hW':=hW
 obtain⟨p,q,hA,hV,rfl,_,_⟩:=hW
 rw[hv] at hV
 obtain⟨rfl,rfl⟩:=trodVars_none hV
 obtain⟨P3,hx,py⟩:=P4 (n:=n) (r:= .any) (b0:=cF) hp (fun j t v ht hv=>aco j t v (by simpa using ht) (by simpa using hv)) hA
 obtain⟨_,Iu⟩:=hE.call _ _ _ _ _ (law P3 hx)
 have xO:=Iu.plain (El _ _ _)
 have hm:=xO (AT W) W [] args.toList (fun b _ h=>h) hgl trivial (fun i j cs ds p q _ hi=>by simp at hi) py
 rw[Db] at hm
 refine hm.mono fun e W' zi=> ?_
 obtain⟨us,oI,rfl,qT,_,_,oh,_⟩:=zi
 have agC:Below W.heap.size W W':=(qT.mono (abG:=fun _ _=>False) (fun b o h=>tP h)).below
 cases us with
 |nil=>exact oh.elim
 |cons u us=>
  cases us with
  |cons _ _=>exact oh.2.elim
  |nil=>
   have hu:u= .bool true:=by
    have:=oh.1
    simp only[au.aE,C.aE] at this
    exact this.1
   subst hu
   have fO:=hW'.lt
   refine⟨.bool true,rfl,ds,[],p++[],[],p,[],hW',?_,?_,?_,agC.frame _,fun h=>by cases h⟩
   ·rw[dS,hs ds (by have:=Em hA;exact this)]
    rw[hrt]
    exact trodAll_mk1 (shut_bool hb true)
   ·rw[dS,hs ds (by have:=Em hA;exact this)]
    exact xt hl hr hA (fun x hx=>agC.same (fO x (by simp[hx]))) (fun x hx=>by simpa using fO x (by simp[hx]))
   ·rw[hv,dS,hs ds (by have:=Em hA;exact this)]
    rfl
where
 Em {H:Type} {enc:TypeId×Value->H} {P:Program} {w:World} {cF:Nat} {sp:Nat->Bool} {UB:Bool} {ts:List TypeId} {vs:List Value} {ds:List (DataW H)} {ps:List MemPlace} (h:DataW.TrodAll enc P w cF sp UB ts vs ds ps):ds.length=ts.length:=(trodAll_length h).2
open Go.RowKit
variable{t:TypeId}
theorem UC{xs:List C}(hu:P.underlying t=some .bool)(h:sw P (n+1) t xs):∃b,xs=[.raw (.bool b)]:=by simpa only[sw,hu] using h
theorem IR{xs:List C}{k:IntKind}(hu:P.underlying t=some (.int k))(h:sw P (n+1) t xs):∃i,xs=[.raw (.int k i)]/\(Lit.int k i).wf=true:=by simpa only[sw,hu] using h
theorem N0{xs:List C}(hu:P.underlying t=some .string)(h:sw P (n+1) t xs):∃s:ByteArray,xs=[.raw (.string s)]/\s.size<=maxLen:=by simpa only[sw,hu] using h
theorem G1{e:TypeId}{xs:List C}(hu:P.underlying t=some (.slice e))(h:sw P (n+1) t xs):∃es,xs=[.slice (P.cellsOf e) es]/\es.length<=maxLen/\∀x∈es,sw P n e x:=by simpa only[sw,hu] using h
theorem N1{xs:List C}{fs:Array Field}(hu:P.underlying t=some (.struct fs))(h:sw P (n+1) t xs):∃ps:List (List C),xs=ps.flatten/\bj (fun g x=>sw P n g.type x) fs.toList ps:=by simpa only[sw,hu] using h
theorem En{α:Type}{R:List C->Prop}{f:α->List C}{Q:α->Prop}(hR:∀x,R x->∃a,x=f a/\Q a):∀{es:List (List C)},(∀x∈es,R x)->∃l:List α,es=l.map f/\∀a∈l,Q a
 |[],_=>⟨[],rfl,by simp⟩
 |e::es,h=>by
  obtain⟨a,rfl,ha⟩:=hR e (h e (by simp))
  obtain⟨l,rfl,hl⟩:=En (es:=es) hR (fun x hx=>h x (by simp[hx]))
  exact⟨a::l,rfl,by simpa using⟨ha,hl⟩⟩
theorem K9{R:α->β->Prop}{bs:List β}(h:bj R [] bs):bs=[]:=by
 cases bs with
 |nil=>rfl
 |cons _ _=>exact h.elim
theorem lY{R:α->β->Prop}{a:α}{as:List α}{bs:List β}(h:bj R (a::as) bs):∃b bs',bs=b::bs'/\R a b/\bj R as bs':=by
 cases bs with
 |nil=>exact h.elim
 |cons b bs'=>exact⟨b,bs',rfl,h.1,h.2⟩
open Go.RowKit
theorem YN(h:Array Obj)(o:Obj)(n:Nat)(hn:n=h.size):(h.push o)[n]?=some o:=by subst hn;simp
theorem K_{e:TypeId}{i:TypeInfo}{z:Value}(hu:P.underlying t=some (.slice e))(hi:P.info? e=some i)(hz:i.zero=some z)(hzs:z.cells.size=i.size)(_hpos:0<i.size)(hby:i.bytes<=131072)(YE:∀(n cap:Nat) (w:World),Calls P f #[.slice none n cap] w fun e w'=>e= .returned (.slice none 0 0)/\w'=w)(Gy:∀(a:Addr) (n cap:Nat) (w:World) (v':Value) (w':World),(∀ty,(Builtin.append_ #[t,t] ty #[.slice (some ⟨w.heap.size,0,none⟩) 0 0, .slice (some a) n cap]).run P (w.alloc (.cells #[] e))= .ok v' w')->
 Calls P f #[.slice (some a) n cap] w fun e w2=>e= .returned v'/\w2=w') {sz:Nat} {es:List (List C)} (o9:sz=i.size\/es=[]) (dK:es.length<=1000000):Bp P gl f [.c (.slice sz es)] [] [.top i.size es] []:=by
 intro Fr w gK vs hf hgl him Kd DW
 obtain⟨v,rfl,hr⟩:∃v,vs=[v]/\(C.slice sz es).aE Fr w v:=by
  match vs,DW with
  |[v],h=>exact⟨v,rfl,h.1⟩
  |[],h=>exact h.elim
  |_::_::_,h=>exact h.2.elim
 have hl:gK=[]:=by
  cases gK with
  |nil=>rfl
  |cons _ _=>exact him.elim
 subst hl
 have Ee:=hr
 simp only[C.aE] at Ee
 obtain⟨a,len,cap,rfl,rZ,oS,F2⟩:=Ee
 have afQ:=rZ
 cases a with
 |none=>
  have h0:es=[]:=by
   rcases F2 with⟨h,_⟩|⟨_,_,h,_⟩
   ·exact rN (by omega)
   ·cases h
  subst h0
  refine(YE len cap w).mono ?_
  rintro e w' ⟨rfl,rfl⟩
  refine⟨[.slice none 0 0],Fr,rfl,bX.j8 (Below.refl _ _),fun b o h=>h,fun b o h=> .inl h,⟨?_,trivial⟩,⟨fun j sz es u h=>by simp at h,trivial⟩,trivial,rfl⟩
  simp only[au.aE,C.aE]
  exact⟨⟨none,0,0,rfl,rfl,aL _, .inl ⟨rfl,rfl⟩⟩,none,0,rfl,aL _, .inl rfl⟩
 |some ad=>
  have TL:Below w.heap.size w (w.alloc (.cells #[] e)):=(Below.refl _ w).alloc (aL _) _
  have acp:Ev Fr Fr w (w.alloc (.cells #[] e)):=(bX.j8 TL:bX (fun _ _=>False) w _).ev (fun _ _ h=>h) (fun _ _ _ h=>h)
  have sr:=C.aE.mono acp _ _ hr
  obtain⟨hn,_,IS,_⟩:=mR (P:=P) sr o9
  obtain⟨news,pH,qS⟩:=wq hu sr o9
  have PK:=pH.length
  rw[jJ IS] at PK
  by_cases h0:len=0
  ·have he:es=[]:=rN (by omega)
   subst he
   subst h0
   have XZ:news=[]:=rN (by rw[<-PK];simp)
   subst XZ
   refine(Gy ad 0 cap w _ _ (fun ty=>run_append_nothing _ t t ty e i hu hi (some ⟨w.heap.size,0,none⟩) 0 0 (aL _) _ qS)).mono ?_
   rintro e' w' ⟨rfl,rfl⟩
   refine⟨[.slice (some ⟨w.heap.size,0,none⟩) 0 0],Fr,rfl,bX.j8 TL,fun b o h=>h,fun b o h=> .inl h,⟨?_,trivial⟩,⟨fun j sz es u h=>by simp at h,trivial⟩,trivial,rfl⟩
   simp only[au.aE,C.aE]
   exact⟨⟨_,0,0,rfl,rfl,aL _, .inl ⟨rfl,rfl⟩⟩,_,0,rfl,aL _, .inl rfl⟩
  ·have hG:=grownCap_le (w.alloc (.cells #[] e)) (0+len) 0 e
   have acq:(Builtin.firstCells i.size 0 (.slice (some ⟨w.heap.size,0,none⟩) 0 0)).run P (w.alloc (.cells #[] e)).drew= .ok ([]:List Value).toArray (w.alloc (.cells #[] e)).drew:=
    run_firstCells_some _ i.size 0 _ 0 0 [] (by simp) (fun j u hj=>by simp at hj)
   have Nz:Builtin.nextslicecap (0+len) 0*i.bytes<=281474976710656:=growslice_fits (by omega) (by
    calc(0+len)*i.bytes<=1000000*131072:=yG (by omega) hby
     _<=140737488355328:=by decide)
   refine(Gy ad len cap w _ _ (fun ty=>run_append_grow_src _ t t ty e i z hu hi hz (some ⟨w.heap.size,0,none⟩) 0 0 [] acq _ len news qS (by omega) (by omega) Nz)).mono ?_
   rintro e' w' ⟨rfl,rfl⟩
   have Is:Below w.heap.size w ((w.alloc (.cells #[] e)).drew.alloc (.cells (([]++news).toArray++Builtin.zeroCells z.cells (grownCap (w.alloc (.cells #[] e)) (0+len) 0 e-(0+len))) e)):=
    ((TL.drew).alloc (by simp) _)
   have GK:(w.alloc (.cells #[] e)).heap.size=w.heap.size+1:=by simp
   have akR:Ev (fun b o=>Fr b o) (fun b o=>Fr b o\/(b=w.heap.size+1/\o<es.length*i.size)) (w.alloc (.cells #[] e)) ((w.alloc (.cells #[] e)).drew.alloc (.cells (([]++news).toArray++Builtin.zeroCells z.cells (grownCap (w.alloc (.cells #[] e)) (0+len) 0 e-(0+len))) e)):=by
    have hb3:Below (w.alloc (.cells #[] e)).heap.size (w.alloc (.cells #[] e)) ((w.alloc (.cells #[] e)).drew.alloc (.cells (([]++news).toArray++Builtin.zeroCells z.cells (grownCap (w.alloc (.cells #[] e)) (0+len) 0 e-(0+len))) e)):=
     ((Below.refl (w.alloc (.cells #[] e)).heap.size (w.alloc (.cells #[] e))).drew).alloc (by simp) _
    exact(bX.j8 hb3:bX (fun _ _=>False) _ _).ev (fun _ _ h=> .inl h) (fun _ _ _ h=>h)
   refine⟨[.slice (some ⟨(w.alloc (.cells #[] e)).heap.size,0,none⟩) (0+len) (grownCap (w.alloc (.cells #[] e)) (0+len) 0 e)],fun b o=>Fr b o\/(b=w.heap.size+1/\o<es.length*i.size),rfl,bX.j8 Is,fun b o h=> .inl h,?_,⟨?_,trivial⟩,⟨fun j sz es u h=>by simp at h,trivial⟩,trivial,rfl⟩
   ·rintro b o (h|⟨rfl,_⟩)
    ·exact .inl h
    ·exact .inr ⟨by omega,by simp⟩
   ·simp only[au.aE,C.aE]
    have N2:∀(o:Nat),((w.alloc (.cells #[] e)).drew.alloc (.cells (([]++news).toArray++Builtin.zeroCells z.cells (grownCap (w.alloc (.cells #[] e)) (0+len) 0 e-(0+len))) e)).cell? ⟨w.heap.size+1,0+o,none⟩=(([]++news).toArray++Builtin.zeroCells z.cells (grownCap (w.alloc (.cells #[] e)) (0+len) 0 e-(0+len)))[0+o]?:=fun o=>by
     have:=World.cell?_alloc_new (w.alloc (.cells #[] e)).drew (([]++news).toArray++Builtin.zeroCells z.cells (grownCap (w.alloc (.cells #[] e)) (0+len) 0 e-(0+len))) e (0+o)
     simp only[World.size_drew,GK] at this
     exact this
    refine⟨⟨_,_,_,rfl,by omega,hG, .inr ⟨w.heap.size+1,0,by simp[GK],?_⟩⟩,some ⟨(w.alloc (.cells #[] e)).heap.size,0,none⟩,grownCap (w.alloc (.cells #[] e)) (0+len) 0 e,by rw[<-rZ,gt],by omega, .inr ⟨w.heap.size+1,by simp[GK],by omega,⟨_,e,YN (w.alloc (.cells #[] e)).drew.heap _ _ (by simp),?_⟩,?_⟩⟩
    ·refine KF akR pH IS (fun o ho=> .inr ⟨rfl,ho⟩) (fun q v hq=> ?_)
     have GM:q<news.length:=(List.getElem?_eq_some_iff.1 hq).1
     rw[N2 q,gt,Gu (by simpa using GM)]
     simpa using hq
    ·rw[Array.size_append,vg,hzs]
     have e1:([]++news).toArray.size=(0+len)*i.size:=by simp only[jf,lg,gt];rw[<-PK,rZ]
     rw[e1,<-yE]
     refine yI _ ?_
     omega
    ·rintro o ho (h|⟨_,h⟩)
     ·have:=hf _ _ h
      omega
     ·omega
theorem AU{e:TypeId}{i:TypeInfo}{z:Value}(hu:P.underlying t=some (.slice e))(hi:P.info? e=some i)(hz:i.zero=some z)(hby:i.bytes<=131072)(Gy:∀(a:Addr) (n cap:Nat) (w:World) (v':Value) (w':World),(∀ty,(Builtin.append_ #[t,t] ty #[.slice (some ⟨w.heap.size,0,none⟩) 0 0, .slice (some a) n cap]).run P (w.alloc (.cells #[] e))= .ok v' w')->
 Calls P f #[.slice (some a) n cap] w fun e w2=>e= .returned v'/\w2=w'):va P f i.size:=by
 intro Fr w v es hr F6 xj
 have Ee:=hr
 simp only[C.aE] at Ee
 obtain⟨a,len,cap,rfl,rZ,oS,F2⟩:=Ee
 have afQ:=rZ
 have acr:=Gy
 obtain⟨ad,rfl⟩:∃ad,a=some ad:=by
  rcases F2 with⟨h,_⟩|⟨b,o,h,_⟩
  ·omega
  ·exact⟨_,h⟩
 have TL:Below w.heap.size w (w.alloc (.cells #[] e)):=(Below.refl _ w).alloc (aL _) _
 have acp:Ev Fr Fr w (w.alloc (.cells #[] e)):=Ev.j8 TL (fun _ _ h=>h)
 have sr:=C.aE.mono acp _ _ hr
 obtain⟨hn,_,IS,_⟩:=mR (P:=P) sr (.inl rfl)
 obtain⟨vx,Iv,qS⟩:=wq hu sr (.inl rfl)
 have PK:=Iv.length
 rw[jJ IS] at PK
 have hm9:es.length<=1073741824:=xj
 have hG:=grownCap_le (w.alloc (.cells #[] e)) (0+len) 0 e
 have acq:(Builtin.firstCells i.size 0 (.slice (some ⟨w.heap.size,0,none⟩) 0 0)).run P (w.alloc (.cells #[] e)).drew= .ok ([]:List Value).toArray (w.alloc (.cells #[] e)).drew:=
  run_firstCells_some _ i.size 0 _ 0 0 [] (by simp) (fun j u hj=>by simp at hj)
 have Nz:Builtin.nextslicecap (0+len) 0*i.bytes<=281474976710656:=growslice_fits (by omega) (by
  calc(0+len)*i.bytes<=1073741824*131072:=yG (by rw[gt,rZ];exact xj) hby
   _<=140737488355328:=by decide)
 refine(acr ad len cap w _ _ (fun ty=>run_append_grow_src _ t t ty e i z hu hi hz (some ⟨w.heap.size,0,none⟩) 0 0 [] acq _ len vx qS (by omega) (by omega) Nz)).mono ?_
 rintro e' w' ⟨rfl,rfl⟩
 have GK:(w.alloc (.cells #[] e)).heap.size=w.heap.size+1:=by simp
 have N2:∀(o:Nat),((w.alloc (.cells #[] e)).drew.alloc (.cells (([]++vx).toArray++Builtin.zeroCells z.cells (grownCap (w.alloc (.cells #[] e)) (0+len) 0 e-(0+len))) e)).cell? ⟨(w.alloc (.cells #[] e)).heap.size,0+o,none⟩=(([]++vx).toArray++Builtin.zeroCells z.cells (grownCap (w.alloc (.cells #[] e)) (0+len) 0 e-(0+len)))[0+o]?:=fun o=>by
  have:=World.cell?_alloc_new (w.alloc (.cells #[] e)).drew (([]++vx).toArray++Builtin.zeroCells z.cells (grownCap (w.alloc (.cells #[] e)) (0+len) 0 e-(0+len))) e (0+o)
  simp only[World.size_drew] at this
  exact this
 have BA:∀(q:Nat),q<vx.length->((w.alloc (.cells #[] e)).drew.alloc (.cells (([]++vx).toArray++Builtin.zeroCells z.cells (grownCap (w.alloc (.cells #[] e)) (0+len) 0 e-(0+len))) e)).cell? ⟨(w.alloc (.cells #[] e)).heap.size,0+q,none⟩=vx[q]?:=fun q hq=>by
  rw[N2 q,gt,Gu (by simpa using hq)]
  simp
 refine⟨w.alloc (.cells #[] e),grownCap (w.alloc (.cells #[] e)) (0+len) 0 e,vx,by rw[gt,rZ],by rw[<-rZ];omega,TL,?_,Iv,fun q v hq=> ?_,fun q hq=> ?_,by simp⟩
 ·exact((Below.refl _ (w.alloc (.cells #[] e))).drew).alloc (aL _) _
 ·have GM:q<vx.length:=(List.getElem?_eq_some_iff.1 hq).1
  rw[BA q GM];exact hq
 ·refine⟨by rw[BA q hq,cm hq];rfl,?_⟩
  have KG:((w.alloc (.cells #[] e)).drew.alloc (.cells (([]++vx).toArray++Builtin.zeroCells z.cells (grownCap (w.alloc (.cells #[] e)) (0+len) 0 e-(0+len))) e)).heap[(w.alloc (.cells #[] e)).heap.size]?=some (.cells (([]++vx).toArray++Builtin.zeroCells z.cells (grownCap (w.alloc (.cells #[] e)) (0+len) 0 e-(0+len))) e):=by
   show((w.alloc (.cells #[] e)).heap.push _)[(w.alloc (.cells #[] e)).heap.size]?=_
   exact Array.getElem?_push_size
  simp only[World.frozen?,KG]
  simp
end Go.Dm
