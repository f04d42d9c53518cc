/-
  A part of the proofs over this seat: a machine over data (the file in which the theorems stand says what is proved).
-/
import Derived.Below
import Derived.ChangeKeysEq
import Derived.Deep.AppendSrc
import Derived.Deep.MidRow
import Derived.Deep.Upon
import Derived.Laws.BytesString
import Derived.Laws.Cells
import Derived.Laws.StructEq
import Derived.MapKept
import Derived.Orders
set_option maxRecDepth 100000
set_option maxHeartbeats 0
set_option linter.unusedSimpArgs false
set_option linter.unusedVariables false
namespace Go.Dm
open Go.RowKit
abbrev Kj:= @Array.ext'
abbrev Py:= @Array.getD_eq_getD_getElem?
abbrev Gu:= @Array.getElem?_append_left
abbrev Pz:= @Array.getElem?_eq_getElem
abbrev uO:= @Array.getElem?_eq_none
abbrev TU:= @Array.getElem?_modify
abbrev Da:= @Array.length_toList
abbrev uP:= @Array.replicate_succ
abbrev uQ:= @Array.replicate_zero
abbrev Db:= @Array.toArray_toList
abbrev ql:= @BitVec.eq_of_getLsbD_eq
abbrev qm:= @BitVec.getLsbD_and
abbrev tt:= @BitVec.getLsbD_not
abbrev MZ:= @BitVec.getLsbD_of_ge
abbrev nh:= @BitVec.getLsbD_or
abbrev xw:= @BitVec.getLsbD_twoPow
abbrev xx:= @BitVec.getLsbD_zero
abbrev M0:= @Bool.and_eq_false_iff
abbrev cY:= @Bool.and_eq_true
abbrev Dc:= @Bool.and_false
abbrev HR:= @Bool.and_self
abbrev mp:= @Bool.eq_false_or_eq_true
abbrev xy:= @Bool.eq_iff_iff
abbrev rL:= @Bool.false_and
abbrev ft:= @Bool.false_eq_true
abbrev rM:= @Bool.false_or
abbrev ni:= @Bool.not_eq_false'
abbrev xz:= @Bool.not_eq_true'
abbrev pa:= @Bool.not_false
abbrev lF:= @Bool.not_not
abbrev fS:= @Bool.not_true
abbrev eh:= @Bool.or_eq_false_iff
abbrev As:= @Bool.or_eq_true
abbrev i6:= @Bool.true_and
abbrev qn:= @ByteArray.append_assoc
abbrev Dd:= @ByteArray.append_empty
abbrev M2:= @ByteArray.data_append
abbrev De:= @ByteArray.ext
abbrev mQ:= @ByteArray.size_append
abbrev uR:= @ByteArray.size_extract
abbrev eN:= @Eq.refl
abbrev nj:= @Int.le_refl
abbrev Df:= @Int.le_trans
abbrev HS:= @Int.natCast_nonneg
abbrev Dg:= @Int.pow_succ
abbrev HT:= @Int.tdiv_eq_ediv_of_nonneg
abbrev HU:= @Int.tmod_eq_emod_of_nonneg
abbrev At:= @Int.toNat_natCast
abbrev Dh:= @Int.toNat_of_nonneg
abbrev pe:= @List.all_cons
abbrev lG:= @List.all_eq_true
abbrev pf:= @List.any_eq_false
abbrev kF:= @List.append_assoc
abbrev dS:= @List.append_nil
abbrev qo:= @List.append_toArray
abbrev nk:= @List.cons_append
abbrev M3:= @List.contains_eq_mem
abbrev xA:= @List.count_cons
abbrev M4:= @List.count_singleton
abbrev M5:= @List.drop_eq_getElem_cons
abbrev HV:= @List.drop_eq_nil_of_le
abbrev Di:= @List.drop_zero
abbrev rN:= @List.eq_nil_of_length_eq_zero
abbrev HW:= @List.eq_of_mem_replicate
abbrev Dj:= @List.ext_getElem
abbrev HX:= @List.extract_eq_take_drop
abbrev HY:= @List.filter_append
abbrev HZ:= @List.filter_cons
abbrev xB:= @List.find?_eq_none
abbrev H2:= @List.findIdx_getElem
abbrev pg:= @List.flatMap_cons
abbrev tu:= @List.flatten_cons
abbrev rP:= @List.foldl_append
abbrev jp:= @List.foldl_cons
abbrev Dl:= @List.foldl_nil
abbrev eX:= @List.getD_eq_getElem?_getD
abbrev mq:= @List.getElem?_append_left
abbrev tw:= @List.getElem?_append_right
abbrev Au:= @List.getElem?_drop
abbrev cm:= @List.getElem?_eq_getElem
abbrev jR:= @List.getElem?_eq_none
abbrev M6:= @List.getElem?_eq_none_iff
abbrev nm:= @List.getElem?_map
abbrev H3:= @List.getElem?_range
abbrev rQ:= @List.getElem?_take
abbrev H4:= @List.getElem?_zip_eq_some
abbrev Dn:= @List.getElem_mem
abbrev Do:= @List.getElem_of_mem
abbrev M7:= @List.getElem_range
abbrev iq:= @List.length_append
abbrev cV:= @List.length_cons
abbrev rR:= @List.length_drop
abbrev jq:= @List.length_map
abbrev eO:= @List.length_nil
abbrev iM:= @List.length_range
abbrev tz:= @List.length_set
abbrev M8:= @List.length_singleton
abbrev kG:= @List.length_take
abbrev uS:= @List.length_zip
abbrev fv:= @List.mapM_cons
abbrev fA:= @List.map_append
abbrev tA:= @List.map_congr_left
abbrev eY:= @List.map_cons
abbrev gp:= @List.map_nil
abbrev df:= @List.mem_append
abbrev cM:= @List.mem_cons
abbrev ch:= @List.mem_cons_of_mem
abbrev gQ:= @List.mem_cons_self
abbrev tB:= @List.mem_map
abbrev mM:= @List.mem_nil_iff
abbrev H5:= @List.mem_of_find?_eq_some
abbrev jD:= @List.mem_of_getElem?
abbrev H6:= @List.mem_or_eq_of_mem_set
abbrev tC:= @List.mem_range
abbrev nr:= @List.mem_singleton
abbrev jf:= @List.nil_append
abbrev H7:= @List.not_of_lt_findIdx
abbrev nu:= @List.push_toArray
abbrev qW:= @List.range_succ
abbrev PA:= @List.set_eq_take_append_cons_drop
abbrev lg:= @List.size_toArray
abbrev H8:= @List.take_append_drop
abbrev qX:= @List.take_length
abbrev Cn:= @Nat.add_assoc
abbrev mN:= @Nat.add_le_add_left
abbrev Co:= @Nat.add_le_add_right
abbrev yE:= @Nat.add_mul
abbrev qY:= @Nat.add_zero
abbrev pL:= @Nat.le_add_right
abbrev qZ:= @Nat.le_of_eq
abbrev aL:= @Nat.le_refl
abbrev wc:= @Nat.le_succ
abbrev aZ:= @Nat.le_trans
abbrev pM:= @Nat.lt_of_le_of_lt
abbrev lT:= @Nat.lt_of_lt_of_le
abbrev gq:= @Nat.lt_or_ge
abbrev yF:= @Nat.mod_eq_of_lt
abbrev yG:= @Nat.mul_le_mul
abbrev yI:= @Nat.mul_le_mul_right
abbrev Cr:= @Nat.succ_le_succ
abbrev lU:= @Nat.succ_mul
abbrev gt:= @Nat.zero_add
abbrev dh:= @Nat.zero_le
abbrev f_:= @Ne.symm
abbrev j4:= @Option.bind_eq_bind
abbrev ig:= @Option.bind_eq_some_iff
abbrev q9:= @Option.bind_some
abbrev q_:= @Option.getD_some
abbrev oG:= @Option.isSome_none
abbrev H9:= @Option.isSome_some
abbrev H_:= @Option.map_eq_none_iff
abbrev aV:= @Option.map_eq_some_iff
abbrev Cs:= @Option.map_none
abbrev dw:= @Option.map_some
abbrev j5:= @Option.pure_def
abbrev av:= @Option.some.injEq
abbrev af:= @Or.inl
abbrev ab:= @Or.inr
abbrev aY:= @Prod.mk.injEq
abbrev rd:= @and_false
abbrev rg:= @beq_eq_false_iff_ne
abbrev jE:= @beq_false_of_ne
abbrev jF:= @beq_iff_eq
abbrev pO:= @beq_self_eq_true
abbrev aJ:= @cond_false
abbrev bA:= @cond_true
abbrev cu:= @congrArg
abbrev fN:= @decide_eq_false
abbrev H':= @decide_eq_false_iff_not
abbrev cJ:= @decide_eq_true
abbrev ij:= @decide_eq_true_eq
abbrev oH:= @decide_true
abbrev br:= @if_false
abbrev aR:= @if_neg
abbrev aP:= @if_pos
abbrev bu:= @if_true
abbrev wd:= @of_decide_eq_false
abbrev jG:= @of_decide_eq_true
abbrev lV:= @or_false
inductive C where
 |raw (v:Value)
 |slice (sz:Nat) (es:List (List C))
 |fn (f:FuncId) (dA:List C)
 |fJ (cells:List C)
 |map (es:List (Value×Value))
 deriving Inhabited
inductive Tk where
 |exact
 |tok (i:Nat)
 deriving Inhabited
inductive V where
 |c (x:C)
 |cX (sz:Nat) (es:List (List C)) (t:Tk)
 |fX (id off:Nat)
 |sC (id off sz n:Nat)
 |PB (f:FuncId) (dA:List (C ⊕ (Nat×Nat)))
 |ifp (t:TypeId) (id off:Nat)
 deriving Inhabited
inductive K where
 |v (x:V)
 |agg (xs:List V)
 deriving Inhabited
inductive T where
 |k (x:K)
 |Kk (ks:List K)
 |bf
 |skip
 deriving Inhabited
def bj{α β:Type}(R:α->β->Prop):List α->List β->Prop
 |[],[]=>True
 |a::as,b::bs=>R a b/\bj R as bs
 |_,_=>False
variable{α β:Type}
theorem bj.length{R:α->β->Prop}:∀{as:List α} {bs:List β},bj R as bs->as.length=bs.length
 |[],[],_=>rfl
 |_::_,_::_,h=>by simp[bj.length h.2]
 |[],_::_,h=>h.elim
 |_::_,[],h=>h.elim
theorem bj.mono{R R':α->β->Prop}(hr:∀a b,R a b->R' a b):∀{as:List α} {bs:List β},bj R as bs->bj R' as bs
 |[],[],_=>trivial
 |_::_,_::_,h=>⟨hr _ _ h.1,bj.mono hr h.2⟩
 |[],_::_,h=>h.elim
 |_::_,[],h=>h.elim
theorem bj.get{R:α->β->Prop}:∀{as:List α} {bs:List β},bj R as bs->∀(i:Nat) (a:α),as[i]?=some a->∃b,bs[i]?=some b/\R a b
 |_::_,b::_,h,0,a,ha=>by simp at ha;subst ha;exact⟨b,rfl,h.1⟩
 |_::_,_::_,h,i+1,a,ha=>by simp at ha ⊢;exact bj.get h.2 i a ha
 |[],[],_,i,a,ha=>by simp at ha
 |[],_::_,h,_,_,_=>h.elim
 |_::_,[],h,_,_,_=>h.elim
theorem bj.append{R:α->β->Prop}:∀{as:List α} {bs:List β} {uH:List α} {bs':List β},bj R as bs->bj R uH bs'->bj R (as++uH) (bs++bs')
 |[],[],_,_,_,h'=>h'
 |_::_,_::_,_,_,h,h'=>⟨h.1,bj.append h.2 h'⟩
 |[],_::_,_,_,h,_=>h.elim
 |_::_,[],_,_,h,_=>h.elim
theorem bj.take{R:α->β->Prop}:∀{as:List α} {bs:List β} (n:Nat),bj R as bs->bj R (as.take n) (bs.take n)
 |_,_,0,_=>by simp[bj]
 |[],[],_+1,h=>h
 |_::_,_::_,n+1,h=>⟨h.1,bj.take n h.2⟩
 |[],_::_,_+1,h=>h.elim
 |_::_,[],_+1,h=>h.elim
theorem bj.drop{R:α->β->Prop}:∀{as:List α} {bs:List β} (n:Nat),bj R as bs->bj R (as.drop n) (bs.drop n)
 |_,_,0,h=>by simpa using h
 |[],[],_+1,h=>h
 |_::_,_::_,n+1,h=>bj.drop n h.2
 |[],_::_,_+1,h=>h.elim
 |_::_,[],_+1,h=>h.elim
theorem bj.Kl{α':Type}{R:α'->β->Prop}(f:α->α'):∀{as:List α} {bs:List β},bj (fun a b=>R (f a) b) as bs->bj R (as.map f) bs
 |[],[],_=>trivial
 |_::_,_::_,h=>⟨h.1,bj.Kl f h.2⟩
 |[],_::_,h=>h.elim
 |_::_,[],h=>h.elim
mutual
def C.aE(Fr:Nat->Nat->Prop)(w:World):C->Value->Prop
 | .raw x,v=>v=x/\x.oneCell'=true
 | .slice sz es,v=>∃a len cap,v= .slice a len cap/\len=es.length/\len<=cap/\
     ((len=0/\cap=0)\/∃b o,a=some ⟨b,o,none⟩/\dF Fr w sz b es o)
 | .fn f dA,v=>∃vs:List Value,v= .func (.func f) #[] vs.toArray/\li Fr w dA vs
 | .fJ cells,v=>∃b o,v= .pointer (some ⟨b,o,none⟩)/\dp Fr w b cells o
 | .map es,v=>∃b Av Gv,v= .map (some b)/\Fr b 0/\w.heap[b]?=some (.map Av Gv)/\Av.toList.map (fun e=>(e.key,e.val))=es
def dp(Fr:Nat->Nat->Prop)(w:World)(b:Nat):List C->Nat->Prop
 |[],_=>True
 |c::cs,o=>(Fr b o/\∃v,w.cell? ⟨b,o,none⟩=some v/\C.aE Fr w c v)/\dp Fr w b cs (o+1)
def dF(Fr:Nat->Nat->Prop)(w:World)(sz b:Nat):List (List C)->Nat->Prop
 |[],_=>True
 |e::es,o=>e.length=sz/\dp Fr w b e o/\dF Fr w sz b es (o+sz)
def li(Fr:Nat->Nat->Prop)(w:World):List C->List Value->Prop
 |[],vs=>vs=[]
 |c::cs,vs=>∃v r,vs=v::r/\C.aE Fr w c v/\li Fr w cs r
end
structure Ev(Fr oI:Nat->Nat->Prop)(w w':World):Prop where
 fr:∀b o,Fr b o->oI b o
 cell:∀b o v,Fr b o->w.cell? ⟨b,o,none⟩=some v->w'.cell? ⟨b,o,none⟩=some v
 obj:∀b es c,Fr b 0->w.heap[b]?=some (.map es c)->w'.heap[b]?=some (.map es c)
theorem Ev.refl(Fr:Nat->Nat->Prop)(w:World):Ev Fr Fr w w:=⟨fun _ _ h=>h,fun _ _ _ _ h=>h,fun _ _ _ _ h=>h⟩
variable{Fr oI:Nat->Nat->Prop}{w w':World}
theorem Ev.trans{afn:Nat->Nat->Prop}{w'':World}(h:Ev Fr oI w w')(k:Ev oI afn w' w''):Ev Fr afn w w'':=
 ⟨fun b o x=>k.fr b o (h.fr b o x),fun b o v x y=>k.cell b o v (h.fr b o x) (h.cell b o v x y),fun b es c x y=>k.obj b es c (h.fr b 0 x) (h.obj b es c x y)⟩
mutual
theorem C.aE.mono{Fr oI:Nat->Nat->Prop}{w w':World}(he:Ev Fr oI w w'):(x:C)->(v:Value)->x.aE Fr w v->x.aE oI w' v
 | .raw _,_,h=>h
 | .slice sz es,v,h=>by
   simp only[C.aE] at h ⊢
   obtain⟨a,len,cap,h1,h2,h3,h4⟩:=h
   refine⟨a,len,cap,h1,h2,h3,?_⟩
   rcases h4 with h4|⟨b,o,h4,h5⟩
   ·exact .inl h4
   ·exact .inr ⟨b,o,h4,dF.mono he sz b es o h5⟩
 | .fn f dA,v,h=>by
   simp only[C.aE] at h ⊢
   obtain⟨vs,h1,h2⟩:=h
   exact⟨vs,h1,li.mono he dA vs h2⟩
 | .fJ cells,v,h=>by
   simp only[C.aE] at h ⊢
   obtain⟨b,o,h1,h2⟩:=h
   exact⟨b,o,h1,dp.mono he b cells o h2⟩
 | .map es,v,h=>by
   simp only[C.aE] at h ⊢
   obtain⟨b,Av,Gv,h1,h2,h3,h4⟩:=h
   exact⟨b,Av,Gv,h1,he.fr _ _ h2,he.obj _ _ _ h2 h3,h4⟩
theorem dp.mono{Fr oI:Nat->Nat->Prop}{w w':World}(he:Ev Fr oI w w')(b:Nat):(cs:List C)->(o:Nat)->dp Fr w b cs o->dp oI w' b cs o
 |[],_,_=>by simp only[dp]
 |c::cs,o,h=>by
  simp only[dp] at h ⊢
  obtain⟨⟨h1,v,h2,h3⟩,h4⟩:=h
  exact⟨⟨he.fr _ _ h1,v,he.cell _ _ _ h1 h2,C.aE.mono he c v h3⟩,dp.mono he b cs (o+1) h4⟩
theorem dF.mono{Fr oI:Nat->Nat->Prop}{w w':World}(he:Ev Fr oI w w')(sz b:Nat):(es:List (List C))->(o:Nat)->dF Fr w sz b es o->dF oI w' sz b es o
 |[],_,_=>by simp only[dF]
 |e::es,o,h=>by
  simp only[dF] at h ⊢
  exact⟨h.1,dp.mono he b e o h.2.1,dF.mono he sz b es (o+sz) h.2.2⟩
theorem li.mono{Fr oI:Nat->Nat->Prop}{w w':World}(he:Ev Fr oI w w'):(cs:List C)->(vs:List Value)->li Fr w cs vs->li oI w' cs vs
 |[],_,h=>by simpa only[li] using h
 |c::cs,vs,h=>by
  simp only[li] at h ⊢
  obtain⟨v,r,h1,h2,h3⟩:=h
  exact⟨v,r,h1,C.aE.mono he c v h2,li.mono he cs r h3⟩
end
variable{v:Value}
theorem C.we{x:C}(h:x.aE Fr w v):v.oneCell'=true:=by
 cases x<;>simp only[C.aE] at h
 case raw x=>rw[h.1];exact h.2
 case slice sz es=>obtain⟨_,_,_,rfl,_⟩:=h;rfl
 case fn f dA=>obtain⟨_,rfl,_⟩:=h;rfl
 case fJ cells=>obtain⟨_,_,rfl,_⟩:=h;rfl
 case map es=>obtain⟨_,_,_,rfl,_⟩:=h;rfl
theorem jH{Fr:Nat->Nat->Prop}{w:World}{b:Nat}:∀{cs:List C} {o:Nat},dp Fr w b cs o->∀(i:Nat) (c:C),cs[i]?=some c->
 Fr b (o+i)/\∃v,w.cell? ⟨b,o+i,none⟩=some v/\c.aE Fr w v
 |[],_,_,i,c,hi=>by simp at hi
 |x::cs,o,h,0,c,hi=>by simp at hi;subst hi;simp only[dp] at h;exact h.1
 |x::cs,o,h,i+1,c,hi=>by
  simp at hi;simp only[dp] at h
  have:=jH h.2 i c hi
  rwa[show o+1+i=o+(i+1) by omega] at this
theorem lH{Fr:Nat->Nat->Prop}{w:World}{b:Nat}:∀{cs:List C} {o:Nat},(∀(i:Nat) (c:C),cs[i]?=some c->
 Fr b (o+i)/\∃v,w.cell? ⟨b,o+i,none⟩=some v/\c.aE Fr w v)->dp Fr w b cs o
 |[],_,_=>by simp only[dp]
 |x::cs,o,h=>by
  simp only[dp]
  refine⟨h 0 x rfl,lH fun i c hi=> ?_⟩
  have:=h (i+1) c (by simpa using hi)
  rwa[show o+(i+1)=o+1+i by omega] at this
variable{b o:Nat}{cs:List C}
theorem pP(h:dp Fr w b cs o)(n:Nat):dp Fr w b (cs.drop n) (o+n):=
 lH fun i c hi=>by
  rw[Au] at hi
  have:=jH h (n+i) c hi
  rwa[show o+(n+i)=o+n+i by omega] at this
theorem yJ(h:dp Fr w b cs o)(n:Nat):dp Fr w b (cs.take n) o:=
 lH fun i c hi=>by
  rw[rQ] at hi
  split at hi
  ·exact jH h i c hi
  ·cases hi
theorem uT{Fr:Nat->Nat->Prop}{w:World}{b:Nat}:∀{cs:List C} {o:Nat} {ds:List C},dp Fr w b cs o->dp Fr w b ds (o+cs.length)->dp Fr w b (cs++ds) o
 |[],o,ds,_,h=>by simpa using h
 |c::cs,o,ds,h,h'=>by
  simp only[nk,dp] at h ⊢
  refine⟨h.1,uT h.2 ?_⟩
  rwa[show o+1+cs.length=o+(c::cs).length by simp;omega]
theorem tD{Fr:Nat->Nat->Prop}{w:World}{b:Nat}:∀{cs:List C} {o:Nat},dp Fr w b cs o->
 ∃vs:List Value,bj (C.aE Fr w) cs vs/\w.rangeAt b o vs
 |[],o,_=>⟨[],trivial,fun j v h=>by simp at h⟩
 |c::cs,o,h=>by
  simp only[dp] at h
  obtain⟨⟨_,v,hv,hr⟩,h2⟩:=h
  obtain⟨vs,h3,h4⟩:=tD h2
  refine⟨v::vs,⟨hr,h3⟩,fun j u hj=> ?_⟩
  cases j with
  |zero=>simp at hj;subst hj;simpa using hv
  |succ j=>
   have:=h4 j u (by simpa using hj)
   rwa[show o+1+j=o+(j+1) by omega] at this
theorem yK{Fr:Nat->Nat->Prop}{w:World}{sz b:Nat}:∀{es:List (List C)} {o:Nat},dF Fr w sz b es o->dp Fr w b es.flatten o
 |[],_,_=>by simp[dp]
 |e::es,o,h=>by
  simp only[dF] at h
  simp only[tu]
  exact uT h.2.1 (by rw[h.1];exact yK h.2.2)
theorem ob{Fr:Nat->Nat->Prop}{w:World}{sz b:Nat}:∀{es:List (List C)} {o:Nat},dF Fr w sz b es o->∀(i:Nat) (e:List C),es[i]?=some e->
 e.length=sz/\dp Fr w b e (o+i*sz)
 |[],_,_,i,e,hi=>by simp at hi
 |x::es,o,h,0,e,hi=>by simp at hi;subst hi;simp only[dF] at h;simpa using⟨h.1,h.2.1⟩
 |x::es,o,h,i+1,e,hi=>by
  simp at hi;simp only[dF] at h
  have:=ob h.2.2 i e hi
  rwa[show o+sz+i*sz=o+(i+1)*sz by rw[lU];omega] at this
theorem Bm{Fr:Nat->Nat->Prop}{w:World}{sz b:Nat}:∀{es:List (List C)} {o:Nat} (n:Nat),dF Fr w sz b es o->n<=es.length->dF Fr w sz b (es.drop n) (o+n*sz)
 |es,o,0,h,_=>by simpa using h
 |[],o,n+1,h,hn=>by simp at hn
 |e::es,o,n+1,h,hn=>by
  simp only[dF] at h
  have:=Bm (o:=o+sz) n h.2.2 (by simpa using hn)
  rwa[show o+sz+n*sz=o+(n+1)*sz by rw[lU];omega] at this
theorem Bn{Fr:Nat->Nat->Prop}{w:World}{sz b:Nat}:∀{es:List (List C)} {o:Nat} (n:Nat),dF Fr w sz b es o->dF Fr w sz b (es.take n) o
 |es,o,0,h=>by simp[dF]
 |[],o,n+1,h=>by simp[dF]
 |e::es,o,n+1,h=>by
  simp only[dF,List.take_succ_cons] at h ⊢
  exact⟨h.1,h.2.1,Bn n h.2.2⟩
theorem w9{Fr:Nat->Nat->Prop}{w:World}{sz b:Nat}:∀{es:List (List C)} {o:Nat} {fs:List (List C)},dF Fr w sz b es o->dF Fr w sz b fs (o+es.length*sz)->dF Fr w sz b (es++fs) o
 |[],o,fs,_,h=>by simpa using h
 |e::es,o,fs,h,h'=>by
  simp only[nk,dF] at h ⊢
  refine⟨h.1,h.2.1,w9 h.2.2 ?_⟩
  rwa[show o+sz+es.length*sz=o+(e::es).length*sz by simp only[cV,lU];omega]
theorem mO{Fr:Nat->Nat->Prop}{w:World}{sz b:Nat}:∀{es:List (List C)} {o:Nat},(∀e∈es,e.length=sz)->dp Fr w b es.flatten o->dF Fr w sz b es o
 |[],_,_,_=>by simp only[dF]
 |e::es,o,hl,h=>by
  have he:=hl e (by simp)
  simp only[dF]
  refine⟨he,?_,mO (fun x hx=>hl x (by simp[hx])) ?_⟩
  ·have:=yJ h e.length
   simpa using this
  ·have:=pP h e.length
   simpa[he] using this
variable{sz:Nat}{es:List (List C)}
theorem Ia(h:dF Fr w sz b es o):∀e∈es,e.length=sz:=fun e he=>by
 obtain⟨i,hi,rfl⟩:=Do he
 exact(ob h i _ (cm hi)).1
theorem mT{Fr:Nat->Nat->Prop}{w:World}:∀{cs:List C} {vs:List Value},li Fr w cs vs↔bj (C.aE Fr w) cs vs
 |[],[]=>by simp[li,bj]
 |[],_::_=>by simp[li,bj]
 |c::cs,[]=>by simp[li,bj]
 |c::cs,v::vs=>by
  simp only[li,bj,List.cons.injEq]
  constructor
  ·rintro⟨v',r,⟨rfl,rfl⟩,h1,h2⟩;exact⟨h1,mT.1 h2⟩
  ·rintro⟨h1,h2⟩;exact⟨v,vs,⟨rfl,rfl⟩,h1,mT.2 h2⟩
open Go.RowKit
structure Ib where
 cF:Option Addr
 cap:Nat
 sz:Nat
 deriving Inhabited
structure Gh where
 fr:Nat->Nat->Prop
 ky:Nat->Option (Nat×Nat)
 tk:Nat->Ib
def ph(γ:Gh)(w:World):C ⊕ (Nat×Nat)->Value->Prop
 | .inl x,v=>x.aE γ.fr w v
 | .inr (id,off),v=>∃b o,γ.ky id=some (b,o)/\v= .pointer (some ⟨b,o+off,none⟩)
def qp(γ:Gh)(tok:Nat->Option Nat)(sz len:Nat)(v:Value):Tk->Prop
 | .exact=>∃a n,v= .slice a n n
 | .tok i=>∃n,tok i=some n/\len<=n/\(len=n->v= .slice (γ.tk i).cF n (γ.tk i).cap/\(γ.tk i).sz=sz)
def V.aE(γ:Gh)(tok:Nat->Option Nat)(w:World):V->Value->Prop
 | .c x,v=>x.aE γ.fr w v
 | .cX sz es t,v=>(C.slice sz es).aE γ.fr w v/\qp γ tok sz es.length v t
 | .fX id off,v=>∃b o,γ.ky id=some (b,o)/\v= .pointer (some ⟨b,o+off,none⟩)
 | .sC id off _ n,v=>∃b o cap,γ.ky id=some (b,o)/\v= .slice (some ⟨b,o+off,none⟩) n cap/\n<=cap
 | .PB f dA,v=>∃vs:List Value,v= .func (.func f) #[] vs.toArray/\bj (ph γ w) dA vs
 | .ifp t id off,v=>∃b o,γ.ky id=some (b,o)/\v= .iface t (.pointer (some ⟨b,o+off,none⟩))
def K.aE(γ:Gh)(tok:Nat->Option Nat)(w:World):K->Value->Prop
 | .v x,u=>x.aE γ tok w u
 | .agg xs,u=>∃vs:List Value,u= .agg vs.toArray/\bj (V.aE γ tok w) xs vs
def T.aE(γ:Gh)(tok:Nat->Option Nat)(w:World):T->Value->Prop
 | .k x,v=>x.aE γ tok w v
 | .Kk ks,v=>∃vs:List Value,v= .tuple vs.toArray/\bj (K.aE γ tok w) ks vs
 | .bf,_=>True
 | .skip,v=>v=undef
variable{γ:Gh}{tok:Nat->Option Nat}
theorem V.we{x:V}(h:x.aE γ tok w v):v.oneCell'=true:=by
 cases x<;>simp only[V.aE] at h
 case c x=>exact C.we h
 case cX sz es t=>exact C.we h.1
 case fX id off=>obtain⟨_,_,_,rfl⟩:=h;rfl
 case sC id off sz n=>obtain⟨_,_,_,_,rfl,_⟩:=h;rfl
 case PB f dA=>obtain⟨_,rfl,_⟩:=h;rfl
 case ifp t id off=>obtain⟨_,_,_,rfl⟩:=h;rfl
def Gh.lx(γ:Gh)(n:Nat):Gh:={γ with ky:=fun i=>if i<n then γ.ky i else none}
def lx(tok:Nat->Option Nat)(k:Nat):Nat->Option Nat:=fun i=>if i<k then tok i else none
variable{n:Nat}
theorem Gh.Aw(γ:Gh){m:Nat}(h:m<=n):(γ.lx n).lx m=γ.lx m:=by
 unfold Gh.lx
 congr 1
 funext i
 simp only
 by_cases hi:i<m
 ·rw[aP hi,aP hi,aP (by omega)]
 ·rw[aR hi,aR hi]
theorem Aw(tok:Nat->Option Nat){m:Nat}(h:m<=n):lx (lx tok n) m=lx tok m:=by
 funext i
 unfold lx
 by_cases hi:i<m
 ·rw[aP hi,aP hi,aP (by omega)]
 ·rw[aR hi,aR hi]
structure Ex(γ γ':Gh)(tok yL:Nat->Option Nat)(w w':World):Prop where
 ev:Ev γ.fr γ'.fr w w'
 ky:∀id p,γ.ky id=some p->γ'.ky id=some p
 tok:∀i n,tok i=some n->(yL i=some n/\γ'.tk i=γ.tk i)\/∃n',yL i=some n'/\n<n'
variable{γ':Gh}{yL:Nat->Option Nat}
theorem Ex.lx(h:Ex γ γ' tok yL w w')(n k:Nat):Ex (γ.lx n) (γ'.lx n) (Dm.lx tok k) (Dm.lx yL k) w w' where
 ev:=h.ev
 ky:=fun id p hp=>by
  simp only[Gh.lx] at hp ⊢
  by_cases hi:id<n
  ·rw[aP hi] at hp ⊢;exact h.ky id p hp
  ·rw[aR hi] at hp;cases hp
 tok:=fun i l hl=>by
  simp only[Dm.lx] at hl ⊢
  by_cases hi:i<k
  ·rw[aP hi] at hl ⊢;exact h.tok i l hl
  ·rw[aR hi] at hl;cases hl
theorem Ex.all(γ:Gh)(tok:Nat->Option Nat)(w:World)(n k:Nat):Ex (γ.lx n) γ (Dm.lx tok k) tok w w where
 ev:= .refl _ _
 ky:=fun id p hp=>by
  simp only[Gh.lx] at hp
  by_cases hi:id<n
  ·rw[aP hi] at hp;exact hp
  ·rw[aR hi] at hp;cases hp
 tok:=fun i x hx=>by
  simp only[Dm.lx] at hx
  by_cases hi:i<k
  ·rw[aP hi] at hx;exact .inl ⟨hx,rfl⟩
  ·rw[aR hi] at hx;cases hx
theorem Ex.refl(γ:Gh)(tok:Nat->Option Nat)(w:World):Ex γ γ tok tok w w:=⟨.refl _ _,fun _ _ h=>h,fun _ _ h=> .inl ⟨h,rfl⟩⟩
theorem ph.mono(he:Ex γ γ' tok yL w w')(x:C ⊕ (Nat×Nat))(v:Value)(h:ph γ w x v):ph γ' w' x v:=by
 cases x with
 |inl x=>exact C.aE.mono he.ev x v h
 |inr p=>obtain⟨b,o,h1,h2⟩:=h;exact⟨b,o,he.ky _ _ h1,h2⟩
theorem V.aE.mono(he:Ex γ γ' tok yL w w')(x:V)(v:Value)(h:x.aE γ tok w v):x.aE γ' yL w' v:=by
 cases x<;>simp only[V.aE] at h ⊢
 case c x=>exact C.aE.mono he.ev x v h
 case cX sz es t=>
  refine⟨C.aE.mono he.ev _ v h.1,?_⟩
  cases t with
  |exact=>exact h.2
  |tok i=>
   obtain⟨n,h1,h2,h3⟩:=h.2
   rcases he.tok i n h1 with⟨h4,h5⟩|⟨n',h4,h5⟩
   ·exact⟨n,h4,h2,by rw[h5];exact h3⟩
   ·exact⟨n',h4,by omega,fun h=>by omega⟩
 case fX id off=>obtain⟨b,o,h1,h2⟩:=h;exact⟨b,o,he.ky _ _ h1,h2⟩
 case sC id off sz n=>obtain⟨b,o,cap,h1,h2⟩:=h;exact⟨b,o,cap,he.ky _ _ h1,h2⟩
 case PB f dA=>obtain⟨vs,h1,h2⟩:=h;exact⟨vs,h1,h2.mono (fun x v=>ph.mono he x v)⟩
 case ifp t id off=>obtain⟨b,o,h1,h2⟩:=h;exact⟨b,o,he.ky _ _ h1,h2⟩
theorem K.aE.mono(he:Ex γ γ' tok yL w w')(x:K)(v:Value)(h:x.aE γ tok w v):x.aE γ' yL w' v:=by
 cases x<;>simp only[K.aE] at h ⊢
 case v x=>exact V.aE.mono he x v h
 case agg xs=>obtain⟨vs,h1,h2⟩:=h;exact⟨vs,h1,h2.mono (fun x v=>V.aE.mono he x v)⟩
theorem T.aE.mono(he:Ex γ γ' tok yL w w')(x:T)(v:Value)(h:x.aE γ tok w v):x.aE γ' yL w' v:=by
 cases x<;>simp only[T.aE] at h ⊢
 case k x=>exact K.aE.mono he x v h
 case Kk ks=>obtain⟨vs,h1,h2⟩:=h;exact⟨vs,h1,h2.mono (fun x v=>K.aE.mono he x v)⟩
 case skip=>exact h
def pQ(p:Nat->Prop)(x y:Option Obj):Prop:=
 match x with
 |some (.cells c e fz)=>∃c',y=some (.cells c' e fz)/\c'.size=c.size/\∀j,¬p j->c'[j]?=c[j]?
 |o=>y=o
theorem pQ.refl(p:Nat->Prop)(x:Option Obj):pQ p x x:=by
 unfold pQ
 split
 ·exact⟨_,rfl,rfl,fun _ _=>rfl⟩
 ·rfl
variable{p:Nat->Prop}
theorem pQ.of_eq{x y:Option Obj}(h:y=x):pQ p x y:=h▸pQ.refl p x
theorem pQ.trans{x y z:Option Obj}(h:pQ p x y)(k:pQ p y z):pQ p x z:=by
 cases x with
 |none=>simp only[pQ] at h;subst h;exact k
 |some x=>
  cases x with
  |cells c e fz=>
   obtain⟨c',h1,h2,h3⟩:=h
   subst h1
   obtain⟨c'',k1,k2,k3⟩:=k
   exact⟨c'',k1,k2.trans h2,fun j hj=>(k3 j hj).trans (h3 j hj)⟩
  |_=>simp only[pQ] at h;subst h;exact k
structure bX(imp:Nat->Nat->Prop)(w w':World):Prop where
 os:w'.os=w.os
 tape:w'.tape=w.tape
 output:w'.output=w.output
 size:w.heap.size<=w'.heap.size
 Rb:∀b,b<w.heap.size->pQ (imp b) w.heap[b]? w'.heap[b]?
theorem bX.refl(imp:Nat->Nat->Prop)(w:World):bX imp w w:=⟨rfl,rfl,rfl,aL _,fun _ _=>pQ.refl _ _⟩
variable{imp:Nat->Nat->Prop}
theorem bX.trans{a b c:World}(h:bX imp a b)(k:bX imp b c):bX imp a c:=
 ⟨k.os.trans h.os,k.tape.trans h.tape,k.output.trans h.output,aZ h.size k.size,fun i hi=>(h.Rb i hi).trans (k.Rb i (lT hi h.size))⟩
theorem bX.j8(h:Below w.heap.size w w'):bX imp w w':=
 ⟨h.os,h.tape,h.output,h.size,fun b hb=>pQ.of_eq (h.block b hb)⟩
theorem bX.below(h:bX (fun _ _=>False) w w'):Below w.heap.size w w':=
 ⟨h.os,h.tape,h.output,h.size,fun b hb=>by
   have:=h.Rb b hb
   unfold pQ at this
   split at this
   ·rename_i c e fz hx
    obtain⟨c',h1,h2,h3⟩:=this
    rw[h1,hx]
    have:c'=c:=by
     apply Array.ext h2
     intro i hi Km
     have:=h3 i (fun h=>h)
     simpa[Pz hi,Pz Km] using this
    rw[this]
   ·exact this⟩
theorem bX.mono{abG:Nat->Nat->Prop}(h:bX imp w w')(hi:∀b o,imp b o->abG b o):bX abG w w':=
 ⟨h.os,h.tape,h.output,h.size,fun b hb=>by
   have:=h.Rb b hb
   unfold pQ at this ⊢
   split
   ·rename_i c e fz hx
    simp only[hx] at this
    obtain⟨c',h1,h2,h3⟩:=this
    exact⟨c',h1,h2,fun j hj=>h3 j (fun hp=>hj (hi b j hp))⟩
   ·rename_i hx
    split at this
    ·rename_i c e fz TF
     exact absurd TF (hx c e fz)
    ·exact this⟩
theorem Ic(w:World)(p:Nat->Nat->Prop)(b o:Nat)(v:Value)(i:Nat)(h:i=b->p b o):pQ (p i) w.heap[i]? (w.setCell ⟨b,o,none⟩ v).heap[i]?:=by
 by_cases hib:i=b
 ·subst hib
  have hp:=h rfl
  unfold pQ
  simp only[World.setCell,TU,↓reduceIte]
  split
  ·rename_i c e fz hx
   rw[hx]
   exact⟨c.setIfInBounds o v,by simp,by simp,fun j hj=>by
    by_cases hjo:o=j
    ·subst hjo;exact absurd hp hj
    ·rw[Array.getElem?_setIfInBounds_ne hjo]⟩
  ·rename_i hx
   cases hh:w.heap[i]? with
   |none=>simp
   |some x=>cases x<;>simp_all
 ·exact pQ.of_eq (Below.heap_setCell _ _ _ _ hib)
theorem bX.setCell{a:World}(h:bX imp a w)(hp:imp b o\/a.heap.size<=b)(u:Value):bX imp a (w.setCell ⟨b,o,none⟩ u):=
 ⟨h.os,h.tape,h.output,by simpa using h.size,fun i hi=>(h.Rb i hi).trans (Ic w imp b o u i (fun hb=>by
   rcases hp with hp|hp
   ·exact hp
   ·omega))⟩
theorem bX.setCells{a:World}:∀{vs:List Value} {o:Nat} {w:World},bX imp a w->(∀j,j<vs.length->imp b (o+j)\/a.heap.size<=b)->bX imp a (w.setCells b o vs)
 |[],_,_,h,_=>h
 |v::vs,o,w,h,hp=>by
  rw[World.setCells]
  exact bX.setCells (h.setCell (by simpa using hp 0 (by simp)) v) (fun j hj=>by
   have:=hp (j+1) (by simpa using hj)
   rwa[show o+(j+1)=o+1+j by omega] at this)
structure Fm where
 sk:Nat->Nat->Prop
 imp:Nat->Nat->Prop
 w0:World
 n:Nat
 gK:List (Nat×Nat)
 tb:Nat->Prop
 gh:T->Value->Nat->Nat->Prop
 gn:Nat
 gk:Nat
def Fm.Ko(F:Fm)(b o:Nat):Prop:=F.imp b o\/F.w0.heap.size<=b
def Fm.w_(F:Fm)(b lo:Nat):Prop:=F.w0.heap.size<=b\/(F.tb b/\∀o,lo<=o->F.imp b o)
variable{F:Fm}
theorem Fm.w_.Ko{lo:Nat}(h:F.w_ b lo)(ho:lo<=o):F.Ko b o:=by
 rcases h with h|h
 ·exact .inr h
 ·exact .inl (h.2 o ho)
theorem Fm.w_.mono{lo lo':Nat}(h:F.w_ b lo)(hl:lo<=lo'):F.w_ b lo':=by
 rcases h with h|h
 ·exact .inl h
 ·exact .inr ⟨h.1,fun o ho=>h.2 o (aZ hl ho)⟩
structure Mem where
 tmp:Nat->T
 var:Nat->Option (List V)
 tok:Nat->Option Nat
def Mem.put(m:Mem)(d:Option Tmp)(x:T):Mem:=
 match d with
 |some d=>{m with tmp:=fun t=>if t=d then x else m.tmp t}
 |none=>m
def afp(F:Fm)(γ:Gh)(tok:Nat->Option Nat)(w:World)(xs:List V)(b o:Nat):Prop:=
 (∃vs:List Value,bj (V.aE γ tok w) xs vs/\w.rangeAt b o vs)/\w.there b o xs.length/\∀j,j<xs.length->¬γ.fr b (o+j)/\F.Ko b (o+j)
def Dp(F:Fm)(γ:Gh)(w:World)(i n:Nat):Prop:=
 n<=(γ.tk i).cap/\((γ.tk i).cap=n\/∃b,(γ.tk i).cF=some ⟨b,0,none⟩/\F.w_ b (n*(γ.tk i).sz)/\
  (∃arr e,w.heap[b]?=some (.cells arr e (0,0))/\(γ.tk i).cap*(γ.tk i).sz<=arr.size)/\∀o,n*(γ.tk i).sz<=o->¬γ.fr b o)
structure ix(F:Fm)(γ:Gh)(m:Mem)(a:Act)(w:World):Prop where
 defers:a.defers=[]
 size:a.tmps.size=F.n
 cF:bX F.imp F.w0 w
 sk:∀b o,F.sk b o->γ.fr b o
 xb:∀b o,γ.fr b o->F.sk b o\/F.Ko b o
 j9:∀b o,γ.fr b o->b<w.heap.size
 fR:∀id b o,γ.ky id=some (b,o)->b<w.heap.size
 tmps:∀t,(m.tmp t).aE γ m.tok w (a.tmps.getD t undef)
 gh:∀x v n k,F.gh x v n k->(n<=F.gn/\k<=F.gk)/\x.aE (γ.lx n) (lx m.tok k) w v
 vars:∀id xs,m.var id=some xs->∃b o,γ.ky id=some (b,o)/\afp F γ m.tok w xs b o
 gM:∀id,m.var id=none->γ.ky id=none
 d4:∀(k:Nat) p,F.gK[k]?=some p->γ.ky k=some p
 h_:∀id Yd xs TV b o b' o',id≠Yd->m.var id=some xs->m.var Yd=some TV->γ.ky id=some (b,o)->γ.ky Yd=some (b',o')->
  b≠b'\/o+xs.length<=o'\/o'+TV.length<=o
 dE:∀i n,m.tok i=some n->Dp F γ w i n
 eP:∀i j n k,i≠j->m.tok i=some n->m.tok j=some k->(γ.tk i).cap≠n->(γ.tk j).cap≠k->(γ.tk i).cF.map (·.block)≠(γ.tk j).cF.map (·.block)
 jY:∀i n id xs b o,m.tok i=some n->m.var id=some xs->γ.ky id=some (b,o)->(γ.tk i).cap≠n->(γ.tk i).cF.map (·.block)≠some b
variable{a:Act}
theorem Act.TW{d:Option Tmp}(hs:a.tmps.size=n)(hd:∀t,d=some t->t<n)(t:Nat):
 (a.put d v).tmps.getD t undef=if d=some t then v else a.tmps.getD t undef:=by
 cases d with
 |none=>simp[Act.put]
 |some d=>
  have fO:d<a.tmps.size:=by rw[hs];exact hd d rfl
  by_cases h:d=t
  ·subst h;simp[Act.put,fO]
  ·simp[Act.put,h]
theorem Mem.wh(m:Mem)(d:Option Tmp)(x:T):(m.put d x).var=m.var:=by cases d<;>rfl
theorem Mem.rh(m:Mem)(d:Option Tmp)(x:T):(m.put d x).tok=m.tok:=by cases d<;>rfl
theorem Mem.Id(m:Mem)(d:Option Tmp)(x:T)(t:Nat):(m.put d x).tmp t=if d=some t then x else m.tmp t:=by
 cases d with
 |none=>simp[Mem.put]
 |some d=>
  simp only[Mem.put,av]
  by_cases h:d=t
  ·simp[h]
  ·simp[h,f_ h]
theorem Act.TX(a:Act)(d:Option Tmp)(v:Value):(a.put d v).tmps.size=a.tmps.size:=by cases d<;>simp[Act.put]
theorem Act.Kp(a:Act)(d:Option Tmp)(v:Value):(a.put d v).defers=a.defers:=by cases d<;>rfl
variable{m:Mem}{x:T}
theorem ix.put(h:ix F γ m a w){d:Option Tmp}(hd:∀t,d=some t->t<F.n)(hx:x.aE γ m.tok w v):
 ix F γ (m.put d x) (a.put d v) w where
 defers:=by rw[Act.Kp];exact h.defers
 size:=by rw[Act.TX];exact h.size
 cF:=h.cF
 sk:=h.sk
 xb:=h.xb
 j9:=h.j9
 fR:=h.fR
 tmps t:=by
  rw[Act.TW h.size hd,Mem.Id,Mem.rh]
  split
  ·exact hx
  ·exact h.tmps t
 gh:=by simpa only[Mem.rh] using h.gh
 vars:=by simpa only[Mem.wh,Mem.rh] using h.vars
 gM:=by simpa only[Mem.wh] using h.gM
 d4:=h.d4
 h_:=by simpa only[Mem.wh] using h.h_
 dE:=by simpa only[Mem.rh] using h.dE
 eP:=by simpa only[Mem.rh] using h.eP
 jY:=by simpa only[Mem.rh,Mem.wh] using h.jY
variable{vs:List Value}
theorem oJ(h:w.rangeAt b o vs)(hb:Below w.heap.size w w'):w'.rangeAt b o vs:=fun j v hv=>by
 have:=h j v hv
 rw[hb.cell (p:=⟨b,o+j,none⟩) (World.block_lt_of_cell? w _ this)]
 exact this
theorem uU(h:w.there b o n)(hb:Below w.heap.size w w'):w'.there b o n:=fun j hj=>by
 obtain⟨h1,h2⟩:=h j hj
 obtain⟨u,hu⟩:=Option.isSome_iff_exists.1 h1
 have fO:=World.block_lt_of_cell? w _ hu
 exact⟨by rw[hb.cell (p:=⟨b,o+j,none⟩) fO];exact h1,by rw[hb.frozen (p:=⟨b,o+j,none⟩) fO];exact h2⟩
theorem Ev.j8(hb:Below w.heap.size w w')(hf:∀b o,Fr b o->oI b o):Ev Fr oI w w' where
 fr:=hf
 cell b o v _ hv:=by rw[hb.cell (p:=⟨b,o,none⟩) (World.block_lt_of_cell? w _ hv)];exact hv
 obj b es c _ hv:=by
  have fO:b<w.heap.size:=by
   rcases gq b w.heap.size with h|h
   ·exact h
   ·rw[uO h] at hv;cases hv
  rw[hb.block b fO];exact hv
variable{yB:Nat->Nat->Prop}
theorem ix.tE(h:ix F γ m a w)(hb:Below w.heap.size w w')(hf:∀b o,γ.fr b o->yB b o)(hn:∀b o,yB b o->γ.fr b o\/(w.heap.size<=b/\b<w'.heap.size)):ix F {γ with fr:=yB} m a w'/\Ex γ {γ with fr:=yB} m.tok m.tok w w':=by
 have jr:Ex γ {γ with fr:=yB} m.tok m.tok w w':=⟨.j8 hb hf,fun _ _ h=>h,fun _ _ h=> .inl ⟨h,rfl⟩⟩
 refine⟨?_,jr⟩
 have yM:∀b o,b<w.heap.size->yB b o->γ.fr b o:=fun b o fO hx=>(hn b o hx).resolve_right (by omega)
 exact {
  defers:=h.defers
  size:=h.size
  cF:=h.cF.trans (.j8 hb)
  sk:=fun b o x=>hf b o (h.sk b o x)
  xb:=fun b o x=>by
   rcases hn b o x with x|x
   ·exact h.xb b o x
   ·exact .inr (.inr (by have:=h.cF.size;omega))
  j9:=fun b o x=>by
   rcases hn b o x with x|x
   ·exact lT (h.j9 b o x) hb.size
   ·exact x.2
  fR:=fun id b o hl=>lT (h.fR id b o hl) hb.size
  tmps:=fun t=>T.aE.mono jr _ _ (h.tmps t)
  gh:=fun x v n k hp=>⟨(h.gh x v n k hp).1,T.aE.mono (jr.lx _ _) _ _ (h.gh x v n k hp).2⟩
  vars:=fun id xs hv=>by
   obtain⟨b,o,h1,⟨vs,h2,h3⟩,h4,h5⟩:=h.vars id xs hv
   refine⟨b,o,h1,⟨vs,h2.mono (fun x v=>V.aE.mono jr x v),oJ h3 hb⟩,uU h4 hb,fun j hj=>⟨fun hx=> ?_,(h5 j hj).2⟩⟩
   obtain⟨u,hu⟩:=Option.isSome_iff_exists.1 (h4 j hj).1
   exact(h5 j hj).1 (yM b _ (World.block_lt_of_cell? w _ hu) hx)
  gM:=h.gM
  d4:=h.d4
  h_:=h.h_
  dE:=fun i n hi=>by
   obtain⟨h1,h2⟩:=h.dE i n hi
   refine⟨h1,?_⟩
   rcases h2 with h2|⟨b,uV,Dq,⟨arr,e,jZ,oS⟩,rS⟩
   ·exact .inl h2
   ·have fO:b<w.heap.size:=by
     rcases gq b w.heap.size with h|h
     ·exact h
     ·rw[uO h] at jZ;cases jZ
    exact .inr ⟨b,uV,Dq,⟨arr,e,by rw[hb.block b fO];exact jZ,oS⟩,fun o ho hx=>rS o ho (yM b o fO hx)⟩
  eP:=h.eP
  jY:=h.jY}
variable{id:Nat}{xs:List V}
theorem ix.newVar(h:ix F γ m a w)(gm:m.var id=none)(hx:bj (V.aE γ m.tok w) xs vs)(t:TypeId):
 let γ':Gh:={γ with ky:=fun i=>if i=id then some (w.heap.size,0) else γ.ky i}
 let m':Mem:={m with var:=fun i=>if i=id then some xs else m.var i}
 ix F γ' m' a (w.alloc (.cells vs.toArray t))/\Ex γ γ' m.tok m.tok w (w.alloc (.cells vs.toArray t)):=by
 intro γ' m'
 have hb:Below w.heap.size w (w.alloc (.cells vs.toArray t)):=(Below.refl _ w).alloc (aL _) _
 have uW:=h.gM id gm
 have jV:∀i p,γ.ky i=some p->i≠id:=fun i p hp he=>by rw[he,uW] at hp;cases hp
 have Gx:∀i xs,m.var i=some xs->i≠id:=fun i xs hv he=>by rw[he,gm] at hv;cases hv
 have jr:Ex γ γ' m.tok m.tok w (w.alloc (.cells vs.toArray t)):=
  ⟨.j8 hb (fun _ _ h=>h),fun i p hp=>by show(if i=id then _ else _)=_;rw[aR (jV i p hp)];exact hp,fun _ _ h=> .inl ⟨h,rfl⟩⟩
 have hg:=(h.tE hb (yB:=γ.fr) (fun _ _ h=>h) (fun _ _ h=> .inl h)).1
 refine⟨?_,jr⟩
 exact {
  defers:=hg.defers
  size:=hg.size
  cF:=hg.cF
  sk:=hg.sk
  xb:=hg.xb
  j9:=hg.j9
  fR:=fun i b o hl=>by
   simp only[γ'] at hl
   split at hl
   ·cases hl;simp
   ·exact lT (h.fR i b o hl) hb.size
  tmps:=fun t=>T.aE.mono jr _ _ (h.tmps t)
  gh:=fun x v n k hp=>⟨(h.gh x v n k hp).1,T.aE.mono (jr.lx _ _) _ _ (h.gh x v n k hp).2⟩
  vars:=fun i ys hv=>by
   by_cases hi:i=id
   ·subst hi
    have:xs=ys:=by simpa[m'] using hv
    subst this
    refine⟨w.heap.size,0,by simp[γ'],⟨vs,hx.mono (fun x v=>V.aE.mono jr x v),fun j v hj=> ?_⟩,fun j hj=> ?_,fun j hj=>⟨fun hf=> ?_, .inr ?_⟩⟩
    ·simpa using hj
    ·have hl:=hx.length
     constructor
     ·simp;omega
     ·simp
    ·have:=h.j9 _ _ hf;omega
    ·exact h.cF.size
   ·have Kq:m.var i=some ys:=by simpa[m',hi] using hv
    obtain⟨b,o,h1,⟨jQ,h2,h3⟩,h4,h5⟩:=h.vars i ys Kq
    exact⟨b,o,by simp[γ',hi,h1],⟨jQ,h2.mono (fun x v=>V.aE.mono jr x v),oJ h3 hb⟩,uU h4 hb,h5⟩
  gM:=fun i hi=>by
   by_cases he:i=id
   ·subst he;simp[m'] at hi
   ·simp[m',he] at hi;simp[γ',he,h.gM i hi]
  d4:=fun k p hk=>by
   have h1:=h.d4 k p hk
   simp only[γ']
   rw[aR (jV k p h1)]
   exact h1
  h_:=fun i j ys zs b o b' o' pj hi hj hl Ay=>by
   by_cases he:i=id
   ·subst he
    have hje:j≠i:=f_ pj
    simp only[m',γ',hje,br,bu,av,aY] at hi hj hl Ay
    obtain⟨rfl,rfl⟩:=hl
    left;have:=h.fR j b' o' Ay;omega
   ·by_cases B':j=id
    ·subst B'
     simp only[m',γ',he,br,bu,av,aY] at hi hj hl Ay
     obtain⟨rfl,rfl⟩:=Ay
     left;have:=h.fR i b o hl;omega
    ·simp only[m',γ',he,B',br] at hi hj hl Ay
     exact h.h_ i j ys zs b o b' o' pj hi hj hl Ay
  dE:=hg.dE
  eP:=hg.eP
  jY:=fun i n j ys b o hi hj hl hc=>by
   by_cases he:j=id
   ·subst he
    simp only[γ',bu,av,aY] at hl
    obtain⟨rfl,rfl⟩:=hl
    obtain⟨_,h2⟩:=h.dE i n hi
    rcases h2 with h2|⟨b',uV,_,⟨arr,e,jZ,_⟩,_⟩
    ·exact absurd h2 hc
    ·rw[show(γ'.tk i).cF=some ⟨b',0,none⟩ from uV]
     intro jI
     simp at jI
     subst jI
     simp at jZ
   ·simp only[m',γ',he,br] at hj hl
    exact h.jY i n j ys b o hi hj hl hc}
open Go.RowKit
theorem oc(b:Nat):∀(vs:List Value) (o:Nat) (w:World) (k:Nat),k≠b->(w.setCells b o vs).heap[k]?=w.heap[k]?
 |[],_,_,_,_=>rfl
 |v::r,o,w,k,h=>by
  rw[World.setCells,oc b r (o+1) _ k h]
  exact Below.heap_setCell _ _ _ _ h
theorem rj(b:Nat):∀(vs:List Value) (o:Nat) (w:World) (k:Nat) (es:Array MapEntry) (c:Nat),w.heap[k]?=some (.map es c)->(w.setCells b o vs).heap[k]?=some (.map es c)
 |[],_,_,_,_,_,h=>h
 |v::r,o,w,k,es,c,h=>by
  rw[World.setCells]
  refine rj b r (o+1) _ k es c ?_
  simp only[World.setCell,TU]
  split
  ·rename_i hb;have m9:b=k:=hb;subst m9;rw[h];rfl
  ·exact h
theorem mC(b:Nat):∀(vs:List Value) (o:Nat) (w:World),(w.setCells b o vs).heap.size=w.heap.size
 |[],_,_=>rfl
 |v::r,o,w=>by rw[World.setCells,mC b r];simp
theorem qq(b:Nat):∀(vs:List Value) (o:Nat) (w:World) (arr:Array Value) (e:TypeId) (fz:Nat×Nat),w.heap[b]?=some (.cells arr e fz)->
 ∃Az,(w.setCells b o vs).heap[b]?=some (.cells Az e fz)/\Az.size=arr.size
 |[],_,_,arr,_,_,h=>⟨arr,h,rfl⟩
 |v::r,o,w,arr,e,fz,h=>by
  rw[World.setCells]
  have h1:(w.setCell ⟨b,o,none⟩ v).heap[b]?=some (.cells (arr.setIfInBounds o v) e fz):=by
   simp only[World.setCell,TU,bu,h];rfl
  obtain⟨Az,h2,h3⟩:=qq b r (o+1) _ _ e fz h1
  exact⟨Az,h2,by rw[h3];simp⟩
theorem Ev.setCells(b o:Nat)(vs:List Value)(hf:∀b o,Fr b o->oI b o)(Ds:∀j,j<vs.length->¬Fr b (o+j)):Ev Fr oI w (w.setCells b o vs) where
 fr:=hf
 cell b' o' v rS hv:=by
  rw[World.cell?_setCells_out b vs o w ⟨b',o',none⟩ (fun hb _=> ?_)]
  ·exact hv
  ·simp only at hb
   subst hb
   rcases gq o' o with h|h
   ·exact .inl h
   ·rcases gq o' (o+vs.length) with h'|h'
    ·exfalso
     have:=Ds (o'-o) (by omega)
     rw[show o+(o'-o)=o' by omega] at this
     exact this rS
    ·exact .inr h'
 obj b' es c _ hv:=rj b vs o w b' es c hv
variable{ys:List V}{us:List Value}
theorem bj.M9{R:V->Value->Prop}(h:bj R xs vs)(k:bj R ys us)(off:Nat):
 bj R (xs.take off++ys++xs.drop (off+ys.length)) (vs.take off++us++vs.drop (off+us.length)):=by
 rw[k.length]
 exact((h.take off).append k).append (h.drop _)
theorem oK(xs ys:List α)(off:Nat)(h:off+ys.length<=xs.length):(xs.take off++ys++xs.drop (off+ys.length)).length=xs.length:=by
 simp only[iq,kG,rR];omega
theorem Dt(h:w.rangeAt b o vs)(ht:w.there b o vs.length)(off:Nat)(rT:off+us.length<=vs.length):
 (w.setCells b (o+off) us).rangeAt b o (vs.take off++us++vs.drop (off+us.length)):=by
 intro j v hv
 by_cases h1:j<off
 ·rw[World.cell?_setCells_out b us (o+off) w _ (fun _ _=> .inl (by simp;omega))]
  rw[kF,mq (by simp;omega),rQ,aP h1] at hv
  exact h j v hv
 ·by_cases h2:j<off+us.length
  ·have Gy:∀i,i<us.length->(w.cell? ⟨b,o+off+i,none⟩).isSome=true:=fun i hi=>by
    have:=(ht (off+i) (by omega)).1
    rwa[show o+off+i=o+(off+i) by omega]
   have:=World.cell?_setCells_in b us (o+off) w Gy (j-off) (by omega)
   rw[show o+off+(j-off)=o+j by omega] at this
   rw[this,<-hv]
   rw[kF,tw (by simp;omega),mq (by simp;omega)]
   simp only[kG]
   rw[show j-min off vs.length=j-off by omega,cm (by omega)]
  ·rw[World.cell?_setCells_out b us (o+off) w _ (fun _ _=> .inr (by simp;omega))]
   rw[tw (by simp;omega),Au] at hv
   refine h j v ?_
   rw[<-hv]
   congr 1
   simp;omega
theorem ix.store(h:ix F γ m a w)(hv:m.var id=some xs)(hl:γ.ky id=some (b,o))(off:Nat)(hy:bj (V.aE γ m.tok w) ys us)(rT:off+ys.length<=xs.length):
 let m':Mem:={m with var:=fun i=>if i=id then some (xs.take off++ys++xs.drop (off+ys.length)) else m.var i}
 ix F γ m' a (w.setCells b (o+off) us):=by
 intro m'
 obtain⟨b',o',h1,⟨vs,h2,h3⟩,h4,h5⟩:=h.vars id xs hv
 rw[h1] at hl;cases hl
 have hyl:=hy.length
 have XT:=h2.length
 have Ds:∀j,j<us.length->¬γ.fr b (o+off+j):=fun j hj=>by
  have:=(h5 (off+j) (by omega)).1
  rwa[show o+off+j=o+(off+j) by omega]
 have jr:Ex γ γ m.tok m.tok w (w.setCells b (o+off) us):=⟨.setCells b (o+off) us (fun _ _ h=>h) Ds,fun _ _ h=>h,fun _ _ h=> .inl ⟨h,rfl⟩⟩
 exact {
  defers:=h.defers
  size:=h.size
  cF:=h.cF.setCells fun j hj=>by
   have:=(h5 (off+j) (by omega)).2
   rwa[show o+off+j=o+(off+j) by omega]
  sk:=h.sk
  xb:=h.xb
  j9:=fun b o hx=>by rw[mC];exact h.j9 b o hx
  fR:=fun i b o hx=>by rw[mC];exact h.fR i b o hx
  tmps:=fun t=>T.aE.mono jr _ _ (h.tmps t)
  gh:=fun x v n k hp=>⟨(h.gh x v n k hp).1,T.aE.mono (jr.lx _ _) _ _ (h.gh x v n k hp).2⟩
  vars:=fun i zs hi=>by
   by_cases he:i=id
   ·subst he
    simp only[m',bu,av] at hi
    subst hi
    refine⟨b,o,h1,⟨_,((h2.mono (fun x v=>V.aE.mono jr x v)).M9 (hy.mono (fun x v=>V.aE.mono jr x v)) off),Dt h3 (by rw[<-XT];exact h4) off (by omega)⟩,?_,?_⟩
    ·rw[oK _ _ _ rT];exact World.there_setCells h4 _ _ _
    ·rw[oK _ _ _ rT];exact h5
   ·simp only[m',he,br] at hi
    obtain⟨b',o',k1,⟨jQ,k2,k3⟩,k4,k5⟩:=h.vars i zs hi
    refine⟨b',o',k1,⟨jQ,k2.mono (fun x v=>V.aE.mono jr x v),World.rangeAt_setCells_apart k3 _ _ _ ?_⟩,World.there_setCells k4 _ _ _,k5⟩
    have:=h.h_ i id zs xs b' o' b o he hi hv k1 h1
    have hk:=k2.length
    omega
  gM:=fun i hi=>by
   by_cases he:i=id
   ·subst he;simp[m'] at hi
   ·simp[m',he] at hi;exact h.gM i hi
  d4:=h.d4
  h_:=fun i j ys' zs b1 o1 b2 o2 pj hi hj Gz Ye=>by
   have key:∀k PC,m'.var k=some PC->∃zs,m.var k=some zs/\zs.length=PC.length:=fun k PC hk=>by
    by_cases he:k=id
    ·subst he
     simp only[m',bu,av] at hk
     subst hk
     exact⟨xs,hv,(oK _ _ _ rT).symm⟩
    ·simp only[m',he,br] at hk;exact⟨PC,hk,rfl⟩
   obtain⟨zs1,hz1,e1⟩:=key i _ hi
   obtain⟨zs2,hz2,e2⟩:=key j _ hj
   have:=h.h_ i j zs1 zs2 b1 o1 b2 o2 pj hz1 hz2 Gz Ye
   omega
  dE:=fun i n hi=>by
   obtain⟨k1,k2⟩:=h.dE i n hi
   refine⟨k1,?_⟩
   by_cases hc:(γ.tk i).cap=n
   ·exact .inl hc
   ·obtain⟨b',uV,Dq,⟨arr,e,jZ,oS⟩,rS⟩:=k2.resolve_left hc
    have jV:b'≠b:=fun he=>by
     have:=h.jY i n id xs b o hi hv h1 hc
     rw[uV] at this
     exact this (by simp[he])
    exact .inr ⟨b',uV,Dq,⟨arr,e,by rw[oc _ _ _ _ _ jV];exact jZ,oS⟩,rS⟩
  eP:=h.eP
  jY:=fun i n j zs b1 o1 hi hj Gz hc=>by
   by_cases he:j=id
   ·subst he;exact h.jY i n j xs b1 o1 hi hv Gz hc
   ·simp only[m',he,br] at hj;exact h.jY i n j zs b1 o1 hi hj Gz hc}
theorem ix.TY(h:ix F γ m a w)(hv:m.var id=some xs)(hl:γ.ky id=some (b,o))(off:Nat)(rT:off+us.length<=xs.length):
 Ex γ γ m.tok m.tok w (w.setCells b (o+off) us):=by
 obtain⟨b',o',h1,_,_,h5⟩:=h.vars id xs hv
 rw[h1] at hl;cases hl
 exact⟨.setCells b (o+off) us (fun _ _ h=>h) (fun j hj=>by
  have:=(h5 (off+j) (by omega)).1
  rwa[show o+off+j=o+(off+j) by omega]),fun _ _ h=>h,fun _ _ h=> .inl ⟨h,rfl⟩⟩
variable{i:Nat}
theorem ix.Yf(h:ix F γ m a w){k:Nat}(hi:m.tok i=some n)(hc:(γ.tk i).cap≠n)(hb:(γ.tk i).cF=some ⟨b,0,none⟩)(us:List Value)(TG:us.length=k*(γ.tk i).sz)(oS:n+k<=(γ.tk i).cap)(hk:0<k):
 let γ':Gh:={γ with fr:=fun b' o=>γ.fr b' o\/(b'=b/\o<(n+k)*(γ.tk i).sz/\n*(γ.tk i).sz<=o)}
 let m':Mem:={m with tok:=fun j=>if j=i then some (n+k) else m.tok j}
 ix F γ' m' a (w.setCells b (n*(γ.tk i).sz) us)/\Ex γ γ' m.tok m'.tok w (w.setCells b (n*(γ.tk i).sz) us)/\w.there b (n*(γ.tk i).sz) us.length:=by
 intro γ' m'
 obtain⟨k1,k2⟩:=h.dE i n hi
 obtain⟨b',uV,Dq,⟨arr,e,jZ,TZ⟩,rS⟩:=k2.resolve_left hc
 rw[hb] at uV;cases uV
 have ajS:b<w.heap.size:=by
  rcases gq b w.heap.size with h|h
  ·exact h
  ·rw[uO h] at jZ;cases jZ
 have ajT:n*(γ.tk i).sz+us.length<=arr.size:=by
  rw[TG,<-yE]
  exact aZ (yI _ oS) TZ
 have jr:Ex γ γ' m.tok m'.tok w (w.setCells b (n*(γ.tk i).sz) us):=by
  refine⟨.setCells b _ us (fun _ _ h=> .inl h) (fun j hj=>rS _ (by omega)),fun _ _ h=>h,fun j l hj=> ?_⟩
  by_cases he:j=i
  ·subst he
   rw[hi] at hj;cases hj
   exact .inr ⟨n+k,by simp[m'],by omega⟩
  ·exact .inl ⟨by simp[m',he,hj],rfl⟩
 have hvb:∀id xs b1 o1,m.var id=some xs->γ.ky id=some (b1,o1)->b1≠b:=fun id xs b1 o1 hv hl he=>by
  have:=h.jY i n id xs b1 o1 hi hv hl hc
  rw[hb] at this
  exact this (by simp[he])
 refine⟨?_,jr,fun j hj=> ?_⟩
 ·exact {
   defers:=h.defers
   size:=h.size
   cF:=h.cF.setCells fun j hj=>Dq.Ko (by omega)
   sk:=fun b o hx=> .inl (h.sk b o hx)
   xb:=fun b1 o hx=>by
    rcases hx with hx|⟨rfl,_,hx⟩
    ·exact h.xb b1 o hx
    ·exact .inr (Dq.Ko hx)
   j9:=fun b1 o hx=>by
    rw[mC]
    rcases hx with hx|⟨rfl,_⟩
    ·exact h.j9 b1 o hx
    ·exact ajS
   fR:=fun j b o hx=>by rw[mC];exact h.fR j b o hx
   tmps:=fun t=>T.aE.mono jr _ _ (h.tmps t)
   gh:=fun x v n k hp=>⟨(h.gh x v n k hp).1,T.aE.mono (jr.lx _ _) _ _ (h.gh x v n k hp).2⟩
   vars:=fun id xs hv=>by
    obtain⟨b1,o1,h1,⟨vs,h2,h3⟩,h4,h5⟩:=h.vars id xs hv
    have jV:=hvb id xs b1 o1 hv h1
    refine⟨b1,o1,h1,⟨vs,h2.mono (fun x v=>V.aE.mono jr x v),World.rangeAt_setCells_apart h3 _ _ _ (.inl jV)⟩,World.there_setCells h4 _ _ _,fun j hj=>⟨fun hx=> ?_,(h5 j hj).2⟩⟩
    rcases hx with hx|⟨he,_⟩
    ·exact(h5 j hj).1 hx
    ·exact jV he
   gM:=h.gM
   d4:=h.d4
   h_:=h.h_
   dE:=fun j l hj=>by
    by_cases he:j=i
    ·subst he
     simp only[m',bu,av] at hj
     subst hj
     refine⟨oS, .inr ⟨b,hb,Dq.mono (yI _ (pL _ _)),?_,fun o ho hx=> ?_⟩⟩
     ·obtain⟨Az,g1,g2⟩:=qq b us (n*(γ.tk j).sz) w arr e (0,0) jZ
      exact⟨Az,e,g1,by rw[g2];exact TZ⟩
     ·rcases hx with hx|⟨_,hx,_⟩
      ·refine rS o (aZ (yI _ (by omega)) ho) hx
      ·exact absurd ho (Nat.not_le.2 hx)
    ·simp only[m',he,br] at hj
     obtain⟨k1',k2'⟩:=h.dE j l hj
     refine⟨k1',?_⟩
     by_cases hc':(γ.tk j).cap=l
     ·exact .inl hc'
     ·obtain⟨b2,uV,ajU,⟨afu,e2,T0,afv⟩,ajV⟩:=k2'.resolve_left hc'
      have jV:b2≠b:=fun hq=>by
       have:=h.eP j i l n he hj hi hc' hc
       rw[uV,hb] at this
       exact this (by simp[hq])
      refine .inr ⟨b2,uV,ajU,⟨afu,e2,by rw[oc _ _ _ _ _ jV];exact T0,afv⟩,fun o ho hx=> ?_⟩
      rcases hx with hx|⟨hq,_⟩
      ·exact ajV o ho hx
      ·exact jV hq
   eP:=fun j l x y Yg hj hl uM ly=>by
    have key:∀j x,m'.tok j=some x->(γ.tk j).cap≠x->∃x',m.tok j=some x'/\(γ.tk j).cap≠x':=fun j x hj uM=>by
     by_cases he:j=i
     ·subst he;exact⟨n,hi,hc⟩
     ·simp only[m',he,br] at hj;exact⟨x,hj,uM⟩
    obtain⟨x',a1,a2⟩:=key j x hj uM
    obtain⟨y',b1,b2⟩:=key l y hl ly
    exact h.eP j l x' y' Yg a1 b1 a2 b2
   jY:=fun j x id xs b1 o1 hj hv hl uM=>by
    by_cases he:j=i
    ·subst he;exact h.jY j n id xs b1 o1 hi hv hl hc
    ·simp only[m',he,br] at hj;exact h.jY j x id xs b1 o1 hj hv hl uM}
 ·have fO:n*(γ.tk i).sz+j<arr.size:=by omega
  constructor
  ·simp[World.cell?,jZ,fO]
  ·simp[World.frozen?,jZ]
variable{cap:Nat}
theorem ix.newRow(h:ix F γ m a w)(hb:Below w.heap.size w w'){n':Nat}(hi:m.tok i=none\/(m.tok i=some n/\n<n')){arr:Array Value}{e:TypeId}(jZ:w'.heap[w.heap.size]?=some (.cells arr e (0,0)))(oS:n'<=cap)(o9:cap*sz<=arr.size):
 let γ':Gh:={fr:=fun b o=>γ.fr b o\/(b=w.heap.size/\o<n'*sz),ky:=γ.ky,tk:=fun j=>if j=i then⟨some ⟨w.heap.size,0,none⟩,cap,sz⟩ else γ.tk j}
 let m':Mem:={m with tok:=fun j=>if j=i then some n' else m.tok j}
 ix F γ' m' a w'/\Ex γ γ' m.tok m'.tok w w':=by
 intro γ' m'
 have M_:w.heap.size<w'.heap.size:=by
  rcases gq w.heap.size w'.heap.size with h|h
  ·exact h
  ·rw[uO h] at jZ;cases jZ
 have hg:=(h.tE hb (yB:=γ'.fr) (fun _ _ h=> .inl h) (fun b o hx=>by
  rcases hx with hx|⟨rfl,_⟩
  ·exact .inl hx
  ·exact .inr ⟨aL _,M_⟩)).1
 have jr:Ex γ γ' m.tok m'.tok w w':=by
  refine⟨.j8 hb (fun _ _ h=> .inl h),fun _ _ h=>h,fun j l hj=> ?_⟩
  by_cases he:j=i
  ·subst he
   rcases hi with hi|⟨hi,fO⟩
   ·rw[hi] at hj;cases hj
   ·rw[hi] at hj;cases hj;exact .inr ⟨n',by simp[m'],fO⟩
  ·exact .inl ⟨by simp[m',he,hj],by simp[γ',he]⟩
 have T3:∀j x,j≠i->m.tok j=some x->(γ.tk j).cap≠x->(γ.tk j).cF.map (·.block)≠some w.heap.size:=fun j x _ hj hc jI=>by
  obtain⟨b2,uV,_,⟨afu,e2,T0,_⟩,_⟩:=(h.dE j x hj).2.resolve_left hc
  rw[uV] at jI
  simp at jI
  subst jI
  simp at T0
 refine⟨?_,jr⟩
 exact {
  defers:=h.defers
  size:=h.size
  cF:=hg.cF
  sk:=hg.sk
  xb:=hg.xb
  j9:=hg.j9
  fR:=hg.fR
  tmps:=fun t=>T.aE.mono jr _ _ (h.tmps t)
  gh:=fun x v n k hp=>⟨(h.gh x v n k hp).1,T.aE.mono (jr.lx _ _) _ _ (h.gh x v n k hp).2⟩
  vars:=fun id xs hv=>by
   obtain⟨b1,o1,h1,⟨vs,h2,h3⟩,h4,h5⟩:=hg.vars id xs hv
   obtain⟨b1',o1',Kr,⟨jQ,Yh,h3'⟩,_⟩:=h.vars id xs hv
   simp only at h1
   rw[h1] at Kr;cases Kr
   exact⟨b1,o1,h1,⟨jQ,Yh.mono (fun x v=>V.aE.mono jr x v),oJ h3' hb⟩,h4,h5⟩
  gM:=h.gM
  d4:=h.d4
  h_:=h.h_
  dE:=fun j l hj=>by
   by_cases he:j=i
   ·subst he
    simp only[m',bu,av] at hj
    subst hj
    refine⟨by simp[γ',oS], .inr ⟨w.heap.size,by simp[γ'], .inl h.cF.size,⟨arr,e,jZ,by simp[γ',o9]⟩,fun o ho hx=> ?_⟩⟩
    simp only[γ',bu] at ho hx
    rcases hx with hx|⟨_,hx⟩
    ·exact absurd (h.j9 _ _ hx) (Nat.lt_irrefl _)
    ·omega
   ·simp only[m',he,br] at hj
    obtain⟨k1,k2⟩:=hg.dE j l hj
    simpa[Dp,γ',he] using And.intro k1 k2
  eP:=fun j l x y Yg hj hl uM ly=>by
   by_cases he:j=i
   ·subst he
    have Ay:l≠j:=f_ Yg
    simp only[m',γ',Ay,br,bu] at hl ly ⊢
    intro jI
    exact T3 l y Ay hl ly (by rw[<-jI];rfl)
   ·by_cases B':l=i
    ·subst B'
     simp only[m',γ',he,br,bu] at hj uM ⊢
     intro jI
     exact T3 j x he hj uM (by rw[jI];rfl)
    ·simp only[m',γ',he,B',br] at hj hl uM ly ⊢
     exact h.eP j l x y Yg hj hl uM ly
  jY:=fun j x id xs b1 o1 hj hv hl uM=>by
   by_cases he:j=i
   ·subst he
    simp only[γ',bu,dw]
    intro jI
    simp at jI
    have:=h.fR id b1 o1 hl
    omega
   ·simp only[m',γ',he,br] at hj uM ⊢
    exact h.jY j x id xs b1 o1 hj hv hl uM}
theorem ix.AA(h:ix F γ m a w)(hb:Below w.heap.size w w')(gm:m.var id=none)(hx:bj (V.aE γ m.tok w) xs vs)(hr:w'.rangeAt w.heap.size 0 vs)(ht:w'.there w.heap.size 0 xs.length)(fO:w.heap.size<w'.heap.size):
 let γ':Gh:={γ with ky:=fun i=>if i=id then some (w.heap.size,0) else γ.ky i}
 let m':Mem:={m with var:=fun i=>if i=id then some xs else m.var i}
 ix F γ' m' a w'/\Ex γ γ' m.tok m.tok w w':=by
 intro γ' m'
 have uW:=h.gM id gm
 have jV:∀i p,γ.ky i=some p->i≠id:=fun i p hp he=>by rw[he,uW] at hp;cases hp
 have Gx:∀i xs,m.var i=some xs->i≠id:=fun i xs hv he=>by rw[he,gm] at hv;cases hv
 have jr:Ex γ γ' m.tok m.tok w w':=
  ⟨.j8 hb (fun _ _ h=>h),fun i p hp=>by show(if i=id then _ else _)=_;rw[aR (jV i p hp)];exact hp,fun _ _ h=> .inl ⟨h,rfl⟩⟩
 have hg:=(h.tE hb (yB:=γ.fr) (fun _ _ h=>h) (fun _ _ h=> .inl h)).1
 refine⟨?_,jr⟩
 exact {
  defers:=hg.defers
  size:=hg.size
  cF:=hg.cF
  sk:=hg.sk
  xb:=hg.xb
  j9:=hg.j9
  fR:=fun i b o hl=>by
   simp only[γ'] at hl
   split at hl
   ·cases hl;exact fO
   ·exact lT (h.fR i b o hl) hb.size
  tmps:=fun t=>T.aE.mono jr _ _ (h.tmps t)
  gh:=fun x v n k hp=>⟨(h.gh x v n k hp).1,T.aE.mono (jr.lx _ _) _ _ (h.gh x v n k hp).2⟩
  vars:=fun i ys hv=>by
   by_cases hi:i=id
   ·subst hi
    have:xs=ys:=by simpa[m'] using hv
    subst this
    refine⟨w.heap.size,0,by simp[γ'],⟨vs,hx.mono (fun x v=>V.aE.mono jr x v),hr⟩,ht,fun j hj=>⟨fun hf=> ?_, .inr ?_⟩⟩
    ·have:=h.j9 _ _ hf;omega
    ·exact h.cF.size
   ·have Kq:m.var i=some ys:=by simpa[m',hi] using hv
    obtain⟨b,o,h1,⟨jQ,h2,h3⟩,h4,h5⟩:=h.vars i ys Kq
    exact⟨b,o,by simp[γ',hi,h1],⟨jQ,h2.mono (fun x v=>V.aE.mono jr x v),oJ h3 hb⟩,uU h4 hb,h5⟩
  gM:=fun i hi=>by
   by_cases he:i=id
   ·subst he;simp[m'] at hi
   ·simp[m',he] at hi;simp[γ',he,h.gM i hi]
  d4:=fun k p hk=>by
   have h1:=h.d4 k p hk
   simp only[γ']
   rw[aR (jV k p h1)]
   exact h1
  h_:=fun i j ys zs b o b' o' pj hi hj hl Ay=>by
   by_cases he:i=id
   ·subst he
    have hje:j≠i:=f_ pj
    simp only[m',γ',hje,br,bu,av,aY] at hi hj hl Ay
    obtain⟨rfl,rfl⟩:=hl
    left;have:=h.fR j b' o' Ay;omega
   ·by_cases B':j=id
    ·subst B'
     simp only[m',γ',he,br,bu,av,aY] at hi hj hl Ay
     obtain⟨rfl,rfl⟩:=Ay
     left;have:=h.fR i b o hl;omega
    ·simp only[m',γ',he,B',br] at hi hj hl Ay
     exact h.h_ i j ys zs b o b' o' pj hi hj hl Ay
  dE:=hg.dE
  eP:=hg.eP
  jY:=fun i n j ys b o hi hj hl hc=>by
   by_cases he:j=id
   ·subst he
    simp only[γ',bu,av,aY] at hl
    obtain⟨rfl,rfl⟩:=hl
    obtain⟨_,h2⟩:=h.dE i n hi
    rcases h2 with h2|⟨b',uV,_,⟨arr,e,jZ,_⟩,_⟩
    ·exact absurd h2 hc
    ·rw[show(γ'.tk i).cF=some ⟨b',0,none⟩ from uV]
     intro jI
     simp at jI
     subst jI
     simp at jZ
   ·simp only[m',γ',he,br] at hj hl
    exact h.jY i n j ys b o hi hj hl hc}
open Go.RowKit
inductive A where
 |c (x:C)
 |agg (xs:List C)
 |imp (k:Nat)
 |nil
 |top (sz:Nat) (es:List (List C))
 deriving Inhabited
inductive au where
 |c (x:C)
 |agg (xs:List C)
 |top (sz:Nat) (es:List (List C))
 deriving Inhabited
structure uN where
 dst:T
 nv:Option (List V):=none
 uv:List (Nat×List V):=[]
 ut:List (Nat×Nat):=[]
 rv:List Nat:=[]
 rt:List Nat:=[]
 al:Bool:=false
 pv:Option (Nat×Nat×List V):=none
 deriving Inhabited
def kH(off:Nat)(ks xs:List V):List V:=if off+ks.length<=xs.length then xs.take off++ks++xs.drop (off+ks.length) else xs
structure St where
 tmps:List T
 vars:List (List V)
 dE:List Nat
 deriving Inhabited
inductive dJ where
 |normal
 |exit (id:Nat)
 |ret
 deriving Inhabited,DecidableEq
inductive G where
 |b (v:Bool)
 |call (rs:List au) (ip:List (List C))
 |fF (j:Nat) (c:List C)
 |at(j:Nat)
 |look (n:Int) (b:Bool)
 |i7 (j:Nat) (x:UInt8)
 |cut (l h:Nat) (es:List (List C))
 |len (n:Nat)
 |str (ns:List Int)
 |app (es:List (List C))
 |ok
 |e (x:uN)
 |uX (ys:List V)
 |TH (j:Nat)
 |Kt (ys:List V)
 |uY (es:List (List C))
 |loop (x:dJ) (s:St)
 |un
 |Ie (Na:List (List (List C)))
 |inl (rs:List K) (vs:List (List V)) (ts:List Nat)
 deriving Inhabited
abbrev rU:=FuncId->List A->List (List C)->Option (List au×List (List C))
abbrev T4:=List K->List (List V)->List Nat->Option (List K×List (List V)×List Nat)
abbrev yN:=FuncId->List K->List (List V)->List Nat->Option (List K×List (List V)×List Nat)
abbrev yO:=FuncId->List K->List (List V)->List Nat->List G->Option ((List K×List (List V)×List Nat)×List G×List Prop)
structure lW where
 P:Program
 F:rU
 gl:Nat->Option (List C)
 tp:FuncId->Bool
 vs:Nat->Nat->Bool
 il:FuncId->Bool
 cl:FuncId->Option Nat
 I:yN
 J:yO
def GA:Value->Bool| .int _ _=>true|_=>false
def Nb:Value->Bool
 | .bool _| .int _ _| .string _| .pointer none| .nilFunc| .nilIface| .map none=>true
 |_=>false
def ofValue:Value->Option V
 | .slice none 0 0=>some (.cX 0 [] .exact)
 |v=>if Nb v then some (.c (.raw v)) else none
def yP:Value->Option K
 | .agg cs=>(cs.toList.mapM ofValue).map .agg
 |v=>(ofValue v).map .v
def K.cells:K->List V
 | .v x=>[x]
 | .agg xs=>xs
def V.GB:V->Option C
 | .c x=>some x
 | .cX sz es _=>some (.slice sz es)
 |_=>none
def T.cell? :T->Option V
 | .k (.v x)=>some x
 |_=>none
def T.k?(t:T):Option K:=
 match t with
 | .k x=>some x
 |_=>none
def T.rV:T->Option Value
 | .k (.v (.c (.raw x)))=>some x
 |_=>none
def T.rW(t:T):Option (IntKind×Int):=
 match t.rV with
 |some (.int q n)=>some (q,n)
 |_=>none
def T.yQ(t:T):Option Bool:=
 match t.rV with
 |some (.bool b)=>some b
 |_=>none
def T.pure(v:Value):T:= .k (.v (.c (.raw v)))
def ny(P:Program)(t:TypeId):Option Bool:=(P.underlying t).map (·.isRow)
def AB(P:Program)(t:TypeId)(xs:List V):Option K:=
 match ny P t with
 |some true=>if P.cellsOf t<=xs.length then some (.agg (xs.take (P.cellsOf t))) else none
 |some false=>xs.head?.map .v
 |none=>none
def lW.ev(E:lW)(m:Mem):Operand->T
 | .tmp t=>m.tmp t
 | .const v=>match yP v with|some k=> .k k|none=> .bf
 | .global g=>match E.gl g with|some cs=> .k (.v (.c (.fJ cs)))|none=> .bf
 | .func f=> .k (.v (.PB f []))
def Du(k:IntKind)(x y:Int)(f:BitVec k.bits->BitVec k.bits->BitVec k.bits):Value:=
 .int k (k.wrap (f (BitVec.ofInt k.bits x) (BitVec.ofInt k.bits y)).toNat)
def AC(op:BinOp)(k:IntKind)(a b:Int):Option Value:=
 match op with
 | .add=>some (.int k (k.wrap (a+b)))
 | .sub=>some (.int k (k.wrap (a-b)))
 | .mul=>some (.int k (k.wrap (a*b)))
 | .quo=>if b=0 then none else some (.int k (k.wrap (a.tdiv b)))
 | .rem=>if b=0 then none else some (.int k (a.tmod b))
 | .and=>some (Du k a b (· &&& ·))
 | .or=>some (Du k a b (· ||| ·))
 | .xor=>some (Du k a b (· ^^^ ·))
 | .andNot=>some (Du k a b (fun x y=>x&&&~~~y))
 | .eql=>some (.bool (a==b))
 | .neq=>some (.bool (a !=b))
 | .lss=>some (.bool (decide (a<b)))
 | .leq=>some (.bool (decide (a<=b)))
 | .gtr=>some (.bool (decide (a>b)))
 | .geq=>some (.bool (decide (a>=b)))
 |_=>none
def qr(op:BinOp)(k:IntKind)(a b:Int):Option Value:=
 if b<0 then none else
 match op with
 | .shl=>some (.int k (k.wrap (a*2 ^ (min b.toNat k.bits))))
 | .shr=>some (.int k (a.fdiv (2 ^ (min b.toNat k.bits))))
 |_=>none
def Dv(op:BinOp)(a b:ByteArray):Option Value:=
 match op with
 | .add=>if a.size+b.size<=9223372036854775807 then some (.string (a++b)) else none
 | .eql=>some (.bool (a==b))
 | .neq=>some (.bool (!(a==b)))
 |_=>none
def uZ(op:BinOp)(x y:Value):Option Value:=
 match x,y with
 | .int k a, .int k' b=>
   match op with
   | .shl| .shr=>qr op k a b
   |_=>if k=k' then AC op k a b else none
 | .string a, .string b=>Dv op a b
 |_,_=>none
def od(P:Program):Nat->TypeId->List Value->List Value->Option Bool
 |0,_,_,_=>none
 |f+1,t,xs,ys=>
  match P.underlying t with
  |some .bool=>match xs,ys with|[.bool a],[.bool b]=>some (a==b)|_,_=>none
  |some (.int _)=>match xs,ys with|[.int k a],[.int k' b]=>if k=k' then some (a==b) else none|_,_=>none
  |some .string=>match xs,ys with|[.string a],[.string b]=>some (a==b)|_,_=>none
  |some (.struct fs)=>
   if P.stoodInHeld t then none else
   fs.toList.foldr (fun g o_=>
    if g.name= "_" then none else
    match od P f g.type ((xs.drop g.offset).take (P.cellsOf g.type)) ((ys.drop g.offset).take (P.cellsOf g.type)),o_ with
    |some a,some b=>some (a&&b)
    |_,_=>none) (some true)
  |some (.array n e)=>
   if(P.info? e).isNone then none else
   (List.range n).foldr (fun i o_=>
     match od P f e ((xs.drop (i*P.cellsOf e)).take (P.cellsOf e)) ((ys.drop (i*P.cellsOf e)).take (P.cellsOf e)),o_ with
     |some a,some b=>some (a&&b)
     |_,_=>none) (some true)
  |_=>none
def V.rV:V->Option Value
 | .c (.raw v)=>some v
 |_=>none
def T5(P:Program)(op:BinOp)(t:TypeId)(x y:T):Option T:=
 match x,y with
 | .k (.v (.c (.raw a))), .k (.v (.c (.raw b)))=>
   match a,b with
   | .bool p, .bool q=>
     match op,P.underlying t with
     | .eql,some .bool=>some (.pure (.bool (p==q)))
     | .neq,some .bool=>some (.pure (.bool (!(p==q))))
     |_,_=>none
   |a,b=>(uZ op a b).map .pure
 | .k (.agg xs), .k (.agg ys)=>
   match xs.mapM V.rV,ys.mapM V.rV with
   |some as,some bs=>
    if P.eqGuardType P.depth t=true\/ny P t≠some true then none else
    match od P 100 t as bs with
    |some r=>
     match op with
     | .eql=>some (.pure (.bool r))
     | .neq=>some (.pure (.bool (!r)))
     |_=>none
    |none=>none
   |_,_=>none
 |_,_=>none
def unT(op:UnOp)(x:T):Option T:=
 match op,x.rV with
 | .not,some (.bool b)=>some (.pure (.bool (!b)))
 | .neg,some (.int k n)=>some (.pure (.int k (k.wrap (0-n))))
 |_,_=>none
def Nc(P:Program)(t:TypeId)(x:T):Option T:=
 match P.underlying t with
 |some (.interface _)=>none
 |none=>none
 |some _=>match x with
  | .k (.v (.fX id off))=>some (.k (.v (.ifp t id off)))
  | .k (.v (.c (.raw v)))=>some (.pure (.iface t v))
  | .k (.agg xs)=>(xs.mapM V.rV).map fun vs=> .pure (.iface t (.agg vs.toArray))
  |_=>none
def T.AD:T->Option Bool
 | .k (.v (.c (.raw .nilIface)))=>some false
 | .k (.v (.c (.raw (.iface _ _))))=>some true
 | .k (.v (.ifp _ _ _))=>some true
 |_=>none
def u3(P:Program)(op:BinOp)(t:TypeId)(x:T)(y:Operand):Option T:=
 match y with
 | .const .nilIface=>
   match P.underlying t,x.AD with
   |some (.interface _),some b=>match op with
    | .eql=>some (.pure (.bool (!b)))
    | .neq=>some (.pure (.bool b))
    |_=>none
   |_,_=>none
 |_=>none
def dc(ns:List Int):ByteArray:=ns.foldl (fun r n=>r.push (UInt8.ofNat n.toNat)) ByteArray.empty
def tF:List (List C)->Option (List Int)
 |[]=>some []
 |[.raw (.int .u8 n)]::r=>(tF r).map (n:: ·)
 |_::_=>none
def GC(P:Program)(iY dst:TypeId)(x:T):Option (List (List C)):=
 match P.underlying iY,P.underlying dst,x with
 |some (.slice e),some .string, .k (.v (.c (.slice sz es)))=>match P.underlying e with|some (.int .u8)=>if sz=1\/es=[] then some es else none|_=>none
 |some (.slice e),some .string, .k (.v (.cX sz es _))=>match P.underlying e with|some (.int .u8)=>if sz=1\/es=[] then some es else none|_=>none
 |_,_,_=>none
def GD(P:Program)(iY dst:TypeId)(x:T):Option T:=
 match GC P iY dst x with
 |some es=>(tF es).map fun ns=> .pure (.string (dc ns))
 |none=>
 match P.underlying iY,P.underlying dst,x.rV with
 |some _,some (.int k),some (.int _ n)=>some (.pure (.int k (k.wrap n)))
 |some _,some .string,some (.string s)=>some (.pure (.string s))
 |_,_,_=>none
def Ku(Bo:Nat->Option (Nat×Nat)):List V->List (Nat×T)->Option (List V)
 |cells,[]=>some cells
 |cells,(i,x)::rX=>
  match Bo i,x.k? with
  |some (off,size),some k=>
   if k.cells.length=size/\off+size<=cells.length then Ku Bo (cells.take off++k.cells++cells.drop (off+size)) rX else none
  |_,_=>none
def Kv(P:Program)(t:TypeId):Option (Nat->Option (Nat×Nat)):=
 match P.underlying t with
 |some (.struct fs)=>if fs.toList.all (fun f=>(P.info? f.type).isSome) then some fun i=>(fs[i]?).map fun f=>(f.offset,P.cellsOf f.type) else none
 |some (.array _ e)=>if(P.info? e).isSome then some fun i=>some (i*P.cellsOf e,P.cellsOf e) else none
 |_=>none
def AE(P:Program):Nat->TypeId->List Nat
 |0,_=>[]
 |f+1,t=>match P.underlying t with
  |some (.slice e)=>[P.cellsOf e]
  |some (.struct fs)=>fs.toList.flatMap fun g=>AE P f g.type
  |some (.array n e)=>(List.replicate n (AE P f e)).flatten
  |_=>List.replicate (P.cellsOf t) 0
def V.fit(sz:Nat):V->V
 | .cX 0 [] .exact=> .cX sz [] .exact
 |v=>v
def V.afx:V->Bool
 | .cX 0 [] .exact=>true
 |_=>false
def T6:List Nat->List V->List V
 |s::ss,v::vs=>v.fit s::T6 ss vs
 |_,vs=>vs
def AF(P:Program)(t:TypeId)(xs:List V):List V:=if xs.any V.afx then T6 (AE P 20 t) xs else xs
def abI(P:Program)(t:TypeId)(x:V):V:=
 match x with
 | .cX 0 [] .exact=>match P.underlying t with|some (.slice e)=> .cX (P.cellsOf e) [] .exact|_=>x
 |_=>x
def Kw(P:Program)(t:TypeId):T->T
 | .k (.v x)=> .k (.v (abI P t x))
 | .k (.agg xs)=> .k (.agg (AF P t xs))
 |x=>x
def nA(P:Program):List TypeId->List T->List T
 |t::ts, .k (.agg xs)::r=> .k (.agg (AF P t xs))::nA P ts r
 |_::ts,x::r=>x::nA P ts r
 |_,r=>r
def Dw(P:Program)(t:TypeId)(ps:List (Nat×T)):List (Nat×T):=ps.map fun p=>(p.1,Kw P t p.2)
def Nf(P:Program)(t:TypeId):TypeId:=match P.underlying t with|some (.slice e)=>e|_=>0
def u4(P:Program)(t:TypeId):Option (List V):=
 match(P.info? t).bind (·.zero) with
 |some z=>(yP z).map fun k=>AF P t k.cells
 |none=>none
def Ng(P:Program)(t:TypeId)(parts:List (Nat×T)):Option T:=
 match u4 P t,Kv P t with
 |some z,some Bo=>(Ku Bo z parts).map fun cs=> .k (.agg (AF P t cs))
 |_,_=>none
def Kx(size len:Nat):List (List C)->List (Nat×T)->Option (List (List C))
 |es,[]=>some es
 |es,(i,x)::rX=>
  match x.k? with
  |some k=>match k.cells.mapM V.GB with
   |some e=>if e.length=size/\i<len then Kx size len (es.set i e) rX else none
   |none=>none
  |none=>none
def Dx(P:Program)(t:TypeId)(len:Nat)(parts:List (Nat×T)):Option T:=
 match P.underlying t with
 |some (.slice e)=>
  match u4 P e with
  |some z=>match z.mapM V.GB with
   |some z=>
    if z.length=P.cellsOf e/\0<P.cellsOf e/\len*P.cellsOf e<=16777216 then
     (Kx (P.cellsOf e) len (List.replicate len z) parts).map fun es=> .k (.v (.cX (P.cellsOf e) es .exact))
    else none
   |none=>none
  |none=>none
 |_=>none
def Cu(P:Program)(s:TypeId)(i:Nat):Option Field:=
 match P.underlying s with
 |some (.struct fs)=>fs[i]?
 |_=>none
def xC(P:Program)(s:TypeId)(x:T)(i:Nat):Option T:=
 match Cu P s i,x.cell? with
 |some f,some (.fX id off)=>if P.cellsOf f.type=0 then none else some (.k (.v (.fX id (off+f.offset))))
 |some f,some (.c (.fJ cells))=>if P.cellsOf f.type=0 then none else some (.k (.v (.c (.fJ (cells.drop f.offset)))))
 |_,_=>none
def Ky(P:Program)(t:TypeId)(xs:List V)(off:Nat):Option T:=
 match ny P t with
 |some true=>if off+P.cellsOf t<=xs.length then some (.k (.agg ((xs.drop off).take (P.cellsOf t)))) else none
 |some false=>(xs[off]?).map fun x=> .k (.v x)
 |none=>none
def Nh(P:Program)(s:TypeId)(x:T)(i:Nat):Option T:=
 match Cu P s i,x with
 |some f, .k (.agg xs)=>Ky P f.type xs f.offset
 |_,_=>none
def rn(i:T)(n:Nat):Option Nat:=
 match i.rW with
 |some (_,i)=>if 0<=i/\i<n then some i.toNat else none
 |none=>none
def V.lj:V->Option (Nat×List (List C))
 | .c (.slice sz es)=>some (sz,es)
 | .cX sz es _=>some (sz,es)
 |_=>none
def oe(P:Program)(t:TypeId)(x i:T):Option T:=
 match P.underlying t with
 |some (.array n e)=>
  if(P.info? e).isNone then none else
  match x.cell? with
  |some (.fX id off)=>(rn i n).map fun j=> .k (.v (.fX id (off+j*P.cellsOf e)))
  |some (.c (.fJ cells))=>(rn i n).map fun j=> .k (.v (.c (.fJ (cells.drop (j*P.cellsOf e)))))
  |_=>none
 |some (.slice e)=>
  if(P.info? e).isNone then none else
  match x.cell? with
  |some (.sC id off sz n)=>if sz=P.cellsOf e then(rn i n).map fun j=> .k (.v (.fX id (off+j*sz))) else none
  |some v=>
   match v.lj with
   |some (sz,es)=>
    if sz=P.cellsOf e then
     match rn i es.length with
     |some j=>match es[j]? with|some c=>some (.k (.v (.c (.fJ c))))|none=>none
     |none=>none
    else none
   |none=>none
  |none=>none
 |_=>none
def Dy(P:Program)(t:TypeId)(x i:T):Option T:=
 match P.underlying t,x with
 |some (.array n e), .k (.agg xs)=>match rn i n with|some j=>Ky P e xs (j*P.cellsOf e)|none=>none
 |some .string, .k (.v (.c (.raw (.string s))))=>
  match rn i s.size with
  |some j=>match s[j]? with|some b=>some (.pure (.int .u8 b.toNat))|none=>none
  |none=>none
 |_,_=>none
def qt(x:Option T)(d top:Nat):Option Nat:=
 match x with
 |none=>some d
 |some x=>match x.rW with
  |some (_,i)=>if 0<=i/\i<=top then some i.toNat else none
  |none=>none
def Dz(P:Program)(t:TypeId)(x:T)(lo hi mx:Option T):Option T:=
 match P.underlying t,x.cell? with
 |some .string,some (.c (.raw (.string s)))=>
  match mx with
  |some _=>none
  |none=>match qt hi s.size s.size with
   |some h=>match qt lo 0 h with
    |some l=>some (.pure (.string (s.extract l h)))
    |none=>none
   |none=>none
 |some (.slice e),some v=>
  match v.lj with
  |some (sz,es)=>
   if(sz=P.cellsOf e\/es=[])/\(P.info? e).isSome=true then
    match mx with
    |some m=>
     match hi with
     |some h=>
      match m.rW,h.rW,qt lo 0 es.length with
      |some (_,p),some (_,q),some l=>if p=q/\p=(l:Int) then some (.k (.v (.cX (P.cellsOf e) [] .exact))) else none
      |_,_,_=>none
     |none=>none
    |none=>match qt hi es.length es.length with
     |some h=>match qt lo 0 h with
      |some l=>
       match v,hi with
       | .cX _ _ .exact,none=>some (.k (.v (.cX (P.cellsOf e) (es.drop l) .exact)))
       |_,_=>some (.k (.v (.c (.slice (P.cellsOf e) ((es.take h).drop l)))))
      |none=>none
     |none=>none
   else none
  |none=>none
 |some (.array n e),some (.fX id off)=>
  match mx,qt hi n n with
  |none,some h=>match qt lo 0 h with
   |some l=>if 0<P.cellsOf e/\l<n then some (.k (.v (.sC id (off+l*P.cellsOf e) (P.cellsOf e) (h-l)))) else none
   |none=>none
  |_,_=>none
 |_,_=>none
def u5(x:T):Option (C ⊕ (Nat×Nat)):=
 match x.cell? with
 |some (.fX id off)=>some (.inr (id,off))
 |some v=>(v.GB).map .inl
 |none=>none
def T7(P:Program)(t:TypeId)(x:T):Option T:=
 match P.underlying t,x with
 |some .string, .k (.v (.c (.raw (.string s))))=>some (.pure (.int .i64 s.size))
 |some (.array n _), .k _=>some (.pure (.int .i64 n))
 |some (.slice _), .k (.v (.sC _ _ _ n))=>some (.pure (.int .i64 n))
 |some (.slice _), .k (.v v)=>match v.lj with|some (_,es)=>some (.pure (.int .i64 es.length))|none=>none
 |some (.map _ _), .k (.v (.c (.map es)))=>some (.pure (.int .i64 es.length))
 |_,_=>none
def AG(mn:Bool)(x:T):List T->Option T
 |[]=>some x
 |y::ys=>match x.rW,y.rW with
  |some (k,a),some (k',b)=>if k=k' then AG mn (.pure (.int k (if mn then(if b<a then b else a) else(if b>a then b else a)))) ys else none
  |_,_=>none
def GE(q:IntKind)(n:Int)(qv:IntKind):List (Value×Value)->Option (Int×Bool)
 |[]=>some (0,false)
 |(.int a m, .int b x)::r=>if a=q/\b=qv then(if n==m then some (x,true) else GE q n qv r) else none
 |_::_=>none
def DA(P:Program)(t:TypeId)(x i:T):Option (IntKind×Int×IntKind×List (Value×Value)):=
 match P.underlying t with
 |some (.map kt vt)=>
  match P.underlying kt,(P.info? vt).bind (·.zero),x.cell?,i.rV with
  |some (.int q),some (.int qv z),some (.c (.map es)),some (.int q' n)=>if q=q'/\z=0 then some (q,n,qv,es) else none
  |_,_,_,_=>none
 |_=>none
def Cv(qv:IntKind)(ok:Bool)(r:Int×Bool):T:=
 if ok then .Kk [.v (.c (.raw (.int qv r.1))), .v (.c (.raw (.bool r.2)))] else .pure (.int qv r.1)
def Cw(P:Program)(t:TypeId)(x i:T)(ok:Bool):Option T:=
 match DA P t x i with
 |some (q,n,qv,es)=>(GE q n qv es).map (Cv qv ok)
 |none=>none
def yR:Nat:=1073741824
def qu(P:Program)(t:TypeId)(x:T):Option (Nat×List (List C)):=
 match P.underlying t,x.cell? with
 |some (.slice _),some v=>v.lj
 |_,_=>none
def pR(P:Program)(m:Mem)(nt:Nat)(argTypes:List TypeId)(args:List T):Option uN:=
 match argTypes,args with
 |[t,tx],[s,x]=>
  match P.underlying t,s.cell?,qu P tx x with
  |some (.slice e),some (.cX sz es tk),some (wi,fs)=>
   match P.info? e with
   |some i=>
    if 0<i.size/\i.bytes<=131072/\i.zero.map (·.cells.size)=some i.size/\(sz=i.size\/es=[])/\(wi=i.size\/fs=[])/\es.length+fs.length<=yR then
     match tk with
     | .exact=>some {dst:= .k (.v (.cX i.size (es++fs) (.tok nt))),ut:=[(nt,(es++fs).length)]}
     | .tok j=>
       if sz=i.size/\m.tok j=some es.length then some {dst:= .k (.v (.cX sz (es++fs) (.tok j))),ut:=[(j,(es++fs).length)],rt:=[j]} else none
    else none
   |none=>none
  |_,_,_=>none
 |_,_=>none
def tG(P:Program)(nv:Nat)(argTypes:List TypeId)(args:List T):Option uN:=
 match argTypes,args with
 |[t,tx],[s,x]=>
  match P.underlying t,s.cell?,qu P tx x with
  |some (.slice e),some (.cX _ [] .exact),some (wi,fs)=>
   match P.info? e with
   |some i=>
    if 0<i.size/\i.bytes<=131072/\i.zero.map (·.cells.size)=some i.size/\wi=i.size/\0<fs.length/\fs.length<=yR then
     some {dst:= .k (.v (.sC nv 0 i.size fs.length)),nv:=some (fs.flatten.map .c)}
    else none
   |none=>none
  |_,_,_=>none
 |_,_=>none
def uz(E:lW)(o:Oper):Bool:=match o.dst with|some d=>E.vs d (3*o.type)|none=>false
def DB(P:Program)(vs:Bool)(nv:Nat)(t:TypeId)(l c:T):Option uN:=
 match P.underlying t,l.rW,c.rW with
 |some (.slice e),some (_,x),some (_,y)=>
  match(u4 P e).bind (·.mapM V.GB),P.info? e with
  |some z,some i=>
   if(z.length=P.cellsOf e/\0<P.cellsOf e/\i.bytes<=131072)/\y=x/\0<=x/\x<=(yR:Int) then
    (if vs=true then some {dst:= .k (.v (.sC nv 0 (P.cellsOf e) x.toNat)),nv:=some ((List.replicate x.toNat z).flatten.map .c)}
    else some {dst:= .k (.v (.cX (P.cellsOf e) (List.replicate x.toNat z) .exact))})
   else none
  |_,_=>none
 |_,_,_=>none
def yS(m:Mem)(id off:Nat):Option (List C):=
 match m.var id with
 |some xs=>(xs.drop off).mapM V.GB
 |none=>none
def pk(sz:Nat):Nat->List C->Option (List (List C))
 |0,_=>some []
 |n+1,cs=>if sz<=cs.length then(pk sz n (cs.drop sz)).map fun r=>cs.take sz::r else none
def uA(m:Mem):C ⊕ (Nat×Nat)->Option C
 | .inl x=>some x
 | .inr (id,off)=>(yS m id off).map .fJ
def qw:C ⊕ (Nat×Nat)->List Nat
 | .inl _=>[]
 | .inr (id,_)=>[id]
def V.toA:V->Option A
 | .cX 0 [] .exact=>some .nil
 |v=>v.GB.map .c
def gu(P:Program)(m:Mem):List TypeId->List T->Nat->Option (List A×List (Nat×Nat×List C)×List Nat)
 |[],[],_=>some ([],[],[])
 |t::ts,x::xs,k=>
  match x with
  | .k (.agg ys)=>
    match ys.mapM V.GB,gu P m ts xs k with
    |some cs,some (as,ls,rs)=>some (.agg cs::as,ls,rs)
    |_,_=>none
  | .k (.v (.fX id off))=>
    match P.underlying t,m.var id with
    |some (.pointer e),some ys=>
     if off+P.cellsOf e<=ys.length then
      match((ys.drop off).take (P.cellsOf e)).mapM V.GB,gu P m ts xs (k+1) with
      |some cs,some (as,ls,rs)=>some (.imp k::as,(id,off,cs)::ls,rs)
      |_,_=>none
     else none
    |_,_=>none
  | .k (.v (.sC id off sz n))=>
    match yS m id off with
    |some cs=>match pk sz n cs,gu P m ts xs k with
     |some es,some (as,ls,rs)=>some (.c (.slice sz es)::as,ls,id::rs)
     |_,_=>none
    |none=>none
  | .k (.v (.PB f dA))=>
    match dA.mapM (uA m),gu P m ts xs k with
    |some cs,some (as,ls,rs)=>some (.c (.fn f cs)::as,ls,dA.flatMap qw++rs)
    |_,_=>none
  | .k (.v v)=>
    match v.toA,gu P m ts xs k with
    |some c,some (as,ls,rs)=>some (c::as,ls,rs)
    |_,_=>none
  |_=>none
 |_,_,_=>none
def au.Rd:au->Bool
 | .c (.raw _)=>true
 |_=>false
def kP(nt:Nat):List au->List K×List (Nat×Nat)
 |[]=>([],[])
 | .c x::rs=>let(ks,ut):=kP nt rs;(.v (.c x)::ks,ut)
 | .agg xs::rs=>let(ks,ut):=kP nt rs;(.agg (xs.map .c)::ks,ut)
 | .top sz es::rs=>let(ks,ut):=kP (nt+1) rs;(.v (.cX sz es (.tok nt))::ks,(nt,es.length)::ut)
def Ca(ks:List K):T:=
 match ks with
 |[k]=> .k k
 |ks=> .Kk ks
def kz:List Nat->Bool
 |[]=>true
 |x::xs=>!xs.contains x&&kz xs
def pm(E:lW)(m:Mem)(nt:Nat)(g:FuncId)(extra:List C)(argTypes:List TypeId)(args:List T):Option uN:=
 match gu E.P m argTypes args 0 with
 |some (as,ls,rs)=>
  match E.F g (as++extra.map .c) (ls.map (·.2.2)) with
  |some (rp,ip)=>
   let r:=kP nt rp
   match ls,ip with
   |[],[]=>if rs.isEmpty||rp.all au.Rd then some {dst:=Ca r.1,ut:=r.2,rv:=rs} else some {dst:=Ca r.1,uv:=rs.map fun id=>(id,[]),ut:=r.2,rv:=rs}
   |[(id,off,cs)],[ds]=>
    match m.var id with
    |some ys=>if rs.isEmpty/\ds.length=cs.length then some {dst:=Ca r.1,uv:=[(id,ys.take off++ds.map .c++ys.drop (off+ds.length))],ut:=r.2,rv:=[id]} else none
    |none=>none
   |_,_=>none
  |none=>none
 |none=>none
def T.aaT:T->Bool
 | .k (.v (.cX _ _ (.tok _)))=>true
 |_=>false
def AH(m:Mem):List A->List T->Option (List A×Nat×Nat)
 |a::as,x::xs=>
  match x with
  | .k (.v (.cX sz es (.tok j)))=>if m.tok j=some es.length then some (.top sz es::as,j,es.length) else none
  |_=>(AH m as xs).map fun r=>(a::r.1,r.2)
 |_,_=>none
def kA(as:List A):Bool:=as.all fun a=>match a with| .top _ _=>false|_=>true
def u6(nt j n:Nat)(rp:List au):uN:={dst:=Ca (kP nt rp).1,ut:=(j,n+1)::(kP nt rp).2,rt:=[j]}
def tH(E:lW)(m:Mem)(nt:Nat)(g:FuncId)(extra:List C)(argTypes:List TypeId)(args:List T):Option uN:=
 match gu E.P m argTypes args 0 with
 |some (as,[],[])=>
  match AH m as args with
  |some (uH,j,n)=>
   match E.F g (uH++extra.map .c) [] with
   |some (rp,[])=>if j<nt then some (u6 nt j n rp) else none
   |_=>none
  |none=>none
 |_=>none
def sD(E:lW)(m:Mem)(nt:Nat)(g:FuncId)(extra:List C)(argTypes:List TypeId)(args:List T):Option uN:=
 if(E.tp g&&args.any T.aaT)=true then tH E m nt g extra argTypes args else pm E m nt g extra argTypes args
def V.T8:V->V
 | .cX sz es _=> .c (.slice sz es)
 |x=>x
def V.fT:V->List Nat
 | .sC id _ _ _=>[id]
 |_=>[]
def V.Ie(m:Mem):V->Option V
 | .sC id off sz n=>match(yS m id off).bind (pk sz n) with|some es=>some (.c (.slice sz es))|none=>none
 |x=>some x.T8
def T.still(m:Mem)(x:T):T:=
 match x with
 | .k (.v (.sC id off sz n))=>match(V.sC id off sz n).Ie m with|some y=> .k (.v y)|none=>x
 |x=>x
def T.fT:T->List Nat
 | .k (.v x)=>x.fT
 |_=>[]
def DC(E:lW)(o:Oper):Bool:=
 match o.op with
 | .store t a _=>match a with| .tmp a=>E.vs a (3*t+2)|_=>false
 |_=>false
def mD(m:Mem)(id off:Nat)(xs ks:List V):Option uN:=
 match ks.mapM (V.Ie m) with
 |some cs=>if(ks.flatMap V.fT).contains id then none else some {dst:= .skip,uv:=(id,xs.take off++cs++xs.drop (off+cs.length))::(ks.flatMap V.fT).map (fun i=>(i,[])),rv:=id::ks.flatMap V.fT}
 |none=>none
def pt(nv sz:Nat)(args:List T):Option uN:=
 match args with
 |[x]=>
  match x.cell? with
  |some v=>
   match v.lj with
   |some (wi,es)=>if wi=sz/\0<es.length/\es.length<=yR then some {dst:= .k (.v (.sC nv 0 sz es.length)),nv:=some (es.flatten.map .c)} else none
   |none=>none
  |none=>none
 |_=>none
def PD(m:Mem)(nv:Nat):Option (List (List V)):=(List.range nv).mapM m.var
def PE(m:Mem)(nt:Nat):Option (List Nat):=(List.range nt).mapM m.tok
def If{α:Type}:Nat->List α->List (Nat×α)
 |_,[]=>[]
 |i,x::r=>(i,x)::If (i+1) r
def abJ:C ⊕ (Nat×Nat)->K
 | .inl x=> .v (.c x)
 | .inr (id,off)=> .v (.fX id off)
def xD(rs:List K)(vs:List (List V))(ts:List Nat):uN:={dst:=Ca rs,uv:=If 0 vs,ut:=If 0 ts,rt:=List.range ts.length,al:=true}
def yT(E:lW)(m:Mem)(nv nt:Nat)(g:FuncId)(dA:List (C ⊕ (Nat×Nat)))(args:List T):Option uN:=
 match PD m nv,PE m nt,args.mapM T.k? with
 |some vs,some ts,some ks=>
  match E.I g (ks++dA.map abJ) vs ts with
  |some (rs,jQ,nX)=>if nv<=jQ.length/\nt<=nX.length then some (xD rs jQ nX) else none
  |none=>none
 |_,_,_=>none
def xg(E:lW)(m:Mem)(nv nt:Nat)(hit:Bool)(f:T)(tm:List TypeId)(args:List T):Option uN:=
 match f.cell? with
 |some (.PB g dA)=>if hit then(match E.cl g,dA with|some sz,[]=>pt nv sz args|_,_=>none) else if E.il g then yT E m nv nt g dA args else match dA with|[]=>sD E m nt g [] tm args|_=>none
 |some (.c (.fn g dA))=>if hit then(match E.cl g,dA with|some sz,[]=>pt nv sz args|_,_=>none) else if E.il g then yT E m nv nt g (dA.map .inl) args else sD E m nt g dA tm args
 |_=>none
def aA(E:lW)(m:Mem)(nv nt:Nat)(o:Oper):Option uN:=
 let ρ:=E.ev m
 match o.op with
 | .move x| .assign x=>some {dst:=match x with| .const _=>Kw E.P o.type (ρ x)|_=>ρ x}
 | .pick c a b=>match(ρ c).yQ with|some q=>some {dst:=if q then ρ a else ρ b}|none=>none
 | .alloc t=>match u4 E.P t with|some cs=>some {dst:= .k (.v (.fX nv 0)),nv:=some cs}|none=>none
 | .box _ x=>match(ρ x).k? with|some k=>some {dst:= .k (.v (.fX nv 0)),nv:=some k.cells}|none=>none
 | .build t parts=>(Ng E.P t (parts.toList.map fun(i,x)=>(i,ρ x))).map fun x=>{dst:=x}
 | .makeSlice t l c=>DB E.P (uz E o) nv t (ρ l) (ρ c)
 | .buildSlice t len parts=>(Dx E.P t len (Dw E.P (Nf E.P t) (parts.toList.map fun(i,x)=>(i,ρ x)))).map fun x=>{dst:=x}
 | .load t a=>
   match(ρ a).cell? with
   |some (.fX id off)=>match m.var id with
    |some xs=>(AB E.P t (xs.drop off)).map fun k=>{dst:= .k k,rv:=[id]}
    |none=>none
   |some (.c (.fJ cells))=>(AB E.P t (cells.map .c)).map fun k=>{dst:= .k k}
   |_=>none
 | .store t a x=>
   match(ρ a).cell?,(Kw E.P t (ρ x)).k? with
   |some (.fX id off),some k=>match m.var id with
    |some xs=>if k.cells.length=E.P.cellsOf t/\off+k.cells.length<=xs.length/\(E.P.info? t).isSome=true then
      if DC E o=true then mD m id off xs k.cells else
      some {dst:= .skip,uv:=[(id,xs.take off++k.cells++xs.drop (off+k.cells.length))],rv:=[id],pv:=some (id,off,k.cells)} else none
    |none=>none
   |_,_=>none
 | .nilCheck x=>
   match(ρ x).cell? with
   |some (.fX _ _)|some (.c (.fJ _))|some (.PB _ _)|some (.c (.fn _ _))=>some {dst:=ρ x}
   |_=>none
 | .binOp op t x y _=>match u3 E.P op t (ρ x) y with|some r=>some {dst:=r}|none=>(T5 E.P op t (ρ x) (ρ y)).map fun x=>{dst:=x}
 | .makeInterface t x=>(Nc E.P t (ρ x)).map fun x=>{dst:=x}
 | .unOp op _ x=>(unT op (ρ x)).map fun x=>{dst:=x}
 | .convert iY dst x=>(GD E.P iY dst ((ρ x).still m)).map fun y=>{dst:=y,rv:=(ρ x).fT}
 | .makeFunc (.func f) first dA=>if first.isEmpty then(dA.toList.mapM fun x=>u5 (ρ x)).map fun cs=>{dst:= .k (.v (.PB f cs))} else none
 | .slice t x lo hi mx=>(Dz E.P t (ρ x) (lo.map ρ) (hi.map ρ) (mx.map ρ)).map fun x=>{dst:=x}
 | .fieldAddr s x i=>(xC E.P s (ρ x) i).map fun x=>{dst:=x}
 | .field s x i=>(Nh E.P s (ρ x) i).map fun x=>{dst:=x}
 | .indexAddr t x i=>(oe E.P t (ρ x) (ρ i)).map fun x=>{dst:=x}
 | .index t x i=>(Dy E.P t (ρ x) (ρ i)).map fun x=>{dst:=x}
 | .lookup t x i ok=>(Cw E.P t (ρ x) (ρ i) ok).map fun x=>{dst:=x}
 | .extract x i=>match ρ x with| .Kk ks=>(ks[i]?).map fun k=>{dst:= .k k}|_=>none
 | .call {callee:= .builtin .len,args,argTypes}=>
   match argTypes.toList,args.toList with
   |t::_,[x]=>(T7 E.P t (ρ x)).map fun x=>{dst:=x}
   |_,_=>none
 | .call {callee:= .builtin .min,args,argTypes:=_}=>match args.toList with|x::xs=>(AG true (ρ x) (xs.map ρ)).map fun x=>{dst:=x}|[]=>none
 | .call {callee:= .builtin .max,args,argTypes:=_}=>match args.toList with|x::xs=>(AG false (ρ x) (xs.map ρ)).map fun x=>{dst:=x}|[]=>none
 | .call {callee:= .builtin .append,args,argTypes}=>if uz E o=true then tG E.P nv argTypes.toList (args.toList.map ρ) else pR E.P m nt argTypes.toList (args.toList.map ρ)
 | .call {callee:= .value f,args,argTypes}=>xg E m nv nt (uz E o) (ρ f) argTypes.toList (nA E.P argTypes.toList (args.toList.map ρ))
 |_=>none
open Go.RowKit
def St.mem(s:St):Mem:={tmp:=fun t=>s.tmps.getD t .skip,var:=fun i=>s.vars[i]?,tok:=fun i=>s.dE[i]?}
def ru:List (List V)->List (Nat×List V)->Option (List (List V))
 |vs,[]=>some vs
 |vs,(i,x)::r=>if i<vs.length then ru (vs.set i x) r else if i=vs.length then ru (vs++[x]) r else none
def pS:List Nat->List (Nat×Nat)->Option (List Nat)
 |ts,[]=>some ts
 |ts,(i,n)::r=>if i<ts.length then pS (ts.set i n) r else if i=ts.length then pS (ts++[n]) r else none
def St.apply(s:St)(d:Option Tmp)(e:uN):Option St:=
 match ru s.vars e.uv,pS s.dE e.ut with
 |some vs,some ts=>
  if(e.al&&e.nv.isNone)||vs.length==s.vars.length then
  let vs:=match e.nv with|some x=>vs++[x]|none=>vs
  match d with
  |some d=>if d<s.tmps.length then some ⟨s.tmps.set d e.dst,vs,ts⟩ else none
  |none=>some ⟨s.tmps,vs,ts⟩
  else none
 |_,_=>none
def oL(ops:Array Oper)(m:Mem)(o:Oper):Option Bool:=
 match o.guard with
 |none=>some true
 |some (j,m_)=>
  match(ops[j]?).bind (·.dst) with
  |none=>some false
  |some t=>match m.tmp t with
   | .skip=>some false
   |x=>match x.yQ with
    |some b=>some (b==m_)
    |none=>none
structure Touch where
 wt:Option Tmp
 rt:List Tmp
 wv:List Nat
 rv:List Nat
 wk:List Nat
 rk:List Nat
 al:Bool
 pw:Option (Nat×Nat×Nat)
 deriving Inhabited
def Touch.of(ops:Array Oper)(o:Oper)(nv:Nat)(e:uN):Touch:=
 match e.pv with
 |some (id,off,ks)=>{wt:=o.dst,rt:=o.looksAt ops,wv:=[],rv:=[],wk:=e.ut.map (·.1),rk:=e.rt,al:=e.al,pw:=some (id,off,ks.length)}
 |none=>{wt:=o.dst,rt:=o.looksAt ops,wv:=(if e.nv.isSome then[nv] else[])++e.uv.map (·.1),rv:=e.rv,wk:=e.ut.map (·.1),rk:=e.rt,al:=e.al,pw:=none}
def Re(xs ys:List Nat):Bool:=xs.any fun x=>ys.contains x
def Touch.part(x y:Touch):Bool:=
 (match x.pw with
   |some (i,o,n)=>y.wv.contains i||y.rv.contains i||(match y.pw with|some (j,p,k)=>i==j&&!(decide (o+n<=p)||decide (p+k<=o))|none=>false)
   |none=>false)||(match y.pw with|some (j,_,_)=>x.wv.contains j|none=>false)
def Touch.F0(x y:Touch):Bool:=
 (match x.wt with|some t=>y.rt.contains t||y.wt==some t|none=>false)||Re x.wv y.wv||Re x.wv y.rv||Re x.wk y.wk||Re x.wk y.rk||x.part y
def Touch.sF(x y:Touch):Bool:=(x.al||y.al)||(x.F0 y||y.F0 x)
def pu:List Oper->List Nat->List Nat
 |[],o_=>o_
 |o::r,o_=>pu r (o_++[o.after.foldl (fun s e=>if Region.binds .any e then s|||2 ^ e.on|||o_.getD e.on 0 else s) 0])
def u7(u9:List Nat)(x:Touch)(i:Nat):List Touch->Nat->Bool
 |[],_=>true
 |y::r,j=>(!x.sF y||(u9.getD j 0).testBit i)&&u7 u9 x i r (j+1)
def tI(u9:List Nat):List Touch->Nat->Bool
 |[],_=>true
 |x::r,i=>u7 u9 x i r (i+1)&&tI u9 r (i+1)
def yU(ops:List Oper):Bool:=ops.zipIdx.all fun(o,i)=>o.after.all fun e=>!Region.binds .any e||decide (e.on<i)
def tJ:uN:={dst:= .skip}
def oM(E:lW)(ops:Array Oper):List Oper->St->Option (St×List Touch)
 |[],s=>some (s,[])
 |o::rX,s=>
  match oL ops s.mem o with
  |none=>none
  |some q=>
   match(if q then aA E s.mem s.vars.length s.dE.length o else some tJ) with
   |none=>none
   |some e=>
    match s.apply o.dst e with
    |none=>none
    |some s'=>
     match oM E ops rX s' with
     |none=>none
     |some (s'',ts)=>some (s'',Touch.of ops o s.vars.length e::ts)
def qx(E:lW)(ops:Array Oper)(uI:Bool)(s:St):Option St:=
 match oM E ops ops.toList s with
 |none=>none
 |some (s',ts)=>if !uI||(tI (pu ops.toList []) ts 0&&yU ops.toList&&E.P.follows .mixedOrders) then some s' else none
structure bY where
 bJ:List Tmp:=[]
 AI:List (Tmp×Nat):=[]
 PF:List (Nat×Nat×Nat):=[]
 Kz:Option T4:=none
 deriving Inhabited
def c_:Code->Nat
 | .region id _ _=>id
 | .seq a _=>c_ a
 | .block _ b=>c_ b
 | .loop b=>c_ b
 |_=>0
def V.yM(n:Nat):V->Bool
 | .fX id _=>id<n
 | .ifp _ id _=>id<n
 | .sC id _ _ _=>id<n
 | .PB _ dA=>dA.all fun| .inr (id,_)=>decide (id<n)| .inl _=>true
 |_=>true
def V.lm(k:Nat):V->V
 | .cX sz es (.tok i)=>if i<k then .cX sz es (.tok i) else .c (.slice sz es)
 |x=>x
def K.cut(n k:Nat):K->Option K
 | .v x=>if x.yM n then some (.v (x.lm k)) else none
 | .agg xs=>if xs.all (V.yM n) then some (.agg (xs.map (V.lm k))) else none
def T.cut(n k:Nat):T->T
 | .k x=>match x.cut n k with|some y=> .k y|none=> .bf
 | .Kk ks=>match ks.mapM (K.cut n k) with|some ys=> .Kk ys|none=> .bf
 |t=>t
def St.cut(n k:Nat)(s:St):Option St:=
 if(s.vars.take n).all (fun xs=>xs.all (V.yM n)) then some ⟨s.tmps.map (T.cut n k),(s.vars.take n).map (fun xs=>xs.map (V.lm k)),s.dE.take k⟩ else none
def gG:List T->List Tmp->List T
 |ts,[]=>ts
 |ts,t::r=>gG (ts.set t .bf) r
def oN:List T->List Nat->List (Tmp×Nat)->List T×List Nat
 |ts,ks,[]=>(ts,ks)
 |ts,ks,(t,z)::r=>
  match ts.getD t .skip with
  | .k (.v (.cX sz es .exact))=>oN (ts.set t (.k (.v (.cX (if es.isEmpty then z else sz) es (.tok ks.length))))) (ks++[es.length]) r
  |_=>oN ts ks r
def pT:List (List V)->List Nat->List (Nat×Nat×Nat)->List (List V)×List Nat
 |vs,ks,[]=>(vs,ks)
 |vs,ks,(id,off,z)::r=>
  match vs[id]? with
  |some xs=>
   match xs[off]? with
   |some (.cX sz es .exact)=>pT (vs.set id (xs.set off (.cX (if es.isEmpty then z else sz) es (.tok ks.length)))) (ks++[es.length]) r
   |_=>pT vs ks r
  |none=>pT vs ks r
def St.head(h:bY)(s:St):St:=
 let(ts,ks):=oN s.tmps s.dE h.AI
 let(vs,ks):=pT s.vars ks h.PF
 ⟨gG ts h.bJ,vs,ks⟩
def yV(f:St->Option (dJ×St))(g:St->Option St):Nat->St->Option (dJ×St)
 |0,_=>none
 |n+1,s=>
  match f s with
  |some (.normal,s')=>match g s' with
   |some s''=>yV f g n s''
   |none=>none
  |r=>r
def cz(E:lW)(H:Nat->bY)(n:Nat):Code->St->Option (dJ×St)
 | .skip,s=>some (.normal,s)
 | .region _ ops uI,s=>match qx E ops uI s with|some s'=>some (.normal,s')|none=>none
 | .seq a b,s=>
   match cz E H n a s with
   |some (.normal,s')=>cz E H n b s'
   |r=>r
 | .cond c x y,s=>
   match(E.ev s.mem c).yQ with
   |some true=>cz E H n x s
   |some false=>cz E H n y s
   |none=>none
 | .block id b,s=>
   match cz E H n b s with
   |some (.exit i,s')=>if i=id then some (.normal,s') else some (.exit i,s')
   |r=>r
 | .loop b,s=>
   let h:=H (c_ b)
   let s1:=s.head h
   yV (fun s=>cz E H n b s) (fun s=>(s.cut s1.vars.length s1.dE.length).map fun s=>{s with tmps:=gG s.tmps h.bJ}) n s1
 | .exit id,s=>some (.exit id,s)
 | .ret,s=>some (.ret,s)
 |_,_=>none
def A.toT:A->T
 | .c x=> .k (.v (.c x))
 | .agg xs=> .k (.agg (xs.map .c))
 | .imp k=> .k (.v (.fX k 0))
 | .nil=> .k (.v (.cX 0 [] .exact))
 | .top sz es=> .k (.v (.cX sz es (.tok 0)))
def iN:List A->List Nat
 |[]=>[]
 | .top _ es::as=>es.length::iN as
 |_::as=>iN as
def yW(s:St):K->Option au
 | .v (.cX sz es .exact)=>some (.top sz es)
 | .v (.cX sz es (.tok i))=>if s.dE[i]?=some es.length then some (.top sz es) else some (.c (.slice sz es))
 | .v x=>x.GB.map .c
 | .agg xs=>(xs.mapM V.GB).map .agg
def xE(P:Program)(s:St):ResultVar->Option K
 | .tmp t=>match s.tmps.getD t .skip with| .k x=>some x|_=>none
 | .cell t ty=>
   match s.tmps.getD t .skip with
   | .k (.v (.fX id off))=>match s.vars[id]? with|some xs=>AB P ty (xs.drop off)|none=>none
   |_=>none
def V.still(s:St)(nl:Nat):V->V
 | .sC id off sz n=>if nl<=id then match(yS s.mem id off).bind (pk sz n) with|some es=> .c (.slice sz es)|none=> .sC id off sz n else .sC id off sz n
 |x=>x
def K.still(s:St)(nl:Nat):K->K
 | .v x=> .v (x.still s nl)
 | .agg xs=> .agg (xs.map (V.still s nl))
def px:List K->List Nat
 |[]=>[]
 | .v (.cX _ _ (.tok i))::r=>i::px r
 |_::r=>px r
def yX(P:Program)(s:St)(nl:Nat)(rs:List ResultVar):Option (List au):=
 match rs.mapM (xE P s) with
 |some ks=>if kz (px (ks.map (K.still s nl))) then(ks.map (K.still s nl)).mapM (yW s) else none
 |none=>none
def wj(s:St):Nat->Nat->Option (List (List C))
 |0,_=>some []
 |n+1,k=>
  match s.vars[k]?,wj s n (k+1) with
  |some xs,some r=>match xs.mapM V.GB with|some cs=>some (cs::r)|none=>none
  |_,_=>none
def start(fn:Func)(as:List A)(ip:List (List C)):St:=
 {tmps:=as.map A.toT++List.replicate (fn.ntmps-as.length) .skip,vars:=ip.map (fun cs=>cs.map .c),dE:=iN as}
def AJ(E:lW)(H:Nat->bY)(n:Nat)(fn:Func)(as:List A)(ip:List (List C)):Option (List au×List (List C)):=
 match fn.body with
 |none=>none
 |some c=>
  match cz E H n c (start fn as ip) with
  |some (e,s)=>
   if(e= .normal\/e= .ret)/\ip.all (fun cs=>!cs.isEmpty)=true/\(iN as).length<=1 then
    match yX E.P s ip.length fn.results.toList,wj s ip.length 0 with
    |some rs,some r=>if r.map List.length=ip.map List.length then some (rs,r) else none
    |_,_=>none
   else none
  |none=>none
def DD(fn:Func)(ks:List K)(vs:List (List V))(ts:List Nat):St:=
 {tmps:=ks.map .k++List.replicate (fn.ntmps-ks.length) .skip,vars:=vs,dE:=ts}
def tK(E:lW)(H:Nat->bY)(n:Nat)(fn:Func)(ks:List K)(vs:List (List V))(ts:List Nat):Option (List K×List (List V)×List Nat):=
 match fn.body with
 |none=>none
 |some c=>
  match cz E H n c (DD fn ks vs ts) with
  |some (e,s)=>
   if e= .normal\/e= .ret then
    match fn.results.toList.mapM (xE E.P s) with
    |some rs=>some (rs,s.vars,s.dE)
    |none=>none
   else none
  |none=>none
open Go.RowKit
def rY(Fr:Nat->Nat->Prop)(w:World)(cs:List C)(p:Nat×Nat):Prop:=
 (∃vs:List Value,bj (C.aE Fr w) cs vs/\w.rangeAt p.1 p.2 vs)/\w.there p.1 p.2 cs.length/\∀j,j<cs.length->¬Fr p.1 (p.2+j)
def A.aE(Fr:Nat->Nat->Prop)(w:World)(gK:List (Nat×Nat)):A->Value->Prop
 | .c x,v=>x.aE Fr w v
 | .agg xs,v=>∃vs:List Value,v= .agg vs.toArray/\bj (C.aE Fr w) xs vs
 | .imp k,v=>∃b o,gK[k]?=some (b,o)/\v= .pointer (some ⟨b,o,none⟩)
 | .nil,v=>∃a,v= .slice a 0 0
 | .top sz es,v=>(C.slice sz es).aE Fr w v/\∃cF cap,v= .slice cF es.length cap/\es.length<=cap/\(cap=es.length\/∃b,cF=some ⟨b,0,none⟩/\(∀p∈gK,p.1≠b)/\
     (∃arr e,w.heap[b]?=some (.cells arr e (0,0))/\cap*sz<=arr.size)/\∀o,es.length*sz<=o->¬Fr b o)
def afy(Fr:Nat->Nat->Prop)(N:Nat->Nat->Prop)(w:World)(sz n:Nat)(v:Value):Prop:=
 ∃cF cap,v= .slice cF n cap/\n<=cap/\(cap=n\/∃b,cF=some ⟨b,0,none⟩/\N b (n*sz)/\(∃arr e,w.heap[b]?=some (.cells arr e (0,0))/\cap*sz<=arr.size)/\∀o,n*sz<=o->¬Fr b o)
def au.aE(Fr:Nat->Nat->Prop)(N:Nat->Nat->Prop)(w:World):au->Value->Prop
 | .c x,v=>x.aE Fr w v
 | .agg xs,v=>∃vs:List Value,v= .agg vs.toArray/\bj (C.aE Fr w) xs vs
 | .top sz es,v=>(C.slice sz es).aE Fr w v/\afy Fr N w sz es.length v
theorem au.aE.mono{N N':Nat->Nat->Prop}(hN:∀b lo,N b lo->N' b lo){r:au}(h:r.aE Fr N w v):r.aE Fr N' w v:=by
 cases r with
 |c x=>exact h
 |agg xs=>exact h
 |top sz es=>
  obtain⟨h1,cF,cap,h2,h3,h4⟩:=h
  refine⟨h1,cF,cap,h2,h3,?_⟩
  rcases h4 with h4|⟨b,h5,h6,h7⟩
  ·exact .inl h4
  ·exact .inr ⟨b,h5,hN _ _ h6,h7⟩
def yY(x:A)(v:Value)(b o:Nat):Prop:=
 match x,v with
 | .top sz es, .slice (some a) _ cap=>cap≠es.length/\a.block=b/\es.length*sz<=o
 |_,_=>False
def nB:List A->List Value->Nat->Nat->Prop
 |x::xs,v::vs,b,o=>yY x v b o\/nB xs vs b o
 |_,_,_,_=>False
theorem og:∀{xs:List A} {vs:List Value} {b o:Nat},kA xs=true->¬nB xs vs b o
 |[],_,_,_,_,h=>by simp[nB] at h
 |_::_,[],_,_,_,h=>by simp[nB] at h
 |x::xs,v::vs,b,o,hn,h=>by
  simp only[kA,pe,cY] at hn
  rcases h with h|h
  ·cases x<;>first|exact h|(exact Bool.noConfusion hn.1)
  ·exact og (xs:=xs) hn.2 h
theorem yZ:∀{xs ys:List A} {vs us:List Value} {b o:Nat},xs.length=vs.length->kA ys=true->nB (xs++ys) (vs++us) b o->nB xs vs b o
 |[],ys,[],us,b,o,_,hn,h=>absurd h (og hn)
 |x::xs,ys,v::vs,us,b,o,hl,hn,h=>by
  rcases h with h|h
  ·exact .inl h
  ·exact .inr (yZ (by simpa using hl) hn h)
 |[],_,_::_,_,_,_,hl,_,_=>by simp at hl
 |_::_,_,[],_,_,_,hl,_,_=>by simp at hl
def iC:Value->Option Nat
 | .slice (some a) n cap=>if cap=n then none else some a.block
 |_=>none
def lX:List au->List Value->Prop
 |[],_=>True
 |_::_,[]=>True
 | .top _ _::rs,v::vs=>(∀(j:Nat) sz es u,rs[j]?=some (.top sz es)->vs[j]?=some u->∀b,iC v=some b->iC u≠some b)/\lX rs vs
 |_::rs,_::vs=>lX rs vs
def u_(vs:List Value):Value:=
 match vs with
 |[v]=>v
 |vs=> .tuple vs.toArray
def DE(ip:List (List C))(gK:List (Nat×Nat))(b o:Nat):Prop:=
 ∃(k:Nat) (cs:List C) (p:Nat×Nat),ip[k]?=some cs/\gK[k]?=some p/\p.1=b/\p.2<=o/\o<p.2+cs.length
def AK(ip:List (List C))(gK:List (Nat×Nat)):Prop:=
 ∀(i j:Nat) cs ds p q,i≠j->ip[i]?=some cs->ip[j]?=some ds->gK[i]?=some p->gK[j]?=some q->p.1≠q.1\/p.2+cs.length<=q.2\/q.2+ds.length<=p.2
def iy(gl:Nat->Option (List C))(Fr:Nat->Nat->Prop)(w:World):Prop:=∀g cs,gl g=some cs->dp Fr w g cs 0
variable{gl:Nat->Option (List C)}
theorem iy.mono(h:iy gl Fr w)(he:Ev Fr oI w w'):iy gl oI w':=fun g cs hg=>dp.mono he g cs 0 (h g cs hg)
def Bp(P:Program)(gl:Nat->Option (List C))(f:FuncId)(xs:List A)(ip:List (List C))(rs:List au)(cy:List (List C)):Prop:=
 ∀(Fr:Nat->Nat->Prop) (w:World) (gK:List (Nat×Nat)) (vs:List Value),(∀b o,Fr b o->b<w.heap.size)->iy gl Fr w->bj (rY Fr w) ip gK->AK ip gK->bj (A.aE Fr w gK) xs vs->
  Calls P f vs.toArray w fun e w'=>∃(us:List Value) (oI:Nat->Nat->Prop),e= .returned (u_ us)/\bX (fun b o=>DE ip gK b o\/nB xs vs b o) w w'/\(∀b o,Fr b o->oI b o)/\
   (∀b o,oI b o->Fr b o\/((w.heap.size<=b\/nB xs vs b o)/\b<w'.heap.size))/\bj (au.aE oI (fun b lo=>w.heap.size<=b\/∀o,lo<=o->nB xs vs b o) w') rs us/\lX rs us/\bj (rY oI w') cy gK/\cy.map List.length=ip.map List.length
def Ig(P:Program)(gl:Nat->Option (List C))(f:FuncId)(xs:List A)(ip:List (List C))(rs:List au)(cy:List (List C)):Prop:=
 ∀(Fr:Nat->Nat->Prop) (w:World) (gK:List (Nat×Nat)) (vs:List Value),(∀b o,Fr b o->b<w.heap.size)->iy gl Fr w->bj (rY Fr w) ip gK->AK ip gK->bj (A.aE Fr w gK) xs vs->
  Calls P f vs.toArray w fun e w'=>∃(us:List Value) (oI:Nat->Nat->Prop),e= .returned (u_ us)/\bX (DE ip gK) w w'/\(∀b o,Fr b o->oI b o)/\
   (∀b o,oI b o->Fr b o\/(w.heap.size<=b/\b<w'.heap.size))/\bj (au.aE oI (fun b _=>w.heap.size<=b) w') rs us/\lX rs us/\bj (rY oI w') cy gK/\cy.map List.length=ip.map List.length
variable{P:Program}
theorem Bp.plain{f:FuncId}{xs:List A}{ip:List (List C)}{rs:List au}{cy:List (List C)}(h:Bp P gl f xs ip rs cy)(hn:kA xs=true):Ig P gl f xs ip rs cy:=by
 intro Fr w gK vs h1 h2 h3 h4 h5
 refine(h Fr w gK vs h1 h2 h3 h4 h5).mono fun e w' hp=> ?_
 obtain⟨us,oI,he,hb,hf,hf',hr,ht,hl,hi⟩:=hp
 refine⟨us,oI,he,hb.mono fun b o hx=>hx.resolve_right (og hn),hf,fun b o hx=> ?_,hr.mono fun r u hu=>hu.mono fun b lo hx=> ?_,ht,hl,hi⟩
 ·rcases hf' b o hx with hx|⟨hx,hy⟩
  ·exact .inl hx
  ·exact .inr ⟨hx.resolve_right (og hn),hy⟩
 ·rcases hx with hx|hx
  ·exact hx
  ·exact absurd (hx lo (aL _)) (og hn)
theorem Ig.ajZ{f:FuncId}{xs:List A}{ip:List (List C)}{rs:List au}{cy:List (List C)}(h:Ig P gl f xs ip rs cy):Bp P gl f xs ip rs cy:=by
 intro Fr w gK vs h1 h2 h3 h4 h5
 refine(h Fr w gK vs h1 h2 h3 h4 h5).mono fun e w' hp=> ?_
 obtain⟨us,oI,he,hb,hf,hf',hr,ht,hl,hi⟩:=hp
 refine⟨us,oI,he,hb.mono fun b o hx=> .inl hx,hf,fun b o hx=> ?_,hr.mono fun r u hu=>hu.mono fun b lo hx=> .inl hx,ht,hl,hi⟩
 rcases hf' b o hx with hx|⟨hx,hy⟩
 ·exact .inl hx
 ·exact .inr ⟨.inl hx,hy⟩
def j_(P:Program)(f:FuncId):Prop:=∃fn,P.funcs[f]?=some fn/\fn.body.isSome=true/\(fn.name== "runtime.NumGoroutine")=false
def DF(P:Program)(gl:Nat->Option (List C))(f:FuncId)(ks:List K)(vs:List (List V))(ts:List Nat)(rs:List K)(jQ:List (List V))(nX:List Nat):Prop:=
 ∀(F:Fm) (γ:Gh) (tmp:Nat->T) (a:Act) (w:World) (us:List Value),ix F γ ⟨tmp,fun i=>vs[i]?,fun i=>ts[i]?⟩ a w->iy gl γ.fr w->F.gn<=vs.length->F.gk<=ts.length->F.gK.length<=vs.length->
  bj (K.aE γ (fun i=>ts[i]?) w) ks us->
  Calls P f us.toArray w fun e w'=>∃(xs:List Value) (γ':Gh),e= .returned (u_ xs)/\ix F γ' ⟨tmp,fun i=>jQ[i]?,fun i=>nX[i]?⟩ a w'/\iy gl γ'.fr w'/\bj (K.aE γ' (fun i=>nX[i]?) w') rs xs
def va(P:Program)(f:FuncId)(sz:Nat):Prop:=
 ∀(Fr:Nat->Nat->Prop) (w:World) (v:Value) (es:List (List C)),(C.slice sz es).aE Fr w v->0<es.length->es.length<=yR->
  Calls P f #[v] w fun e w'=>∃(w1:World) (cap:Nat) (news:List Value),e= .returned (.slice (some ⟨w1.heap.size,0,none⟩) es.length cap)/\es.length<=cap/\Below w.heap.size w w1/\Below w1.heap.size w1 w'/\bj (C.aE Fr w1) es.flatten news/\
   w'.rangeAt w1.heap.size 0 news/\w'.there w1.heap.size 0 news.length/\w1.heap.size<w'.heap.size
structure pG(E:lW):Prop where
 cln:∀f sz,E.cl f=some sz->j_ E.P f/\va E.P f sz
 inl:∀f ks vs ts rs jQ nX,E.I f ks vs ts=some (rs,jQ,nX)->j_ E.P f/\DF E.P E.gl f ks vs ts rs jQ nX
 call:∀f xs ip rs cy,E.F f xs ip=some (rs,cy)->j_ E.P f/\Bp E.P E.gl f xs ip rs cy
theorem Ni(h:Nb v=true):v.oneCell'=true:=by
 cases v<;>simp_all[Nb,Value.oneCell']
theorem Bq{x:V}(h:ofValue v=some x):x.aE γ tok w v:=by
 unfold ofValue at h
 split at h
 ·cases h
  exact⟨by simp only[C.aE];exact⟨none,0,0,rfl,rfl,aL _, .inl ⟨rfl,rfl⟩⟩,none,0,rfl⟩
 ·split at h
  ·cases h;simp only[V.aE,C.aE,true_and];exact Ni (by assumption)
  ·cases h
theorem GF{α β:Type}{R:β->α->Prop}{f:α->Option β}(hf:∀a b,f a=some b->R b a):∀{xs:List α} {ys:List β},xs.mapM f=some ys->bj R ys xs
 |[],ys,h=>by simp at h;subst h;trivial
 |x::xs,ys,h=>by
  rw[fv] at h
  simp only[j5,j4,ig,av] at h
  obtain⟨y,hy,zs,hz,rfl⟩:=h
  exact⟨hf _ _ hy,GF hf hz⟩
theorem y6{x:K}(h:yP v=some x):x.aE γ tok w v:=by
 unfold yP at h
 split at h
 ·rename_i cs
  simp only[aV] at h
  obtain⟨xs,hx,rfl⟩:=h
  exact⟨cs.toList,by simp,GF (R:=V.aE γ tok w) (fun a b hab=>Bq hab) hx⟩
 ·simp only[aV] at h
  obtain⟨x,hx,rfl⟩:=h
  exact Bq hx
theorem V.PG{x:V}(h:x.aE γ tok w v):(x.fit sz).aE γ tok w v:=by
 unfold V.fit
 split
 ·simp only[V.aE,qp] at h ⊢
  refine⟨?_,h.2⟩
  have h1:=h.1
  simp only[C.aE] at h1 ⊢
  obtain⟨a',len,cap,jI,h3,h4,h5⟩:=h1
  refine⟨a',len,cap,jI,h3,h4,?_⟩
  rcases h5 with h5|⟨b,o,h5,_⟩
  ·exact .inl h5
  ·exact .inr ⟨b,o,h5,by simp only[dF]⟩
 ·exact h
theorem GG{γ:Gh}{tok:Nat->Option Nat}{w:World}:∀{ss:List Nat} {xs:List V} {vs:List Value},bj (V.aE γ tok w) xs vs->bj (V.aE γ tok w) (T6 ss xs) vs
 |[],xs,vs,h=>by cases xs<;>exact h
 |_::_,[],[],h=>h
 |_::_,_::_,_::_,h=>⟨V.PG h.1,GG h.2⟩
 |_::_,[],_::_,h=>h.elim
 |_::_,_::_,[],h=>h.elim
variable{t:TypeId}
theorem tL(h:bj (V.aE γ tok w) xs vs):bj (V.aE γ tok w) (AF P t xs) vs:=by
 unfold AF
 split
 ·exact GG h
 ·exact h
theorem T9{x:V}(h:x.aE γ tok w v):(abI P t x).aE γ tok w v:=by
 unfold abI
 split
 ·split
  ·exact V.PG (sz:=_) h
  ·exact h
 ·exact h
theorem sG(h:x.aE γ tok w v):(Kw P t x).aE γ tok w v:=by
 unfold Kw
 split
 ·exact T9 h
 ·obtain⟨vs,rfl,h⟩:=h
  exact⟨vs,rfl,tL h⟩
 ·exact h
theorem mU{P:Program}{γ:Gh}{tok:Nat->Option Nat}{w:World}:∀{ts:List TypeId} {xs:List T} {vs:List Value},bj (T.aE γ tok w) xs vs->bj (T.aE γ tok w) (nA P ts xs) vs
 |[],xs,vs,h=>by cases xs<;>exact h
 |_::_,[],[],h=>h
 |_::_,x::xs,v::vs,h=>by
  cases x with
  |k y=>cases y with
   |agg ys=>exact⟨sG (x:= .k (.agg ys)) h.1,mU h.2⟩
   |v y=>exact⟨h.1,mU h.2⟩
  |Kk ks=>exact⟨h.1,mU h.2⟩
  |bf=>exact⟨h.1,mU h.2⟩
  |skip=>exact⟨h.1,mU h.2⟩
 |_::_,[],_::_,h=>h.elim
 |_::_,_::_,[],h=>h.elim
variable{E:lW}
theorem mr(h:ix F γ m a w)(hg:iy E.gl γ.fr w)(x:Operand):(E.ev m x).aE γ m.tok w (a.eval x):=by
 cases x with
 |tmp t=>exact h.tmps t
 |const v=>
  simp only[lW.ev,Act.eval]
  split
  ·rename_i k hk;exact y6 hk
  ·trivial
 |global g=>
  simp only[lW.ev,Act.eval]
  split
  ·rename_i cs mv
   simp only[T.aE,K.aE,V.aE,C.aE]
   exact⟨g,0,rfl,hg g cs mv⟩
  ·trivial
 |func f=>
  simp only[lW.ev,Act.eval,T.aE,K.aE,V.aE]
  exact⟨[],rfl,trivial⟩
theorem dT{t:T}{x:V}(h:t.cell? =some x):t= .k (.v x):=by
 unfold T.cell? at h
 split at h<;>cases h;rfl
theorem GH{t:T}{x:K}(h:t.k? =some x):t= .k x:=by
 unfold T.k? at h
 split at h<;>cases h;rfl
theorem nC{t:T}{x:Value}(h:t.rV=some x):t= .pure x:=by
 unfold T.rV at h
 split at h<;>cases h;rfl
theorem ry{t:T}{q:IntKind}{n:Int}(h:t.rW=some (q,n)):t= .pure (.int q n):=by
 unfold T.rW at h
 split at h
 ·rename_i hr;cases h;exact nC hr
 ·cases h
theorem DG{t:T}{b:Bool}(h:t.yQ=some b):t= .pure (.bool b):=by
 unfold T.yQ at h
 split at h
 ·rename_i hr;cases h;exact nC hr
 ·cases h
theorem ck{u:Value}:(T.pure v).aE γ tok w u↔u=v/\v.oneCell'=true:=by
 simp only[T.pure,T.aE,K.aE,V.aE,C.aE]
def lk{α:Type}:List (Nat×α)->Nat->Option α
 |[],_=>none
 |(i,x)::r,j=>match lk r j with|some y=>some y|none=>if i=j then some x else none
def Mem.apply(m:Mem)(d:Option Tmp)(nv:Nat)(e:uN):Mem:=
 {tmp:=fun t=>if d=some t then e.dst else m.tmp t
  var:=fun i=>match e.pv with
   |some (j,off,ks)=>if i=j then(m.var i).map (kH off ks) else m.var i
   |none=>if i=nv/\e.nv.isSome then e.nv else match lk e.uv i with|some x=>some x|none=>m.var i
  tok:=fun i=>match lk e.ut i with|some n=>some n|none=>m.tok i}
theorem Mem.xF(m:Mem)(d:Option Tmp)(nv:Nat)(x:T)(rv rt:List Nat):m.apply d nv {dst:=x,rv,rt}=m.put d x:=by
 cases d with
 |none=>simp[Mem.apply,Mem.put,lk]
 |some d=>
  simp only[Mem.apply,Mem.put,lk,oG,ft,rd,br,av]
  congr 1
  funext t
  by_cases h:d=t
  ·simp[h]
  ·simp[h,f_ h]
def lr(E:lW)(F:Fm)(m':Mem)(a':Act)(w':World):Prop:=
 ∃γ':Gh,ix F γ' m' a' w'/\iy E.gl γ'.fr w'
variable{Q:Exit->Act->World->Prop}
theorem nD{o:Oper}{K:Act->World->Prop}(ka:(execOp a.eval o).run P w= .ok (.value v) w')(hK:K (a.put o.dst v) w'):o.wp P a w K Q:=by
 unfold Oper.wp
 rw[ka]
 exact hK
variable{nv:Nat}
theorem cR(h:ix F γ m a w)(hg:iy E.gl γ.fr w){o:Oper}(hd:∀t,o.dst=some t->t<F.n){rv rt:List Nat}(ka:(execOp a.eval o).run E.P w= .ok (.value v) w)(hx:x.aE γ m.tok w v):
 o.wp E.P a w (lr E F (m.apply o.dst nv {dst:=x,rv,rt})) Q:=
 nD ka ⟨γ,by rw[Mem.xF];exact h.put hd hx,hg⟩
theorem V.g_(h:bj (C.aE γ.fr w) cs vs):bj (V.aE γ tok w) (cs.map .c) vs:=by
 apply bj.Kl
 exact h.mono (fun a b hab=>by simpa only[V.aE] using hab)
theorem pU(h:w.rangeAt b o vs)(n:Nat):w.rangeAt b (o+n) (vs.drop n):=fun j v hv=>by
 rw[Au] at hv
 have:=h _ v hv
 rwa[show o+(n+j)=o+n+j by omega] at this
theorem y7(h:w.rangeAt b o vs)(n:Nat):w.rangeAt b o (vs.take n):=fun j v hv=>by
 rw[rQ] at hv
 split at hv
 ·exact h j v hv
 ·cases hv
variable{d:TypeDesc}
theorem info_of_underlying(h:P.underlying t=some d):∃i,P.info? t=some i:=by
 unfold Program.underlying at h
 split at h
 ·rename_i i _;exact⟨_,by assumption⟩
 ·rename_i i _ _;exact⟨_,by assumption⟩
 ·cases h
theorem y8{i:TypeInfo}(h:P.info? t=some i):P.cellsOf t=i.size:=by simp[Program.cellsOf,h]
theorem run_sizeOf{i:TypeInfo}(h:P.info? t=some i)(w:World):(sizeOf t).run P w= .ok (P.cellsOf t) w:=by
 simp[sizeOf,typeInfo,h,y8 h]
theorem wm(h:P.underlying t=some d)(w:World):(isAgg t).run P w= .ok d.isRow w:=by
 unfold isAgg
 rw[Sem.run_bind,run_underlying h w]
 cases d<;>simp
theorem xG{k:K}(h:AB P t xs=some k)(hx:bj (V.aE γ tok w) xs vs)(hr:w.rangeAt b o vs):
 ∃v,(Instr.loadAt t (.pointer (some ⟨b,o,none⟩))).run P w= .ok v w/\k.aE γ tok w v:=by
 unfold AB ny at h
 cases hu:P.underlying t with
 |none=>simp[hu] at h
 |some d=>
  obtain⟨i,hi⟩:=info_of_underlying hu
  cases hd:d.isRow with
  |true=>
   simp only[hu,dw,hd] at h
   split at h
   ·rename_i rZ
    cases h
    have dK:=hx.length
    have Ye:(vs.take (P.cellsOf t)).length=P.cellsOf t:=by rw[kG];omega
    refine⟨.agg (vs.take (P.cellsOf t)).toArray,?_,⟨_,rfl,hx.take _⟩⟩
    exact run_loadAt_mid w b o t _ d (y7 hr _) hu hd (by rw[hi,Ye,y8 hi];rfl)
   ·cases h
  |false=>
   simp only[hu,dw,hd] at h
   cases xs with
   |nil=>simp at h
   |cons x xs=>
    cases vs with
    |nil=>exact hx.elim
    |cons v vs=>
     simp at h
     subst h
     refine⟨v,?_,hx.1⟩
     have hc:=hr 0 v rfl
     simp only[Instr.loadAt,Instr.sureAddr,loadVar,Sem.run_bind,Sem.run_pure,Result.andThen_ok,wm hu,hd,ft,br,run_load]
     rw[show(⟨b,o,none⟩:Addr)=⟨b,o+0,none⟩ from rfl,hc]
variable{nt:Nat}{e:uN}
theorem Nj(h:ix F γ m a w)(hg:iy E.gl γ.fr w){o:Oper}(hd:∀t,o.dst=some t->t<F.n){x:Operand}(ho:o.op= .load t x)(he:aA E m nv nt o=some e):o.wp E.P a w (lr E F (m.apply o.dst nv e)) Q:=by
 have hx:=mr h hg x
 simp only[aA,ho] at he
 split at he
 ·rename_i id off hc
  rw[dT hc] at hx
  simp only[T.aE,K.aE,V.aE] at hx
  obtain⟨b,o',hl,hp⟩:=hx
  split at he
  ·rename_i xs hv
   simp only[aV] at he
   obtain⟨k,hk,rfl⟩:=he
   obtain⟨b',o'',h1,⟨vs,h2,h3⟩,_⟩:=h.vars id xs hv
   rw[hl] at h1;cases h1
   obtain⟨v,ka,py⟩:=xG hk (h2.drop off) (pU h3 off)
   refine cR h hg hd (v:=v) ?_ (by simpa only[T.aE] using py)
   simp only[execOp,ho,hp,Sem.run_bind,ka,Result.andThen_ok,Sem.run_pure]
  ·cases he
 ·rename_i cells hc
  rw[dT hc] at hx
  simp only[T.aE,K.aE,V.aE,C.aE] at hx
  obtain⟨b,o',hp,mv⟩:=hx
  simp only[aV] at he
  obtain⟨k,hk,rfl⟩:=he
  obtain⟨vs,h2,h3⟩:=tD mv
  obtain⟨v,ka,py⟩:=xG (γ:=γ) (tok:=m.tok) hk (V.g_ h2) h3
  refine cR h hg hd (v:=v) ?_ (by simpa only[T.aE] using py)
  simp only[execOp,ho,hp,Sem.run_bind,ka,Result.andThen_ok,Sem.run_pure]
 ·cases he
open Go.RowKit
def Br(d:TypeDesc)(xs:List Value):Value:=if d.isRow then .agg xs.toArray else xs.headD undef
theorem y9(hu:P.underlying t=some d)(xs:List Value)(off:Nat)(w:World)(h:d.isRow=true\/(off<xs.length/\P.cellsOf t≠0)):
 (part t xs.toArray off).run P w= .ok (Br d ((xs.drop off).take (P.cellsOf t))) w:=by
 obtain⟨i,hi⟩:=info_of_underlying hu
 unfold part Br
 simp only[Sem.run_bind,wm hu,Result.andThen_ok]
 cases hd:d.isRow with
 |true=>
  simp only[bu,Sem.run_bind,run_sizeOf hi,Result.andThen_ok,Sem.run_pure]
  congr 2
  apply Kj
  simp[HX]
 |false=>
  obtain⟨fO,hz⟩:off<xs.length/\P.cellsOf t≠0:=by
   rcases h with h|h
   ·rw[hd] at h;cases h
   ·exact h
  have:((xs.drop off).take (P.cellsOf t)).head?.getD undef=xs[off]:=by
   obtain⟨n,hn⟩:∃n,P.cellsOf t=n+1:=⟨P.cellsOf t-1,by omega⟩
   rw[hn,M5 fO]
   rfl
  simp[this,fO]
variable{f:Nat}
theorem Ih{xs ys:List Value}{r:Bool}(hu:P.underlying t=some d)(hd:d.isRow=false)(h:od P f t xs ys=some r):xs.length=1/\ys.length=1:=by
 cases f with
 |zero=>simp[od] at h
 |succ f=>
  cases d<;>simp[TypeDesc.isRow] at hd<;>simp only[od,hu] at h<;>(try(cases h;done))<;>(split at h<;>(try(cases h;done))<;>simp)
theorem nE{xs ys:List Value}{r:Bool}(h:od P f t xs ys=some r):∃d,P.underlying t=some d:=by
 cases f with
 |zero=>simp[od] at h
 |succ f=>
  cases hu:P.underlying t with
  |none=>simp[od,hu] at h
  |some d=>exact⟨d,rfl⟩
variable{off:Nat}
theorem PH{xs ys:List Value}{r:Bool}(hu:P.underlying t=some d)(h:od P f t ((xs.drop off).take (P.cellsOf t)) ((ys.drop off).take (P.cellsOf t))=some r)(w:World):
 (part t xs.toArray off).run P w= .ok (Br d ((xs.drop off).take (P.cellsOf t))) w/\(part t ys.toArray off).run P w= .ok (Br d ((ys.drop off).take (P.cellsOf t))) w:=by
 cases hd:d.isRow with
 |true=>exact⟨y9 hu _ _ w (.inl hd),y9 hu _ _ w (.inl hd)⟩
 |false=>
  obtain⟨h1,h2⟩:=Ih hu hd h
  simp only[kG,rR] at h1 h2
  exact⟨y9 hu _ _ w (.inr ⟨by omega,by omega⟩),y9 hu _ _ w (.inr ⟨by omega,by omega⟩)⟩
theorem xI{P:Program}:∀(f d:Nat) (t:TypeId) (xs ys:List Value) (r:Bool) (w:World) (td:TypeDesc),f<=d->P.underlying t=some td->od P f t xs ys=some r->
 (Op.equalIn d t (Br td xs) (Br td ys)).run P w= .ok r w
 |0,_,_,_,_,_,_,_,_,_,h=>by simp[od] at h
 |f+1,d,t,xs,ys,r,w,td,hfd,hu,h=>by
  obtain⟨d,rfl⟩:∃d',d=d'+1:=⟨d-1,by omega⟩
  have afz:f<=d:=by omega
  simp only[od,hu] at h
  split at h
  ·rename_i he;cases he
   split at h
   ·cases h;exact run_equalIn_bool w d t _ _ hu
   ·cases h
  ·rename_i he;cases he
   split at h
   ·split at h
    ·rename_i hk;cases h;subst hk;exact run_equalIn_int w d t _ _ _ _ hu
    ·cases h
   ·cases h
  ·rename_i he;cases he
   split at h
   ·cases h
    simp[Br,TypeDesc.isRow,Op.equalIn,run_underlying hu]
   ·cases h
  ·rename_i fs he;cases he
   split at h
   ·cases h
   ·rename_i hs
    have hf:P.fieldsOf t=fs:=by simp[Program.fieldsOf,hu]
    have ht:P.underlying t=some (.struct (P.fieldsOf t)):=by rw[hf];exact hu
    show(Op.equalIn (d+1) t (.agg xs.toArray) (.agg ys.toArray)).run P w=_
    rw[run_equalIn_struct w d t _ _ ht (by simpa using hs),hf]
    clear ht hf hu
    generalize fs.toList=l at h
    induction l generalizing r with
    |nil=>simp at h;subst h;simp[Op.eqFields]
    |cons g l ih=>
     simp only[List.foldr_cons] at h
     split at h
     ·cases h
     ·rename_i hn
      split at h
      ·rename_i a b h1 h2
       cases h
       obtain⟨td,hg⟩:=nE h1
       obtain⟨p1,p2⟩:=PH hg h1 w
       have p3:=xI f d g.type _ _ a w td afz hg h1
       have p4:=ih b h2
       simp only[Op.eqFields,hn,ne_eq,not_false_eq_true,bu,Sem.run_bind,p1,p2,p3,p4,Result.andThen_ok,Sem.run_ite,Sem.run_pure]
       cases a<;>simp
      ·cases h
  ·rename_i n e he;cases he
   show(Op.equalIn (d+1) t (.agg xs.toArray) (.agg ys.toArray)).run P w=_
   split at h
   ·cases h
   ·rename_i hi
    obtain⟨i,hi⟩:∃i,P.info? e=some i:=by
     cases hq:P.info? e with
     |none=>simp[hq] at hi
     |some i=>exact⟨i,rfl⟩
    rw[run_equalIn_array w d _ _ hu hi]
    clear hu
    generalize List.range n=l at h
    induction l generalizing r with
    |nil=>simp at h;subst h;simp[Op.eqItems]
    |cons j l ih=>
     simp only[List.foldr_cons] at h
     split at h
     ·rename_i a b h1 h2
      cases h
      obtain⟨td,hg⟩:=nE h1
      obtain⟨p1,p2⟩:=PH hg h1 w
      have p3:=xI f d e _ _ a w td afz hg h1
      have p4:=ih b h2
      simp only[Op.eqItems,Sem.run_bind,p1,p2,p3,p4,Result.andThen_ok,Sem.run_ite,Sem.run_pure]
      cases a<;>simp
     ·cases h
  ·cases h
open Go.RowKit
variable{op:BinOp}{y:Operand}
theorem pz{x:Operand}{a b:Value}(w:World)(h:(GA a&&GA b)||(match a,b with| .string _, .string _=>true| .bool _, .bool _=>true|_,_=>false)=true):
 (eqGuard op t x y a b).run P w= .ok () w:=by
 unfold eqGuard
 cases a<;>cases b<;>simp[GA] at h<;>(split<;>rfl)
variable{k:IntKind}
theorem Nk{a b:Int}{r:Value}(w:World)(h:AC op k a b=some r):(binOp op t (.int k a) (.int k b)).run P w= .ok r w:=by
 cases op<;>simp only[AC,reduceCtorEq,av] at h
 case quo|rem=>
  split at h
  ·cases h
  ·rename_i hb;cases h;simp[binOp,Op.intDiv,hb]
 all_goals(first|(subst h;simp[binOp,Op.intArith,Op.intCmp,Op.intBits,Du];done)|(cases h;done))
theorem y_{k':IntKind}{a b:Int}{r:Value}(w:World)(h:qr op k a b=some r):(binOp op t (.int k a) (.int k' b)).run P w= .ok r w:=by
 unfold qr at h
 split at h
 ·cases h
 ·rename_i hb
  cases op<;>simp only[reduceCtorEq,av] at h<;>subst h<;>simp[binOp,Op.shift,hb]
theorem Nl{a b:ByteArray}{r:Value}(w:World)(h:Dv op a b=some r):(binOp op t (.string a) (.string b)).run P w= .ok r w:=by
 cases op<;>simp only[Dv,reduceCtorEq,av] at h
 case add=>
  split at h
  ·rename_i rZ
   cases h
   have afA:IntKind.i64.max=9223372036854775807:=by decide
   have:¬(9223372036854775807<((a.size:Int)+(b.size:Int))):=by omega
   simp[binOp,Op.stringOp,afA,this]
  ·cases h
 case eql=>subst h;simp[binOp,Op.stringOp,beq_toListBytes]
 case neq=>subst h;simp[binOp,Op.stringOp,beq_toListBytes]
theorem Nm{x:Operand}{a b:Value}{r:Value}(w:World)(h:uZ op a b=some r):
 (do eqGuard op t x y a b;binOp op t a b:Sem Value).run P w= .ok r w:=by
 unfold uZ at h
 split at h
 ·rename_i k a k' b
  rw[Sem.run_bind,pz w (by simp[GA]),Result.andThen_ok]
  split at h
  ·exact y_ w h
  ·exact y_ w h
  ·split at h
   ·rename_i hk;subst hk;exact Nk w h
   ·cases h
 ·rename_i a b
  rw[Sem.run_bind,pz w (by simp[GA]),Result.andThen_ok]
  exact Nl w h
 ·cases h
theorem Nn{a b r:Value}(h:uZ op a b=some r):r.oneCell'=true:=by
 unfold uZ at h
 split at h
 ·split at h
  ·unfold qr at h;split at h<;>simp at h;subst h;rfl
  ·unfold qr at h;split at h<;>simp at h;subst h;rfl
  ·split at h
   ·cases op<;>simp only[AC,reduceCtorEq,av] at h<;>(try(split at h<;>simp at h))<;>(try(subst h;rfl))
   ·cases h
 ·cases op<;>simp only[Dv,reduceCtorEq,av] at h<;>(try(split at h<;>simp at h))<;>(try(subst h;rfl))
 ·cases h
theorem za{γ:Gh}{tok:Nat->Option Nat}{w:World}:∀{xs:List V} {as:List Value} {vs:List Value},xs.mapM V.rV=some as->bj (V.aE γ tok w) xs vs->vs=as
 |[],as,[],h,_=>by simp at h;exact h.symm
 |x::xs,as,v::vs,h,hr=>by
  rw[fv] at h
  simp only[j5,j4,ig,av] at h
  obtain⟨y,hy,zs,hz,rfl⟩:=h
  have:=za hz hr.2
  subst this
  unfold V.rV at hy
  split at hy
  ·cases hy
   have h1:=hr.1
   simp only[V.aE,C.aE] at h1
   rw[h1.1]
  ·cases hy
 |[],_,_::_,_,h=>h.elim
 |_::_,_,[],_,h=>h.elim
variable{r:T}
theorem No{y:T}{ox oy:Operand}{a b:Value}(h:T5 P op t x y=some r)(hx:x.aE γ tok w a)(hy:y.aE γ tok w b):
 ∃v,(do eqGuard op t ox oy a b;binOp op t a b:Sem Value).run P w= .ok v w/\r.aE γ tok w v:=by
 unfold T5 at h
 split at h
 ·rename_i p q
  simp only[T.aE,K.aE,V.aE,C.aE] at hx hy
  obtain⟨rfl,ha⟩:=hx
  obtain⟨rfl,hb⟩:=hy
  split at h
  ·rename_i p q
   have Yi:(eqGuard op t ox oy (.bool p) (.bool q)).run P w= .ok () w:=pz w (by simp[GA])
   split at h
   ·rename_i hu
    cases h
    refine⟨.bool (p==q),?_,ck.2 ⟨rfl,rfl⟩⟩
    rw[Sem.run_bind,Yi,Result.andThen_ok]
    simp only[binOp,Sem.run_bind,run_equal_bool w t p q hu,Result.andThen_ok,Sem.run_pure]
   ·rename_i hu
    cases h
    refine⟨.bool (!(p==q)),?_,ck.2 ⟨rfl,rfl⟩⟩
    rw[Sem.run_bind,Yi,Result.andThen_ok]
    simp only[binOp,Sem.run_bind,run_equal_bool w t p q hu,Result.andThen_ok,Sem.run_pure]
   ·cases h
  ·simp only[aV] at h
   obtain⟨v,hv,rfl⟩:=h
   exact⟨v,Nm w hv,ck.2 ⟨rfl,Nn hv⟩⟩
 ·rename_i xs ys
  simp only[T.aE,K.aE] at hx hy
  obtain⟨vs,rfl,Rf⟩:=hx
  obtain⟨us,rfl,TG⟩:=hy
  split at h
  ·rename_i as bs h1 h2
   have e1:=za h1 Rf
   have e2:=za h2 TG
   subst e1;subst e2
   split at h
   ·cases h
   ·rename_i Yi
    split at h
    ·rename_i r' hr
     obtain⟨td,htd⟩:=nE hr
     have F2:td.isRow=true:=by
      simp only[not_or,ne_eq,Decidable.not_not,ny,htd,dw,av] at Yi
      exact Yi.2
     have T_:(eqGuard op t ox oy (.agg vs.toArray) (.agg us.toArray)).run P w= .ok () w:=by
      unfold eqGuard
      simp only[Sem.run_ite]
      have hg2:=(not_or.1 Yi).1
      split<;>simp[hg2]
     have jI:=xI 100 10000 t vs us r' w td (by omega) htd hr
     simp only[Br,F2,bu] at jI
     split at h
     ·cases h
      refine⟨.bool r',?_,ck.2 ⟨rfl,rfl⟩⟩
      rw[Sem.run_bind,T_,Result.andThen_ok,run_eql_struct,jI];rfl
     ·cases h
      refine⟨.bool (!r'),?_,ck.2 ⟨rfl,rfl⟩⟩
      rw[Sem.run_bind,T_,Result.andThen_ok,run_neq_struct,jI];rfl
     ·cases h
    ·cases h
  ·cases h
 ·cases h
theorem Ii{a:Value}(h:Nc P t x=some r)(hx:x.aE γ tok w a):∃v,(Instr.makeInterface t a).run P w= .ok v w/\r.aE γ tok w v:=by
 unfold Nc at h
 have key:∀td,P.underlying t=some td->(∀ms,td≠ .interface ms)->(Instr.makeInterface t a).run P w= .ok (.iface t a) w:=by
  intro td hu hn
  cases td<;>first|(exact absurd rfl (hn _))|(simp[Instr.makeInterface,run_underlying hu])
 split at h
 ·cases h
 ·cases h
 ·rename_i td XU hu
  refine⟨.iface t a,key _ hu (fun ms he=>XU ms he),?_⟩
  split at h
  ·cases h
   simp only[T.aE,K.aE,V.aE] at hx ⊢
   obtain⟨b,o,h1,rfl⟩:=hx
   exact⟨b,o,h1,rfl⟩
  ·cases h
   simp only[T.aE,K.aE,V.aE,C.aE] at hx
   obtain⟨rfl,_⟩:=hx
   exact ck.2 ⟨rfl,rfl⟩
  ·simp only[aV] at h
   obtain⟨vs,hv,rfl⟩:=h
   simp only[T.aE,K.aE] at hx
   obtain⟨us,rfl,TG⟩:=hx
   rw[za hv TG]
   exact ck.2 ⟨rfl,rfl⟩
  ·cases h
theorem Bt(h:x.AD=none):u3 P op t x y=none:=by
 unfold u3
 split
 ·rw[h]
  split
  ·rename_i h2;cases h2
  ·rfl
 ·rfl
theorem GI(h:x.rV=some v)(h1:v≠ .nilIface)(h2:∀t u,v≠ .iface t u):x.AD=none:=by
 unfold T.rV at h
 split at h
 ·cases h
  unfold T.AD
  split
  ·rename_i hq;simp only[T.k.injEq,K.v.injEq,V.c.injEq,C.raw.injEq] at hq;exact absurd hq h1
  ·rename_i hq;simp only[T.k.injEq,K.v.injEq,V.c.injEq,C.raw.injEq] at hq;exact absurd hq (h2 _ _)
  ·rename_i hq;cases hq
  ·rfl
 ·cases h
theorem AL{ms:Array (String×TypeId)}(w:World)(d:Nat)(a:Value)(hu:P.underlying t=some (.interface ms)):((∃t' v',a= .iface t' v')->(Op.equalIn (d+1) t a .nilIface).run P w= .ok false w)/\(a= .nilIface->(Op.equalIn (d+1) t a .nilIface).run P w= .ok true w):=by
 refine⟨?_,?_⟩
 ·rintro⟨t',v',rfl⟩
  simp[Op.equalIn,run_underlying hu]
 ·rintro rfl
  simp[Op.equalIn,run_underlying hu]
theorem Ij{ox:Operand}{a:Value}(h:u3 P op t x y=some r)(hx:x.aE γ tok w a):
 ∃v,(do eqGuard op t ox (.const .nilIface) a .nilIface;binOp op t a .nilIface:Sem Value).run P w= .ok v w/\r.aE γ tok w v:=by
 unfold u3 at h
 split at h
 ·split at h
  ·rename_i ms b hu hb
   have Yi:(eqGuard op t ox (.const .nilIface) a .nilIface).run P w= .ok () w:=by
    unfold eqGuard
    cases a<;>simp
   have jI:(Op.equal t a .nilIface).run P w= .ok (!b) w:=by
    unfold T.AD at hb
    split at hb
    ·cases hb
     simp only[T.aE,K.aE,V.aE,C.aE] at hx
     exact(AL w 9999 a hu).2 hx.1
    ·cases hb
     simp only[T.aE,K.aE,V.aE,C.aE] at hx
     exact(AL w 9999 a hu).1 ⟨_,_,hx.1⟩
    ·cases hb
     simp only[T.aE,K.aE,V.aE] at hx
     obtain⟨_,_,_,hv⟩:=hx
     exact(AL w 9999 a hu).1 ⟨_,_,hv⟩
    ·cases hb
   have aaU:(∃t' v',a= .iface t' v')\/a= .nilIface:=by
    unfold T.AD at hb
    split at hb
    ·simp only[T.aE,K.aE,V.aE,C.aE] at hx
     exact .inr hx.1
    ·simp only[T.aE,K.aE,V.aE,C.aE] at hx
     exact .inl ⟨_,_,hx.1⟩
    ·simp only[T.aE,K.aE,V.aE] at hx
     obtain⟨_,_,_,rfl⟩:=hx
     exact .inl ⟨_,_,rfl⟩
    ·cases hb
   split at h
   ·cases h
    refine⟨.bool (!b),?_,ck.2 ⟨rfl,rfl⟩⟩
    rw[Sem.run_bind,Yi,Result.andThen_ok]
    rcases aaU with⟨t',v',rfl⟩|rfl<;>simp only[binOp,Sem.run_bind,jI,Result.andThen_ok,Sem.run_pure]
   ·cases h
    refine⟨.bool b,?_,ck.2 ⟨rfl,rfl⟩⟩
    rw[Sem.run_bind,Yi,Result.andThen_ok]
    rcases aaU with⟨t',v',rfl⟩|rfl<;>simp only[binOp,Sem.run_bind,jI,Result.andThen_ok,Sem.run_pure,lF]
   ·cases h
  ·cases h
 ·cases h
theorem Rg{op:UnOp}{a:Value}(h:unT op x=some r)(hx:x.aE γ tok w a):∃v,(Op.unary op a).run P w= .ok v w/\r.aE γ tok w v:=by
 unfold unT at h
 split at h
 ·rename_i b hb
  cases h
  rw[nC hb,ck] at hx
  obtain⟨rfl,_⟩:=hx
  exact⟨_,rfl,ck.2 ⟨rfl,rfl⟩⟩
 ·rename_i k n hb
  cases h
  rw[nC hb,ck] at hx
  obtain⟨rfl,_⟩:=hx
  exact⟨_,rfl,ck.2 ⟨rfl,rfl⟩⟩
 ·cases h
theorem Np{ns:List Int}{a:Value}(o9:sz=1\/es=[])(hns:tF es=some ns)(h:(C.slice sz es).aE Fr w a):
 es.length=ns.length/\((∃(ad:Option Addr) (cap:Nat),a= .slice ad 0 cap/\ns=[])\/∃(ad:Addr) (cap:Nat),a= .slice (some ad) ns.length cap/\∀(j:Nat) v,(ns.map (Value.int .u8))[j]?=some v->w.cell? (ad.add j)=some v):=by
 have key:∀{es:List (List C)} {ns:List Int},tF es=some ns->es=ns.map fun n=>[C.raw (.int .u8 n)]:=by
  intro es
  induction es with
  |nil=>intro ns h;simp[tF] at h;subst h;rfl
  |cons e es ih=>
   intro ns h
   unfold tF at h
   split at h
   ·rename_i jI;cases jI
   ·rename_i n r jI
    cases jI
    simp only[aV] at h
    obtain⟨ms,hms,rfl⟩:=h
    rw[ih hms];rfl
   ·cases h
 have xJ:=key hns
 subst xJ
 refine⟨by simp,?_⟩
 simp only[C.aE] at h
 obtain⟨ad,len,cap,rfl,rfl,rZ,h4⟩:=h
 by_cases hn:ns=[]
 ·subst hn;exact .inl ⟨ad,cap,rfl,rfl⟩
 ·have xK:sz=1:=by
   rcases o9 with h|h
   ·exact h
   ·exact absurd (List.map_eq_nil_iff.1 h) hn
  subst xK
  rcases h4 with⟨h0,_⟩|⟨b,o,rfl,hr⟩
  ·exact absurd (rN (by simpa using h0)) hn
  ·refine .inr ⟨⟨b,o,none⟩,cap,by simp,fun j v hj=> ?_⟩
   rw[nm,aV] at hj
   obtain⟨n,hj,rfl⟩:=hj
   have hg:=(ob hr j [C.raw (.int .u8 n)] (by simp[hj])).2
   obtain⟨_,v,hv,py⟩:=jH hg 0 _ rfl
   simp only[C.aE] at py
   rw[py.1] at hv
   rw[Addr.add_mid]
   simpa using hv
variable{iY dst:TypeId}
theorem KA{a:Value}(h:GD P iY dst x=some r)(hx:x.aE γ tok w a):∃v,(convert iY dst a).run P w= .ok v w/\r.aE γ tok w v:=by
 unfold GD at h
 split at h
 ·rename_i es xJ
  simp only[aV] at h
  obtain⟨ns,hns,rfl⟩:=h
  have key:∀(e:TypeId) (sz:Nat),P.underlying iY=some (.slice e)->P.underlying dst=some .string->P.underlying e=some (.int .u8)->(sz=1\/es=[])->(C.slice sz es).aE γ.fr w a->∃v,(convert iY dst a).run P w= .ok v w/\(T.pure (.string (dc ns))).aE γ tok w v:=by
   intro e sz h1 h2 h3 o9 hr
   refine⟨.string (dc ns),?_,ck.2 ⟨rfl,rfl⟩⟩
   obtain⟨F2,lz⟩:=Np o9 hns hr
   rcases lz with⟨ad,cap,rfl,rfl⟩|⟨ad,cap,rfl,hl⟩
   ·rw[run_convert_bytes_string w iY dst e ad 0 cap h1 h3 h2]
    cases ad with
    |none=>rfl
    |some ad=>exact run_bytesToString w ad 0 cap [] (by exact run_loadCells_list w ad [] (by simp))
   ·rw[run_convert_bytes_string w iY dst e _ _ cap h1 h3 h2]
    exact run_bytesToString w ad _ cap ns (by rw[<-jq (f:=Value.int .u8)];exact run_loadCells_list w ad _ hl)
  unfold GC at xJ
  split at xJ
  ·rename_i x' e sz Cy h1 h2
   split at xJ
   ·rename_i h3
    split at xJ
    ·rename_i o9
     cases xJ
     simp only[T.aE,K.aE,V.aE] at hx
     exact key e sz h1 h2 h3 o9 hx
    ·cases xJ
   ·cases xJ
  ·rename_i x' e sz Cy tk h1 h2
   split at xJ
   ·rename_i h3
    split at xJ
    ·rename_i o9
     cases xJ
     simp only[T.aE,K.aE,V.aE] at hx
     exact key e sz h1 h2 h3 o9 hx.1
    ·cases xJ
   ·cases xJ
  ·cases xJ
 rename_i afD
 split at h
 ·rename_i d k k' n h1 h2 hb
  cases h
  rw[nC hb,ck] at hx
  obtain⟨rfl,_⟩:=hx
  refine⟨.int k (k.wrap n),?_,ck.2 ⟨rfl,rfl⟩⟩
  simp[convert,run_underlying h1,run_underlying h2,Conv.intToInt]
 ·rename_i d s h1 h2 hb
  cases h
  rw[nC hb,ck] at hx
  obtain⟨rfl,_⟩:=hx
  refine⟨.string s,?_,ck.2 ⟨rfl,rfl⟩⟩
  simp[convert,run_underlying h1,run_underlying h2]
 ·cases h
theorem Nr(h:GD P iY dst x=some r):∃u,r= .pure u:=by
 unfold GD at h
 split at h
 ·simp only[aV] at h
  obtain⟨ns,_,rfl⟩:=h
  exact⟨_,rfl⟩
 ·split at h
  ·cases h;exact⟨_,rfl⟩
  ·cases h;exact⟨_,rfl⟩
  ·cases h
theorem DH(h:GC P iY dst x=some es):x.still m=x/\x.fT=[]:=by
 unfold GC at h
 split at h
 ·exact⟨rfl,rfl⟩
 ·exact⟨rfl,rfl⟩
 ·cases h
open Go.RowKit
def pV(cells:Array Value)(off:Nat):List Value->Array Value
 |[]=>cells
 |v::r=>pV (cells.setIfInBounds off v) (off+1) r
theorem qy:∀(vs:List Value) (cells:Array Value) (off:Nat),off+vs.length<=cells.size->(pV cells off vs).toList=cells.toList.take off++vs++cells.toList.drop (off+vs.length)
 |[],cells,off,_=>by simp[pV]
 |v::r,cells,off,h=>by
  simp only[cV] at h
  rw[pV,qy r _ _ (by simp;omega)]
  have fO:off<cells.toList.length:=by simp;omega
  have e1:(cells.setIfInBounds off v).toList=cells.toList.set off v:=by simp
  rw[e1,PA,aP fO]
  have hl:(cells.toList.take off).length=off:=by rw[kG];omega
  have e2:List.take (off+1) (List.take off cells.toList++v::List.drop (off+1) cells.toList)=List.take off cells.toList++[v]:=by
   rw[List.take_append,hl]
   simp[List.take_take]
  have e3:List.drop (off+1+r.length) (List.take off cells.toList++v::List.drop (off+1) cells.toList)=List.drop (off+(v::r).length) cells.toList:=by
   rw[List.drop_append,hl,show off+1+r.length-off=r.length+1 by omega,HV (by rw[hl];omega)]
   simp[List.drop_drop]
   congr 1
   omega
  rw[e2,e3]
  simp
theorem zb(off:Nat):∀(vs:List Value) (k:Nat) (cells:Array Value),(vs.zipIdx k).foldl (fun cs x=>cs.setIfInBounds (off+x.2) x.1) cells=pV cells (off+k) vs
 |[],_,_=>rfl
 |v::r,k,cells=>by
  simp only[List.zipIdx_cons,jp,pV]
  rw[zb off r (k+1)]
  rfl
theorem GJ(off:Nat)(v:Value)(cells:Array Value):v.cells.zipIdx.foldl (fun cs (c,j)=>cs.setIfInBounds (off+j) c) cells=pV cells off v.cells.toList:=by
 rw[<-Array.foldl_toList]
 have:=zb off v.cells.toList 0 cells
 simpa using this
theorem K.g_{k:K}(h:k.aE γ tok w v):bj (V.aE γ tok w) k.cells v.cells.toList:=by
 cases k with
 |v x=>
  simp only[K.aE] at h
  have h1:=V.we h
  have:v.cells= #[v]:=by cases v<;>first|rfl|(simp[Value.oneCell'] at h1)
  rw[this]
  exact⟨h,trivial⟩
 |agg xs=>
  simp only[K.aE] at h
  obtain⟨vs,rfl,h2⟩:=h
  simpa only[Value.cells,K.cells] using h2
theorem vc{γ:Gh}{tok:Nat->Option Nat}{w:World}{Bo Ns:Nat->Option (Nat×Nat)}(hp:∀i p,Bo i=some p->Ns i=some p):∀{parts:List (Nat×T)} {F3:List (Nat×Value)} {cells Ik:List V} {vs:Array Value},
 bj (fun(p:Nat×T) (q:Nat×Value)=>p.1=q.1/\p.2.aE γ tok w q.2) parts F3->Ku Bo cells parts=some Ik->bj (V.aE γ tok w) cells vs.toList->
 ∃jQ:Array Value,Instr.fill Ns vs F3=some jQ/\bj (V.aE γ tok w) Ik jQ.toList
 |[],[],cells,Ik,vs,_,h,hc=>by simp[Ku] at h;subst h;exact⟨vs,rfl,hc⟩
 |(i,x)::parts,(j,v)::F3,cells,Ik,vs,Kb,h,hc=>by
  obtain⟨⟨pj,hx⟩,Bu⟩:=Kb
  simp only at pj hx
  subst pj
  simp only[Ku] at h
  split at h
  ·rename_i off size k Ua hk
   split at h
   ·rename_i co
    rw[GH hk] at hx
    simp only[T.aE] at hx
    have Yj:=K.g_ hx
    have dK:=Yj.length
    have ly:=hc.length
    simp only[Da] at dK ly
    have rT:off+v.cells.toList.length<=vs.size:=by simp;omega
    have abL:bj (V.aE γ tok w) (cells.take off++k.cells++cells.drop (off+size)) (pV vs off v.cells.toList).toList:=by
     rw[qy _ _ _ rT]
     have:=hc.M9 Yj off
     rwa[co.1] at this
    obtain⟨jQ,h1,h2⟩:=vc hp Bu h abL
    refine⟨jQ,?_,h2⟩
    have GK:¬((v.cells.size !=size)=true\/off+v.cells.size>vs.size):=by
     simp;omega
    simp only[Instr.fill,hp _ _ Ua]
    rw[aR (by simp;omega),GJ]
    exact h1
   ·cases h
  ·cases h
 |[],_::_,_,_,_,h,_,_=>h.elim
 |_::_,[],_,_,_,h,_,_=>h.elim
theorem pW(h:u4 P t=some xs):∃z,(zeroValue t).run P w= .ok z w/\bj (V.aE γ tok w) xs z.cells.toList/\∃i,P.info? t=some i/\i.zero=some z:=by
 unfold u4 at h
 split at h
 ·rename_i z hz
  simp only[aV] at h
  obtain⟨k,hk,rfl⟩:=h
  cases hi:P.info? t with
  |none=>simp[hi] at hz
  |some i=>
   simp only[hi,q9] at hz
   refine⟨z,?_,tL (K.g_ (y6 hk)),i,rfl,hz⟩
   simp[zeroValue,typeInfo,hi,hz]
 ·cases h
theorem run_places{P:Program}(w:World):∀(fs:List Field),fs.all (fun f=>(P.info? f.type).isSome)=true->
 (fs.mapM (m:=Sem) fun f=>do pure (f.offset,<-sizeOf f.type)).run P w= .ok (fs.map fun f=>(f.offset,P.cellsOf f.type)) w
 |[],_=>by simp
 |f::fs,h=>by
  simp only[pe,cY] at h
  obtain⟨i,hi⟩:=Option.isSome_iff_exists.1 h.1
  have ih:=run_places (P:=P) w fs h.2
  rw[fv,Sem.run_bind]
  simp only[Sem.run_bind,run_sizeOf hi,Result.andThen_ok,Sem.run_pure]
  rw[ih]
  rfl
theorem Il{parts:List (Nat×T)}{F3:List (Nat×Value)}(h:Ng P t parts=some r)(hp:bj (fun(p:Nat×T) (q:Nat×Value)=>p.1=q.1/\p.2.aE γ tok w q.2) parts F3):∃v,(Instr.build t F3.toArray).run P w= .ok v w/\r.aE γ tok w v:=by
 unfold Ng at h
 split at h
 ·rename_i z Bo hz Ua
  simp only[aV] at h
  obtain⟨cs,mv,rfl⟩:=h
  obtain⟨zv,PI,Bv,_⟩:=pW (γ:=γ) (tok:=tok) (w:=w) hz
  unfold Kv at Ua
  split at Ua
  ·rename_i fs hu
   split at Ua
   ·rename_i lz
    cases Ua
    have aj0:∀(i:Nat) (p:Nat×Nat),(fs[i]?).map (fun(f:Field)=>(f.offset,P.cellsOf f.type))=some p->((fs.toList.map fun(f:Field)=>(f.offset,P.cellsOf f.type)).toArray)[i]?=some p:=fun i p hip=>by
     simpa using hip
    obtain⟨jQ,h1,h2⟩:=vc aj0 hp mv Bv
    refine⟨.agg jQ,?_,⟨jQ.toList,by simp,tL h2⟩⟩
    have hm:(fs.mapM (m:=Sem) fun(f:Field)=>do pure (f.offset,<-sizeOf f.type)).run P w= .ok (fs.toList.map fun(f:Field)=>(f.offset,P.cellsOf f.type)).toArray w:=by
     have:=run_places (P:=P) w fs.toList lz
     rw[<-Db (xs:=fs),List.mapM_toArray,Sem.run_map,this]
     simp
    simp only[Instr.build,Sem.run_bind,PI,Result.andThen_ok,run_underlying hu,hm,h1,Sem.run_pure]
   ·cases Ua
  ·rename_i n e hu
   split at Ua
   ·rename_i hi
    cases Ua
    obtain⟨i,hi⟩:=Option.isSome_iff_exists.1 hi
    obtain⟨jQ,h1,h2⟩:=vc (Ns:=fun i=>some (i*P.cellsOf e,P.cellsOf e)) (fun _ _ h=>h) hp mv Bv
    refine⟨.agg jQ,?_,⟨jQ.toList,by simp,tL h2⟩⟩
    simp only[Instr.build,Sem.run_bind,PI,Result.andThen_ok,run_underlying hu,run_sizeOf hi,h1,Sem.run_pure]
   ·cases Ua
  ·cases Ua
 ·cases h
variable{s:TypeId}
theorem r7{f:Field}(h:Cu P s i=some f):∃fs,P.underlying s=some (.struct fs)/\fs[i]?=some f:=by
 unfold Cu at h
 split at h
 ·exact⟨_,by assumption,h⟩
 ·cases h
theorem vd{f:Field}(h0:¬P.cellsOf f.type=0)(b o:Nat)(w:World):(fieldPlace ⟨b,o,none⟩ f).run P w= .ok ⟨b,o+f.offset,none⟩ w:=by
 cases hi:P.info? f.type with
 |none=>simp[Program.cellsOf,hi] at h0
 |some i=>simp[fieldPlace,run_sizeOf hi,h0,Addr.add_mid]
theorem AM{a:Value}(h:xC P s x i=some r)(hx:x.aE γ tok w a):∃v,(Instr.fieldAt s a i).run P w= .ok v w/\r.aE γ tok w v:=by
 unfold xC at h
 split at h
 ·rename_i f id off hf hc
  obtain⟨fs,hu,hfi⟩:=r7 hf
  split at h
  ·cases h
  ·rename_i h0
   cases h
   rw[dT hc] at hx
   simp only[T.aE,K.aE,V.aE] at hx
   obtain⟨b,o,hl,rfl⟩:=hx
   refine⟨.pointer (some ⟨b,o+off+f.offset,none⟩),?_,?_⟩
   ·simp[Instr.fieldAt,run_underlying hu,hfi,Instr.sureAddr,vd h0]
   ·simp only[T.aE,K.aE,V.aE];exact⟨b,o,hl,by rw[Cn]⟩
 ·rename_i f cells hf hc
  obtain⟨fs,hu,hfi⟩:=r7 hf
  split at h
  ·cases h
  ·rename_i h0
   cases h
   rw[dT hc] at hx
   simp only[T.aE,K.aE,V.aE,C.aE] at hx
   obtain⟨b,o,rfl,mv⟩:=hx
   refine⟨.pointer (some ⟨b,o+f.offset,none⟩),?_,?_⟩
   ·simp[Instr.fieldAt,run_underlying hu,hfi,Instr.sureAddr,vd h0]
   ·simp only[T.aE,K.aE,V.aE,C.aE];exact⟨b,_,rfl,pP mv _⟩
 ·cases h
theorem Bw(h:Ky P t xs off=some r)(hx:bj (V.aE γ tok w) xs vs):∃v,(part t vs.toArray off).run P w= .ok v w/\r.aE γ tok w v:=by
 unfold Ky ny at h
 cases hu:P.underlying t with
 |none=>simp[hu] at h
 |some d=>
  obtain⟨i,hi⟩:=info_of_underlying hu
  cases hd:d.isRow with
  |true=>
   simp only[hu,dw,hd] at h
   split at h
   ·cases h
    refine⟨.agg ((vs.drop off).take (P.cellsOf t)).toArray,?_,⟨_,rfl,(hx.drop _).take _⟩⟩
    unfold part
    simp only[Sem.run_bind,wm hu,hd,Result.andThen_ok,bu,run_sizeOf hi,Sem.run_pure]
    congr 2
    apply Kj
    simp[HX]
   ·cases h
  |false=>
   simp only[hu,dw,hd,aV] at h
   obtain⟨x,hxo,rfl⟩:=h
   obtain⟨v,hv,hr⟩:=hx.get off x hxo
   refine⟨v,?_,by simpa only[T.aE,K.aE] using hr⟩
   unfold part
   simp[wm hu,hd,hv]
theorem Im{a:Value}(h:Nh P s x i=some r)(hx:x.aE γ tok w a):∃v,(Instr.field s a i).run P w= .ok v w/\r.aE γ tok w v:=by
 unfold Nh at h
 split at h
 ·rename_i f xs hf
  obtain⟨fs,hu,hfi⟩:=r7 hf
  simp only[T.aE,K.aE] at hx
  obtain⟨vs,rfl,Rf⟩:=hx
  obtain⟨v,h1,h2⟩:=Bw h Rf
  exact⟨v,by simp[Instr.field,run_underlying hu,hfi,asAgg,h1],h2⟩
 ·cases h
variable{j:Nat}
theorem mV{i:T}{a:Value}(h:rn i n=some j)(hx:i.aE γ tok w a):∃k x,a= .int k x/\0<=x/\x<n/\x.toNat=j:=by
 unfold rn at h
 split at h
 ·rename_i q x hi
  split at h
  ·rename_i hb
   cases h
   rw[ry hi,ck] at hx
   exact⟨q,x,hx.1,hb.1,hb.2,rfl⟩
  ·cases h
 ·cases h
theorem mW{x:V}(h:x.lj=some (sz,es))(hx:x.aE γ tok w v):(C.slice sz es).aE γ.fr w v:=by
 unfold V.lj at h
 split at h
 ·cases h;simpa only[V.aE] using hx
 ·cases h;exact hx.1
 ·cases h
theorem C.Rh(h:(C.slice sz es).aE Fr w v){c:List C}(hj:es[j]?=some c):
 ∃b o cap,v= .slice (some ⟨b,o,none⟩) es.length cap/\es.length<=cap/\c.length=sz/\dp Fr w b c (o+j*sz):=by
 simp only[C.aE] at h
 obtain⟨a,len,cap,rfl,rfl,rZ,h⟩:=h
 rcases h with⟨_,h0,_⟩|⟨b,o,rfl,hr⟩
 ·have:=(List.getElem?_eq_some_iff.1 hj).1;omega
 ·exact⟨b,o,cap,rfl,rZ,ob hr j c hj⟩
theorem AN{i:T}{a ia:Value}(h:oe P t x i=some r)(hx:x.aE γ tok w a)(hi:i.aE γ tok w ia):
 ∃v,(Instr.indexAt t a ia).run P w= .ok v w/\r.aE γ tok w v:=by
 unfold oe at h
 split at h
 ·rename_i n e hu
  split at h
  ·cases h
  ·rename_i FV
   obtain⟨ie,FV⟩:∃i,P.info? e=some i:=by
    cases hq:P.info? e with
    |none=>simp[hq] at FV
    |some i=>exact⟨i,rfl⟩
   split at h
   ·rename_i id off hc
    simp only[aV] at h
    obtain⟨j,hj,rfl⟩:=h
    obtain⟨k,q,rfl,h0,h1,rfl⟩:=mV hj hi
    rw[dT hc] at hx
    simp only[T.aE,K.aE,V.aE] at hx
    obtain⟨b,o,hl,rfl⟩:=hx
    refine⟨.pointer (some ⟨b,o+off+q.toNat*P.cellsOf e,none⟩),?_,?_⟩
    ·simp[Instr.indexAt,asIntOf,run_underlying hu,Instr.sureAddr,h0,h1,run_sizeOf FV,Addr.add_mid]
    ·simp only[T.aE,K.aE,V.aE];exact⟨b,o,hl,by rw[Cn]⟩
   ·rename_i cells hc
    simp only[aV] at h
    obtain⟨j,hj,rfl⟩:=h
    obtain⟨k,q,rfl,h0,h1,rfl⟩:=mV hj hi
    rw[dT hc] at hx
    simp only[T.aE,K.aE,V.aE,C.aE] at hx
    obtain⟨b,o,rfl,mv⟩:=hx
    refine⟨.pointer (some ⟨b,o+q.toNat*P.cellsOf e,none⟩),?_,?_⟩
    ·simp[Instr.indexAt,asIntOf,run_underlying hu,Instr.sureAddr,h0,h1,run_sizeOf FV,Addr.add_mid]
    ·simp only[T.aE,K.aE,V.aE,C.aE];exact⟨b,_,rfl,pP mv _⟩
   ·cases h
 ·rename_i e hu
  split at h
  ·cases h
  ·rename_i FV
   obtain⟨ie,FV⟩:∃i,P.info? e=some i:=by
    cases hq:P.info? e with
    |none=>simp[hq] at FV
    |some i=>exact⟨i,rfl⟩
   split at h
   ·rename_i id off sz n hc
    split at h
    ·rename_i o9
     simp only[aV] at h
     obtain⟨j,hj,rfl⟩:=h
     obtain⟨k,q,rfl,h0,h1,rfl⟩:=mV hj hi
     rw[dT hc] at hx
     simp only[T.aE,K.aE,V.aE] at hx
     obtain⟨b,o,cap,hl,rfl,_⟩:=hx
     refine⟨.pointer (some ⟨b,o+off+q.toNat*P.cellsOf e,none⟩),?_,?_⟩
     ·simp[Instr.indexAt,asIntOf,run_underlying hu,h0,h1,run_sizeOf FV,Addr.add_mid]
     ·simp only[T.aE,K.aE,V.aE];exact⟨b,o,hl,by rw[o9,Cn]⟩
    ·cases h
   ·rename_i u _ hc
    rw[dT hc] at hx
    simp only[T.aE,K.aE] at hx
    split at h
    ·rename_i sz es hs
     split at h
     ·rename_i o9
      split at h
      ·rename_i j hj
       split at h
       ·rename_i c uM
        cases h
        obtain⟨k,q,rfl,h0,h1,rfl⟩:=mV hj hi
        obtain⟨b,o,cap,rfl,_,hl,mv⟩:=C.Rh (mW hs hx) uM
        refine⟨.pointer (some ⟨b,o+q.toNat*P.cellsOf e,none⟩),?_,?_⟩
        ·simp[Instr.indexAt,asIntOf,run_underlying hu,h0,h1,run_sizeOf FV,Addr.add_mid]
        ·simp only[T.aE,K.aE,V.aE,C.aE];exact⟨b,_,rfl,by rw[<-o9];exact mv⟩
       ·cases h
      ·cases h
     ·cases h
    ·cases h
   ·cases h
 ·cases h
open Go.RowKit
theorem In{i:T}{a ia:Value}(h:Dy P t x i=some r)(hx:x.aE γ tok w a)(hi:i.aE γ tok w ia):
 ∃v,(Instr.index t a ia).run P w= .ok v w/\r.aE γ tok w v:=by
 unfold Dy at h
 split at h
 ·rename_i n e xs hu
  split at h
  ·rename_i j hj
   obtain⟨k,q,rfl,h0,h1,rfl⟩:=mV hj hi
   simp only[T.aE,K.aE] at hx
   obtain⟨vs,rfl,Rf⟩:=hx
   obtain⟨v,h2,h3⟩:=Bw h Rf
   have FV:∃ie,P.info? e=some ie:=by
    unfold Ky ny at h
    cases hue:P.underlying e with
    |none=>simp[hue] at h
    |some d=>exact info_of_underlying hue
   obtain⟨ie,FV⟩:=FV
   exact⟨v,by simp[Instr.index,asIntOf,run_underlying hu,h0,h1,run_sizeOf FV,h2],h3⟩
  ·cases h
 ·rename_i s hu
  split at h
  ·rename_i j hj
   split at h
   ·rename_i b hb
    cases h
    obtain⟨k,q,rfl,h0,h1,rfl⟩:=mV hj hi
    simp only[T.aE,K.aE,V.aE,C.aE] at hx
    obtain⟨rfl,_⟩:=hx
    refine⟨.int .u8 b.toNat,?_,ck.2 ⟨rfl,rfl⟩⟩
    simp[Instr.index,asIntOf,run_underlying hu,h0,hb]
   ·cases h
  ·cases h
 ·cases h
def tM(γ:Gh)(tok:Nat->Option Nat)(w:World):Option T->Option Value->Prop
 |none,none=>True
 |some x,some a=>x.aE γ tok w a
 |_,_=>False
theorem vf{x:Option T}{d top:Nat}(h:qt x d top=some n){a:Option Value}(hx:tM γ tok w x a):
 (x=none/\a=none/\n=d)\/∃v,a=some v/\n<=top/\∀Yk code,n<=Yk->(Instr.sliceBound v Yk code).run P w= .ok n w:=by
 cases x with
 |none=>
  simp only[qt,av] at h
  cases a with
  |none=>exact .inl ⟨rfl,rfl,h.symm⟩
  |some a=>exact hx.elim
 |some x=>
  simp only[qt] at h
  cases a with
  |none=>exact hx.elim
  |some a=>
   split at h
   ·rename_i q i hi
    split at h
    ·rename_i hb
     cases h
     simp only[tM] at hx
     rw[ry hi] at hx
     have hx:=(ck.1 hx).1
     subst hx
     refine .inr ⟨_,rfl,by omega,fun Yk code rZ=> ?_⟩
     have:0<=i/\i<=(Yk:Int):=⟨hb.1,by omega⟩
     simp[Instr.sliceBound,asIntOf,this]
    ·cases h
   ·cases h
theorem qz{i:Int}{y:Nat}{code:BoundsCode}(h:0<=i/\i<=(y:Int)):(Instr.sliceBound (.int k i) y code).run P w= .ok i.toNat w:=by
 simp[Instr.sliceBound,asIntOf,h]
theorem xL{lo hi:Option T}{l h len top:Nat}{isSlice:Bool}(hh:qt hi len top=some h)(hl:qt lo 0 h=some l){XV ahi:Option Value}(Cb:tM γ tok w lo XV)(Yl:tM γ tok w hi ahi)(rZ:len<=cap)(DI:top<=cap):(Instr.sliceBounds isSlice len cap XV ahi none).run P w= .ok (l,h,cap) w/\l<=h/\h<=max len top:=by
 have key:∀code,(match XV with|some v=>Instr.sliceBound v h code|none=>pure 0:Sem Nat).run P w= .ok l w/\l<=h:=by
  intro code
  rcases vf (P:=P) hl Cb with⟨_,rfl,rfl⟩|⟨v,rfl,h1,h2⟩
  ·exact⟨rfl,dh _⟩
  ·exact⟨h2 h code h1,h1⟩
 rcases vf (P:=P) hh Yl with⟨_,rfl,rfl⟩|⟨v,rfl,h1,h2⟩
 ·refine⟨?_,(key .sliceB).2,by omega⟩
  have k:=(key .sliceB).1
  cases XV<;>simp_all[Instr.sliceBounds]
 ·refine⟨?_,(key .sliceB).2,by omega⟩
  have k:=(key .sliceB).1
  have hb:=h2 cap (if isSlice then .sliceAcap else .sliceAlen) (by omega)
  cases XV<;>simp_all[Instr.sliceBounds]
theorem Io{lo hi mx:Option T}{a:Value}{XV ahi amx:Option Value}(h:Dz P t x lo hi mx=some r)(hx:x.aE γ tok w a)(Cb:tM γ tok w lo XV)(Yl:tM γ tok w hi ahi)(hmx:tM γ tok w mx amx):∃v,(Instr.sliceAt t a XV ahi amx).run P w= .ok v w/\r.aE γ tok w v:=by
 unfold Dz at h
 split at h
 ·rename_i s hu hc
  rw[dT hc] at hx
  simp only[T.aE,K.aE,V.aE,C.aE] at hx
  obtain⟨rfl,_⟩:=hx
  split at h
  ·cases h
  ·cases amx with
   |some _=>exact hmx.elim
   |none=>
    split at h
    ·rename_i h' hh
     split at h
     ·rename_i l hl
      cases h
      obtain⟨hb,_,_⟩:=xL (P:=P) (isSlice:=false) hh hl Cb Yl (aL _) (aL _)
      refine⟨.string (s.extract l h'),?_,ck.2 ⟨rfl,rfl⟩⟩
      simp[Instr.sliceAt,Instr.slice,run_underlying hu,hb]
     ·cases h
    ·cases h
 ·rename_i e v hu hc
  rw[dT hc] at hx
  simp only[T.aE,K.aE] at hx
  split at h
  ·rename_i sz es hs
   have py:=mW hs hx
   split at h
   ·rename_i co
    obtain⟨o9,FV⟩:=co
    obtain⟨ie,FV⟩:=Option.isSome_iff_exists.1 FV
    have amL:=py
    simp only[C.aE] at py
    obtain⟨cF,len,cap,rfl,rfl,rZ,aaV⟩:=py
    split at h
    ·rename_i m
     cases amx with
     |none=>exact hmx.elim
     |some am=>
      split at h
      ·rename_i Km
       split at h
       ·rename_i k1 p k2 q l hm hh hl
        split at h
        ·rename_i jI
         obtain⟨rfl,rfl⟩:=jI
         cases h
         cases ahi with
         |none=>exact Yl.elim
         |some ah=>
          simp only[tM] at hmx Yl
          rw[ry hm] at hmx
          rw[ry hh] at Yl
          have e1:=(ck.1 hmx).1
          have e2:=(ck.1 Yl).1
          subst e1;subst e2
          have hb:(Instr.sliceBounds true es.length cap XV (some (.int k2 l)) (some (.int k1 l))).run P w= .ok (l,l,l) w:=by
           have b1:=fun(y:Nat) code (hy:l<=y)=>qz (P:=P) (w:=w) (k:=k1) (i:=(l:Int)) (y:=y) (code:=code) (by omega)
           have b2:=fun(y:Nat) code (hy:l<=y)=>qz (P:=P) (w:=w) (k:=k2) (i:=(l:Int)) (y:=y) (code:=code) (by omega)
           simp only[At] at b1 b2
           rcases vf (P:=P) hl Cb with⟨_,rfl,rfl⟩|⟨v,rfl,h1,h2⟩
           ·simp only[Instr.sliceBounds,Sem.run_bind,b1 cap _ (by omega),b2 _ _ (aL _),Result.andThen_ok,Sem.run_pure]
           ·simp only[Instr.sliceBounds,Sem.run_bind,b1 cap _ (by omega),b2 _ _ (aL _),h2 _ _ (aL _),Result.andThen_ok,Sem.run_pure]
          refine⟨.slice cF 0 0,?_,?_⟩
          ·simp[Instr.sliceAt,Instr.slice,run_underlying hu,hb,run_sizeOf FV]
          ·simp only[T.aE,K.aE,V.aE]
           refine⟨?_,cF,0,rfl⟩
           simp only[C.aE]
           refine⟨cF,0,0,rfl,rfl,aL _,?_⟩
           rcases aaV with⟨_,_⟩|⟨b,o,rfl,hr⟩
           ·exact .inl ⟨rfl,rfl⟩
           ·exact .inr ⟨b,o,rfl,by simp only[dF]⟩
        ·cases h
       ·cases h
      ·cases h
    ·cases amx with
     |some _=>exact hmx.elim
     |none=>
      split at h
      ·rename_i h' hh
       split at h
       ·rename_i l hl
        obtain⟨hb,hlh,hhl⟩:=xL (P:=P) (isSlice:=true) hh hl Cb Yl rZ rZ
        have dK:h'<=es.length:=by omega
        have ka:(Instr.sliceAt t (.slice cF es.length cap) XV ahi none).run P w= .ok (.slice (if cap=l then cF else cF.map (·.add (l*P.cellsOf e))) (h'-l) (cap-l)) w:=by
         simp[Instr.sliceAt,Instr.slice,run_underlying hu,hb,run_sizeOf FV]
        have Ub:(C.slice (P.cellsOf e) ((es.take h').drop l)).aE γ.fr w (.slice (if cap=l then cF else cF.map (·.add (l*P.cellsOf e))) (h'-l) (cap-l)):=by
         simp only[C.aE]
         refine⟨_,_,_,rfl,by simp;omega,by omega,?_⟩
         rcases aaV with⟨h0,Kc⟩|⟨b,o,rfl,hr⟩
         ·left;refine⟨by omega,by omega⟩
         ·right
          by_cases ly:cap=l
          ·refine⟨b,o,by simp[ly],?_⟩
           rw[HV (by simp;omega)]
           simp only[dF]
          ·refine⟨b,o+l*P.cellsOf e,by simp[ly,Addr.add_mid],?_⟩
           rcases o9 with rfl|rfl
           ·exact Bm l (Bn h' hr) (by simp;omega)
           ·simp[dF]
        split at h
        ·rename_i hv afD
         cases h
         refine⟨_,ka,?_⟩
         simp only[T.aE,K.aE,V.aE]
         have Ym:=hx
         simp only[V.aE,qp] at Ym
         obtain⟨_,a',n',hq⟩:=Ym
         have hh2:h'=es.length:=by simpa[qt] using hh.symm
         subst hh2
         rw[qX] at Ub
         simp only[Value.slice.injEq] at hq
         obtain⟨_,hq1,Uc⟩:=hq
         exact⟨Ub,_,_,by rw[hq1,Uc]⟩
        ·cases h
         exact⟨_,ka,by simpa only[T.aE,K.aE,V.aE] using Ub⟩
       ·cases h
      ·cases h
   ·cases h
  ·cases h
 ·rename_i n e id off hu hc
  rw[dT hc] at hx
  simp only[T.aE,K.aE,V.aE] at hx
  obtain⟨b,o,hl,rfl⟩:=hx
  split at h
  ·rename_i _ h' hh
   cases amx with
   |some _=>exact hmx.elim
   |none=>
    split at h
    ·rename_i _ l aj2
     split at h
     ·rename_i co
      cases h
      have FV:∃ie,P.info? e=some ie:=by
       cases hi:P.info? e with
       |none=>simp[Program.cellsOf,hi] at co
       |some i=>exact⟨i,rfl⟩
      obtain⟨ie,FV⟩:=FV
      obtain⟨hb,_,_⟩:=xL (P:=P) (isSlice:=false) hh aj2 Cb Yl (aL _) (aL _)
      have jV:¬n=l:=by omega
      refine⟨.slice (some ⟨b,o+off+l*P.cellsOf e,none⟩) (h'-l) (n-l),?_,?_⟩
      ·simp[Instr.sliceAt,run_underlying hu,Instr.sureAddr,hb,run_sizeOf FV,jV,Addr.add_mid]
      ·simp only[T.aE,K.aE,V.aE]
       exact⟨b,o,n-l,hl,by rw[Cn],by omega⟩
     ·cases h
    ·cases h
  ·cases h
 ·cases h
open Go.RowKit
theorem Nt{ts:List TypeId}{ty:TypeId}{a:Value}(h:T7 P t x=some r)(hx:x.aE γ tok w a):
 ∃v,(Builtin.len_ (t::ts).toArray ty #[a]).run P w= .ok v w/\r.aE γ tok w v:=by
 unfold T7 at h
 split at h
 ·rename_i s hu
  cases h
  simp only[T.aE,K.aE,V.aE,C.aE] at hx
  obtain⟨rfl,_⟩:=hx
  exact⟨_,by simp[Builtin.len_,run_underlying hu,goInt],ck.2 ⟨rfl,rfl⟩⟩
 ·rename_i n e k hu
  cases h
  exact⟨_,by simp[Builtin.len_,run_underlying hu,goInt],ck.2 ⟨rfl,rfl⟩⟩
 ·rename_i e id off sz n hu
  cases h
  simp only[T.aE,K.aE,V.aE] at hx
  obtain⟨b,o,cap,_,rfl,_⟩:=hx
  exact⟨_,by simp[Builtin.len_,run_underlying hu,goInt],ck.2 ⟨rfl,rfl⟩⟩
 ·rename_i e v _ hu
  split at h
  ·rename_i sz es hs
   cases h
   simp only[T.aE,K.aE] at hx
   have py:=mW hs hx
   simp only[C.aE] at py
   obtain⟨cF,len,cap,rfl,rfl,_⟩:=py
   exact⟨_,by simp[Builtin.len_,run_underlying hu,goInt],ck.2 ⟨rfl,rfl⟩⟩
  ·cases h
 ·rename_i k e es hu
  cases h
  simp only[T.aE,K.aE,V.aE,C.aE] at hx
  obtain⟨b,Av,Gv,rfl,_,hh,rfl⟩:=hx
  refine⟨.int .i64 Av.size,?_,ck.2 ⟨by simp,rfl⟩⟩
  simp[Builtin.len_,run_underlying hu,goInt,getObj,Sem.run,hh]
 ·cases h
theorem DJ{q:IntKind}{n:Int}{qv:IntKind}:∀{Av:List MapEntry} {r:Int×Bool} (i:Nat),GE q n qv (Av.map (fun e=>(e.key,e.val)))=some r->
 (r.2=true/\∃j,Instr.findNow (.int q) (.int q n) Av i=some (some (j, .int qv r.1)))\/(r=(0,false)/\Instr.findNow (.int q) (.int q n) Av i=some none)
 |[],r,i,h=>by simp[GE] at h;exact .inr ⟨h.symm,rfl⟩
 |e::es,r,i,h=>by
  obtain⟨key,val,an5⟩:=e
  simp only[eY] at h
  unfold GE at h
  split at h
  ·rename_i jI;cases jI
  ·rename_i a m b x rX jI
   simp only[List.cons.injEq,aY] at jI
   obtain⟨⟨rfl,rfl⟩,rfl⟩:=jI
   split at h
   ·rename_i hk
    obtain⟨rfl,rfl⟩:=hk
    split at h
    ·rename_i hnm
     cases h
     refine .inl ⟨rfl,i,?_⟩
     simp[Instr.findNow,Instr.sameNow,hnm]
    ·rename_i hnm
     have afG:(n==m)=false:=by simpa using hnm
     rcases DJ (i+1) h with⟨h1,j,h2⟩|⟨h1,h2⟩
     ·exact .inl ⟨h1,j,by simp[Instr.findNow,Instr.sameNow,afG,h2]⟩
     ·exact .inr ⟨h1,by simp[Instr.findNow,Instr.sameNow,afG,h2]⟩
   ·cases h
  ·cases h
theorem F4{i:T}{ok:Bool}{a b:Value}(h:Cw P t x i ok=some r)(hx:x.aE γ tok w a)(hi:i.aE γ tok w b):
 ∃v,(Instr.lookup t a b ok).run P w= .ok v w/\r.aE γ tok w v:=by
 unfold Cw at h
 split at h
 ·rename_i q n qv es dB
  simp only[aV] at h
  obtain⟨rr,hl,rfl⟩:=h
  unfold DA at dB
  split at dB
  ·rename_i kt vt hu
   split at dB
   ·rename_i q1 qv1 z es1 q' n1 hk hz hc hr
    split at dB
    ·rename_i hq
     obtain⟨rfl,rfl⟩:=hq
     cases dB
     rw[dT hc] at hx
     rw[nC hr,ck] at hi
     obtain⟨rfl,_⟩:=hi
     simp only[T.aE,K.aE,V.aE,C.aE] at hx
     obtain⟨bl,Av,Gv,rfl,_,hh,rfl⟩:=hx
     have hzr:(zeroValue vt).run P w= .ok (.int qv 0) w:=by
      cases hi:P.info? vt with
      |none=>simp[hi] at hz
      |some inf=>
       simp only[hi,q9] at hz
       simp[zeroValue,typeInfo,hi,hz]
     have hck:(Instr.checkKey Av.isEmpty 10000 kt (.int q n)).run P w= .ok () w:=MapKept.run_checkKey (d:= .int q) hk (by simp[MapKept.IsKey]) _ _
     have afH:(getObj bl).run P w= .ok (.map Av Gv) w:=by simp[getObj,Sem.run,hh]
     rcases DJ 0 hl with⟨h1,j,h2⟩|⟨h1,h2⟩
     ·have hf:=MapKept.run_findKey (w:=w) hk h2
      refine⟨if ok then .tuple #[.int qv rr.1, .bool rr.2] else .int qv rr.1,?_,?_⟩
      ·unfold Instr.lookup
       simp only[Sem.run_bind,run_underlying hu,Result.andThen_ok,afH,Sem.run_pure,hck,hf,h1]
      ·unfold Cv
       cases ok
       ·exact ck.2 ⟨rfl,rfl⟩
       ·simp only[bu,T.aE]
        exact⟨_,rfl,⟨by simp[K.aE,V.aE,C.aE,Value.oneCell'],by simp[K.aE,V.aE,C.aE,Value.oneCell'],trivial⟩⟩
     ·have hf:=MapKept.run_findKey (w:=w) hk h2
      subst h1
      refine⟨if ok then .tuple #[.int qv 0, .bool false] else .int qv 0,?_,?_⟩
      ·unfold Instr.lookup
       simp only[Sem.run_bind,run_underlying hu,Result.andThen_ok,afH,Sem.run_pure,hck,hf,hzr]
      ·unfold Cv
       cases ok
       ·exact ck.2 ⟨rfl,rfl⟩
       ·simp only[bu,T.aE]
        exact⟨_,rfl,⟨by simp[K.aE,V.aE,C.aE,Value.oneCell'],by simp[K.aE,V.aE,C.aE,Value.oneCell'],trivial⟩⟩
    ·cases dB
   ·cases dB
  ·cases dB
 ·cases h
theorem tN{P:Program}{γ:Gh}{tok:Nat->Option Nat}{w:World}(mn:Bool):∀{xs:List T} {vs:List Value} {x r:T} {a:Value},AG mn x xs=some r->x.aE γ tok w a->bj (T.aE γ tok w) xs vs->
 ∃v,(vs.foldlM (m:=Sem) (if mn then Builtin.min2 else Builtin.max2) a).run P w= .ok v w/\r.aE γ tok w v
 |[],[],x,r,a,h,hx,_=>by
  simp only[AG,av] at h
  subst h
  exact⟨a,by simp,hx⟩
 |y::ys,u::us,x,r,a,h,hx,hys=>by
  simp only[AG] at h
  split at h
  ·rename_i k p k' q h1 h2
   split at h
   ·rename_i hk
    subst hk
    rw[ry h1,ck] at hx
    have hy:=hys.1
    rw[ry h2,ck] at hy
    obtain⟨rfl,_⟩:=hx
    obtain⟨rfl,_⟩:=hy
    have PJ:((if mn then Builtin.min2 else Builtin.max2) (.int k p) (.int k q)).run P w= .ok (.int k (if mn then(if q<p then q else p) else(if q>p then q else p))) w:=by
     cases mn<;>simp[Builtin.min2,Builtin.max2]
    obtain⟨v,h3,h4⟩:=tN mn h (ck.2 ⟨rfl,rfl⟩) hys.2
    refine⟨v,?_,h4⟩
    rw[List.foldlM_cons,Sem.run_bind,PJ,Result.andThen_ok]
    exact h3
   ·cases h
  ·cases h
 |[],_::_,_,_,_,_,_,h=>h.elim
 |_::_,[],_,_,_,_,_,h=>h.elim
theorem Cz{x:V}{c:C}(h:x.GB=some c)(hx:x.aE γ tok w v):c.aE γ.fr w v:=by
 unfold V.GB at h
 split at h
 ·cases h;simpa only[V.aE] using hx
 ·cases h;exact hx.1
 ·cases h
theorem DK{c:C ⊕ (Nat×Nat)}(h:u5 x=some c)(hx:x.aE γ tok w v):ph γ w c v:=by
 unfold u5 at h
 split at h
 ·rename_i id off hc
  cases h
  rw[dT hc] at hx
  simp only[T.aE,K.aE,V.aE] at hx
  exact hx
 ·rename_i u _ hc
  simp only[aV] at h
  obtain⟨c,CA,rfl⟩:=h
  rw[dT hc] at hx
  simp only[T.aE,K.aE] at hx
  exact Cz CA hx
 ·cases h
theorem KB{α β:Type}{R:β->Value->Prop}{f:α->Option β}{g:α->Value}:∀{xs:List α} {ys:List β},(∀a b,a∈xs->f a=some b->R b (g a))->xs.mapM f=some ys->bj R ys (xs.map g)
 |[],ys,_,h=>by simp at h;subst h;trivial
 |x::xs,ys,hf,h=>by
  rw[fv] at h
  simp only[j5,j4,ig,av] at h
  obtain⟨y,hy,zs,hz,rfl⟩:=h
  exact⟨hf _ _ (by simp) hy,KB (fun a b ha=>hf a b (by simp[ha])) hz⟩
theorem CB{γ:Gh}{tok:Nat->Option Nat}{w:World}{α:Type}{f:α->T}{g:α->Value}(h:∀a,(f a).aE γ tok w (g a)):∀(xs:List α),bj (T.aE γ tok w) (xs.map f) (xs.map g)
 |[]=>trivial
 |x::xs=>⟨h x,CB h xs⟩
theorem zd{P:Program}{t:TypeId}{γ:Gh}{tok:Nat->Option Nat}{w:World}:∀{ps:List (Nat×T)} {qs:List (Nat×Value)},bj (fun(p:Nat×T) (q:Nat×Value)=>p.1=q.1/\p.2.aE γ tok w q.2) ps qs->bj (fun(p:Nat×T) (q:Nat×Value)=>p.1=q.1/\p.2.aE γ tok w q.2) (Dw P t ps) qs
 |[],[],_=>trivial
 |_::_,_::_,h=>⟨⟨h.1.1,sG h.1.2⟩,zd h.2⟩
 |[],_::_,h=>h.elim
 |_::_,[],h=>h.elim
theorem AO{γ:Gh}{tok:Nat->Option Nat}{w:World}{f:Operand->T}{g:Operand->Value}(h:∀a,(f a).aE γ tok w (g a)):∀(ps:List (Nat×Operand)),
 bj (fun(p:Nat×T) (q:Nat×Value)=>p.1=q.1/\p.2.aE γ tok w q.2) (ps.map fun(i,x)=>(i,f x)) (ps.map fun(i,x)=>(i,g x))
 |[]=>trivial
 |(_,x)::ps=>⟨⟨rfl,h x⟩,AO h ps⟩
theorem xM{f:Operand->T}{g:Operand->Value}(h:∀a,(f a).aE γ tok w (g a))(x:Option Operand):tM γ tok w (x.map f) (x.map g):=by
 cases x with
 |none=>trivial
 |some x=>exact h x
theorem Mem.pX(m:Mem)(d:Option Tmp)(nv:Nat)(x:T)(xs:List V):m.apply d nv {dst:=x,nv:=some xs}=Mem.put {m with var:=fun i=>if i=nv then some xs else m.var i} d x:=by
 cases d with
 |none=>simp[Mem.apply,Mem.put,lk]
 |some d=>
  simp only[Mem.apply,Mem.put,lk,H9,and_true,av]
  congr 1
  funext t
  by_cases h:d=t
  ·simp[h]
  ·simp[h,f_ h]
theorem ze(h:ix F γ m a w)(hg:iy E.gl γ.fr w){o:Oper}(hd:∀t,o.dst=some t->t<F.n)(Gx:m.var nv=none)(hx:bj (V.aE γ m.tok w) xs vs)(ka:(execOp a.eval o).run E.P w= .ok (.value (.pointer (some ⟨w.heap.size,0,none⟩))) (w.alloc (.cells vs.toArray t))):
 o.wp E.P a w (lr E F (m.apply o.dst nv {dst:= .k (.v (.fX nv 0)),nv:=some xs})) Q:=by
 obtain⟨h1,h2⟩:=h.newVar Gx hx t
 refine nD ka ⟨_,?_,hg.mono h2.ev⟩
 rw[Mem.pX]
 refine h1.put hd ?_
 simp only[T.aE,K.aE,V.aE]
 exact⟨w.heap.size,0,by simp,rfl⟩
theorem Mem.KC(m:Mem)(nv id off:Nat)(xs ks ys:List V)(rv:List Nat)(x:T)(d:Option Tmp)(hv:m.var id=some xs)(rT:off+ks.length<=xs.length):m.apply d nv {dst:=x,uv:=[(id,ys)],rv,pv:=some (id,off,ks)}=Mem.put {m with var:=fun i=>if i=id then some (xs.take off++ks++xs.drop (off+ks.length)) else m.var i} d x:=by
 have hv:(m.apply d nv {dst:=x,uv:=[(id,ys)],rv,pv:=some (id,off,ks)}).var=fun i=>if i=id then some (xs.take off++ks++xs.drop (off+ks.length)) else m.var i:=by
  funext i
  simp only[Mem.apply]
  by_cases h:i=id
  ·subst h
   simp[hv,kH,rT]
  ·simp[h]
 cases d with
 |none=>
  simp only[Mem.put]
  rw[<-hv]
  simp[Mem.apply,lk]
 |some d=>
  simp only[Mem.put]
  rw[<-hv]
  simp only[Mem.apply,lk,av]
  congr 1
  funext t
  by_cases h:d=t
  ·simp[h]
  ·simp[h,f_ h]
theorem DL(h:ix F γ m a w)(hg:iy E.gl γ.fr w){o:Oper}(hd:∀t,o.dst=some t->t<F.n){x:Operand}(ho:o.op= .store t x y){o':Nat}{cs:List V}(hv:m.var id=some xs)(hl:γ.ky id=some (b,o'))(hp:a.eval x= .pointer (some ⟨b,o'+off,none⟩))(Yj:bj (V.aE γ m.tok w) cs (a.eval y).cells.toList)(o9:cs.length=E.P.cellsOf t)(rT:off+cs.length<=xs.length)(DM:(E.P.info? t).isSome=true):
 o.wp E.P a w (lr E F (Mem.put {m with var:=fun i=>if i=id then some (xs.take off++cs++xs.drop (off+cs.length)) else m.var i} o.dst .skip)) Q:=by
 obtain⟨i,hi⟩:=Option.isSome_iff_exists.1 DM
 have dK:=Yj.length
 obtain⟨b',o'',h1,⟨vs,h2,h3⟩,h4,h5⟩:=h.vars id xs hv
 rw[hl] at h1;cases h1
 have sH:=h.store hv hl off Yj (by omega)
 have jr:=h.TY hv hl off (us:=(a.eval y).cells.toList) (by omega)
 have Ri:∀u∈(a.eval y).cells.toList,u.oneCell'=true:=fun u hu=>by
  obtain⟨i,hi,rfl⟩:=Do hu
  have hik:i<cs.length:=by omega
  obtain⟨u',XW,hr⟩:=Yj.get i _ (cm hik)
  rw[cm hi] at XW
  cases XW
  exact V.we hr
 have ka:(execOp a.eval o).run E.P w= .ok .skip (w.setCells b (o'+off) (a.eval y).cells.toList):=by
  have abO:(storeVar t ⟨b,o'+off,none⟩ (a.eval y)).run E.P w= .ok () (w.setCells b (o'+off) (a.eval y).cells.toList):=by
   have hth:w.there b (o'+off) (a.eval y).cells.toList.length:=fun j hj=>by
    have:=h4 (off+j) (by omega)
    rwa[show o'+(off+j)=o'+off+j by omega] at this
   have:=run_storeCells_cells (P:=E.P) b (o'+off) (a.eval y).cells.toList 0 w (fun j hj=>by simpa using(hth j hj).1) (fun j hj=>by simpa using(hth j hj).2) Ri
   simp only[qY] at this
   have Nu:(a.eval y).cells.size=E.P.cellsOf t:=by
    have:(a.eval y).cells.toList.length=(a.eval y).cells.size:=by simp
    omega
   simp[storeVar,run_sizeOf hi,Nu,this]
  simp only[execOp,ho,hp,Instr.storeAt,Instr.sureAddr,Sem.run_bind,Sem.run_pure,Result.andThen_ok,abO]
 unfold Oper.wp
 rw[ka]
 refine⟨γ,?_,hg.mono jr.ev⟩
 refine sH.put hd ?_
 simp only[T.aE]
theorem KD(h:ix F γ m a w)(hg:iy E.gl γ.fr w){o:Oper}(hd:∀t,o.dst=some t->t<F.n){x:Operand}(ho:o.op= .store t x y)(hh:DC E o=false)(he:aA E m nv nt o=some e):o.wp E.P a w (lr E F (m.apply o.dst nv e)) Q:=by
 have hx:=mr h hg x
 have hy:=sG (P:=E.P) (t:=t) (mr h hg y)
 simp only[aA,ho] at he
 split at he
 ·rename_i id off k hc hk
  split at he
  ·rename_i xs hv
   split at he
   ·rename_i co
    obtain⟨o9,rT,DM⟩:=co
    rw[hh] at he
    simp only[ft,br,av] at he
    subst he
    rw[dT hc] at hx
    simp only[T.aE,K.aE,V.aE] at hx
    obtain⟨b,o',hl,hp⟩:=hx
    rw[GH hk] at hy
    simp only[T.aE] at hy
    rw[Mem.KC _ _ _ _ _ _ _ _ _ _ hv rT]
    exact DL h hg hd ho hv hl hp (K.g_ hy) o9 rT DM
   ·cases he
  ·cases he
 ·cases he
theorem nF{γ:Gh}{tok:Nat->Option Nat}{w:World}:∀{xs:List V} {e:List C} {us:List Value},xs.mapM V.GB=some e->bj (V.aE γ tok w) xs us->bj (C.aE γ.fr w) e us
 |[],e,[],h,_=>by simp at h;subst h;trivial
 |y::ys,e,u::us,h,hu=>by
  rw[fv] at h
  simp only[j5,j4,ig,av] at h
  obtain⟨c,CA,cs,mv,rfl⟩:=h
  exact⟨Cz CA hu.1,nF mv hu.2⟩
 |[],_,_::_,_,h=>h.elim
 |_::_,_,[],_,h=>h.elim
theorem Bx{α:Type}{size:Nat}:∀{es:List (List α)} {i:Nat} {e:List α},(∀x∈es,x.length=size)->i<es.length->e.length=size->
 (es.set i e).flatten=es.flatten.take (i*size)++e++es.flatten.drop (i*size+e.length)
 |x::es,0,e,h,_,he=>by
  have:=h x (by simp)
  simp only[List.set_cons_zero,tu,Nat.zero_mul,List.take_zero,jf,gt]
  rw[List.drop_append,HV (by omega),show e.length-x.length=0 by omega]
  simp
 |x::es,i+1,e,h,hi,he=>by
  have hx:=h x (by simp)
  have ih:=Bx (es:=es) (i:=i) (e:=e) (fun y hy=>h y (by simp[hy])) (by simpa using hi) he
  simp only[List.set_cons_succ,tu,ih]
  have e1:List.take ((i+1)*size) x=x:=List.take_of_length_le (by rw[lU];omega)
  have e2:List.drop ((i+1)*size+e.length) x=[]:=HV (by rw[lU];omega)
  rw[List.take_append,List.drop_append,e1,e2]
  rw[show(i+1)*size-x.length=i*size by rw[lU];omega,show(i+1)*size+e.length-x.length=i*size+e.length by rw[lU];omega]
  simp[kF]
 |[],i,e,_,hi,_=>by simp at hi
theorem jJ{α:Type}{size:Nat}:∀{es:List (List α)},(∀x∈es,x.length=size)->es.flatten.length=es.length*size
 |[],_=>by simp
 |x::es,h=>by
  simp only[tu,iq,cV,jJ (es:=es) (fun y hy=>h y (by simp[hy])),h x (by simp),lU]
  omega
theorem bj.Yn{R:C->Value->Prop}{xs ys:List C}(h:bj R xs vs)(k:bj R ys us)(off:Nat):
 bj R (xs.take off++ys++xs.drop (off+ys.length)) (vs.take off++us++vs.drop (off+us.length)):=by
 rw[k.length]
 exact((h.take off).append k).append (h.drop _)
theorem By{γ:Gh}{tok:Nat->Option Nat}{w:World}{size len:Nat}:∀{parts:List (Nat×T)} {F3:List (Nat×Value)} {es Cy:List (List C)} {vs:Array Value},
 bj (fun(p:Nat×T) (q:Nat×Value)=>p.1=q.1/\p.2.aE γ tok w q.2) parts F3->Kx size len es parts=some Cy->es.length=len->(∀e∈es,e.length=size)->bj (C.aE γ.fr w) es.flatten vs.toList->
 ∃jQ:Array Value,Instr.fill (fun i=>some (i*size,size)) vs F3=some jQ/\bj (C.aE γ.fr w) Cy.flatten jQ.toList/\Cy.length=len/\(∀e∈Cy,e.length=size)
 |[],[],es,Cy,vs,_,h,hl,hs,hc=>by simp[Kx] at h;subst h;exact⟨vs,rfl,hc,hl,hs⟩
 |(i,x)::parts,(j,v)::F3,es,Cy,vs,Kb,h,hl,hs,hc=>by
  obtain⟨⟨pj,hx⟩,Bu⟩:=Kb
  simp only at pj hx
  subst pj
  simp only[Kx] at h
  split at h
  ·rename_i k hk
   split at h
   ·rename_i e he
    split at h
    ·rename_i co
     obtain⟨afI,F5⟩:=co
     rw[GH hk] at hx
     simp only[T.aE] at hx
     have hec:=nF he (K.g_ hx)
     have dK:=hec.length
     have ly:=hc.length
     rw[jJ hs,hl] at ly
     simp only[Da] at dK ly
     have ajT:i*size+size<=len*size:=by rw[<-lU];exact yI _ F5
     have rT:i*size+v.cells.toList.length<=vs.size:=by simp;omega
     have abL:bj (C.aE γ.fr w) (es.set i e).flatten (pV vs (i*size) v.cells.toList).toList:=by
      rw[qy _ _ _ rT,Bx hs (by omega) afI]
      exact hc.Yn hec (i*size)
     have TI:∀y∈es.set i e,y.length=size:=fun y hy=>by
      rcases H6 hy with hy|rfl
      ·exact hs y hy
      ·exact afI
     obtain⟨jQ,h1,h2,h3⟩:=By Bu h (by simpa using hl) TI abL
     refine⟨jQ,?_,h2,h3⟩
     simp only[Instr.fill]
     rw[aR (by simp;omega),GJ]
     exact h1
    ·cases h
   ·cases h
  ·cases h
 |[],_::_,_,_,_,h,_,_,_,_=>h.elim
 |_::_,[],_,_,_,h,_,_,_,_=>h.elim
theorem DN{z:List Value}(n:Nat):((List.range (n*z.length)).map fun i=>z.getD (i % z.length) undef)=(List.replicate n z).flatten:=by
 induction n with
 |zero=>simp
 |succ n ih=>
  rw[lU,List.range_add,fA,ih,List.replicate_succ',List.flatten_append]
  congr 1
  simp only[List.map_map,tu,List.flatten_nil,dS]
  apply List.ext_getElem?
  intro i
  by_cases hi:i<z.length
  ·simp[hi,yF hi]
  ·simp[hi]
theorem r8{Fr:Nat->Nat->Prop}{w:World}{z:List C}{zs:List Value}(h:bj (C.aE Fr w) z zs):∀(n:Nat),bj (C.aE Fr w) (List.replicate n z).flatten (List.replicate n zs).flatten
 |0=>trivial
 |n+1=>by
  simp only[List.replicate_succ,tu]
  exact h.append (r8 h n)
theorem zf(h:ix F γ m a w)(hg:iy E.gl γ.fr w){o:Oper}(hd:∀t,o.dst=some t->t<F.n){vs:Array Value}(hx:bj (C.aE γ.fr w) es.flatten vs.toList)(hs:∀e∈es,e.length=sz)(hn:es.length=n)(ka:(execOp a.eval o).run E.P w= .ok (.value (.slice (some ⟨w.heap.size,0,none⟩) n n)) (w.alloc (.cells vs t))):
 o.wp E.P a w (lr E F (m.apply o.dst nv {dst:= .k (.v (.cX sz es .exact))})) Q:=by
 have hb:Below w.heap.size w (w.alloc (.cells vs t)):=(Below.refl _ w).alloc (aL _) _
 obtain⟨h1,h2⟩:=h.tE hb (yB:=fun b o=>γ.fr b o\/(b=w.heap.size/\o<vs.size)) (fun _ _ h=> .inl h) (fun b o hx=>by
  rcases hx with hx|⟨rfl,_⟩
  ·exact .inl hx
  ·exact .inr ⟨aL _,by simp⟩)
 refine nD ka ⟨_,?_,hg.mono h2.ev⟩
 rw[Mem.xF]
 refine h1.put hd ?_
 simp only[T.aE,K.aE,V.aE]
 refine⟨?_,_,n,rfl⟩
 simp only[C.aE]
 refine⟨_,n,n,rfl,hn.symm,aL _, .inr ⟨w.heap.size,0,rfl,mO hs (lH fun i c hi=> ?_)⟩⟩
 obtain⟨v,hv,hr⟩:=hx.get i c hi
 have fO:i<vs.size:=by
  have:=(List.getElem?_eq_some_iff.1 hv).1
  simpa using this
 refine⟨.inr ⟨rfl,by omega⟩,v,?_,C.aE.mono h2.ev c v hr⟩
 rw[gt,World.cell?_alloc_new]
 simpa using hv
theorem DO(h:ix F γ m a w)(hg:iy E.gl γ.fr w){o:Oper}(hd:∀t,o.dst=some t->t<F.n){len:Nat}{ps:Array (Nat×Operand)}(ho:o.op= .buildSlice t len ps)(hx:Dx E.P t len (Dw E.P (Nf E.P t) (ps.toList.map fun(i,x)=>(i,E.ev m x)))=some x):o.wp E.P a w (lr E F (m.apply o.dst nv {dst:=x})) Q:=by
 unfold Dx at hx
 split at hx
 ·rename_i e hu
  split at hx
  ·rename_i z hz
   split at hx
   ·rename_i zc hzc
    split at hx
    ·rename_i co
     obtain⟨hzl,F6,afA⟩:=co
     simp only[aV] at hx
     obtain⟨es,xJ,rfl⟩:=hx
     obtain⟨zv,PI,Bv,i,hi,hzi⟩:=pW (γ:=γ) (tok:=m.tok) (w:=w) hz
     have Ud:=nF hzc Bv
     have KE:zv.cells.toList.length=E.P.cellsOf e:=by rw[<-Ud.length];exact hzl
     have Kb:=AO (f:=E.ev m) (g:=a.eval) (γ:=γ) (tok:=m.tok) (w:=w) (fun x=>mr h hg x) ps.toList
     have Kb:=zd (P:=E.P) (t:=Nf E.P t) Kb
     have fG:bj (C.aE γ.fr w) (List.replicate len zc).flatten ((Array.range (len*E.P.cellsOf e)).map (fun i=>zv.cells[i % zv.cells.size]!)).toList:=by
      have e1:((Array.range (len*E.P.cellsOf e)).map (fun i=>zv.cells[i % zv.cells.size]!)).toList=(List.replicate len zv.cells.toList).flatten:=by
       rw[<-DN len (z:=zv.cells.toList)]
       rw[<-KE]
       simp only[Array.toList_map,Array.toList_range,Da]
       apply tA
       intro j hj
       have fO:j % zv.cells.size<zv.cells.size:=Nat.mod_lt _ (by simp only[Da] at KE;omega)
       simp[fO]
      rw[e1]
      exact r8 Ud len
     obtain⟨jQ,h1,h2,h3,h4⟩:=By Kb xJ (by simp) (fun y hy=>by rw[HW hy];exact hzl) fG
     refine zf h hg hd (t:=e) h2 h4 h3 ?_
     have jV:¬(len*E.P.cellsOf e>2 ^ 24):=by omega
     have DP:(ps.map fun(i,x)=>(i,a.eval x)).toList=ps.toList.map fun(i,x)=>(i,a.eval x):=by simp
     by_cases h0:len*E.P.cellsOf e=0
     ·have afK:Instr.fill (fun i=>some (i*E.P.cellsOf e,E.P.cellsOf e)) ((Array.range (len*E.P.cellsOf e)).map fun x=>(#[]:Array Value)[x % (#[]:Array Value).size]!) (ps.toList.map fun(i,x)=>(i,a.eval x))=some jQ:=by
       rw[h0] at h1 ⊢
       have e0:∀f:Nat->Value,(Array.range 0).map f= #[]:=fun f=>by simp[Array.range]
       rw[e0] at h1 ⊢
       exact h1
      simp only[execOp,ho,Instr.buildSlice,Sem.run_bind,run_underlying hu,run_sizeOf hi,Result.andThen_ok,aR jV,aP h0,Sem.run_pure,DP,afK]
      simp[newRow]
     ·simp only[execOp,ho,Instr.buildSlice,Sem.run_bind,run_underlying hu,run_sizeOf hi,Result.andThen_ok,aR jV,aR h0,Sem.run_pure,PI,DP,h1]
      simp[newRow]
    ·cases hx
   ·cases hx
  ·cases hx
 ·cases hx
open Go.RowKit
variable{size:Nat}
theorem mR{a:Option Addr}(h:(C.slice sz es).aE Fr w (.slice a n cap))(hs:sz=size\/es=[]):
 n=es.length/\n<=cap/\(∀e∈es,e.length=size)/\∃vs:List Value,bj (C.aE Fr w) es.flatten vs/\vs.length=n*size/\(∀u∈vs,u.oneCell'=true)/\
  ((vs=[]/\n=0/\cap=0)\/∃b o,a=some ⟨b,o,none⟩/\w.rangeAt b o vs)/\
  (Builtin.firstCells size n (.slice a n cap)).run P w.drew= .ok vs.toArray w.drew:=by
 simp only[C.aE] at h
 obtain⟨a',n',abR,jI,rfl,rZ,hb⟩:=h
 simp only[Value.slice.injEq] at jI
 obtain⟨rfl,rfl,rfl⟩:=jI
 have one:∀{vs:List Value},bj (C.aE Fr w) es.flatten vs->∀u∈vs,u.oneCell'=true:=fun {vs} hv u hu=>by
  obtain⟨i,hi,rfl⟩:=Do hu
  have dK:=hv.length
  obtain⟨u',XW,hr⟩:=hv.get i _ (cm (by omega))
  rw[cm hi] at XW
  cases XW
  exact C.we hr
 rcases hb with⟨h0,Kc⟩|⟨b,o,rfl,hr⟩
 ·have:es=[]:=rN h0
  subst this
  refine⟨rfl,rZ,by simp,[],trivial,by simp,by simp, .inl ⟨rfl,rfl,Kc⟩,?_⟩
  cases a with
  |none=>exact run_firstCells_none w.drew size 0 0 _
  |some ad=>exact run_firstCells_some w.drew size _ ad _ _ [] (by simp) (fun j u hj=>by simp at hj)
 ·have o9:∀e∈es,e.length=size:=by
   rcases hs with rfl|rfl
   ·exact Ia hr
   ·simp
  obtain⟨vs,h1,h2⟩:=tD (yK hr)
  have dK:vs.length=es.length*size:=by rw[<-h1.length,jJ o9]
  refine⟨rfl,rZ,o9,vs,h1,dK,one h1, .inr ⟨b,o,rfl,h2⟩,?_⟩
  exact run_firstCells_some w.drew size _ ⟨b,o,none⟩ _ _ vs dK (fun j u hj=>by
   rw[Addr.add_mid];simpa using h2 j u hj)
theorem wq{tx e':TypeId}(hk:P.underlying tx=some (.slice e')){a:Option Addr}(h:(C.slice sz es).aE Fr w (.slice a n cap))(hs:sz=size\/es=[]):
 ∃vs:List Value,bj (C.aE Fr w) es.flatten vs/\Src P size tx (.slice a n cap) n vs w:=by
 obtain⟨_,_,_,vs,h1,h2,h3,h4,_⟩:=mR (P:=P) h hs
 refine⟨vs,h1,?_⟩
 rcases h4 with⟨rfl,rfl,rfl⟩|⟨b,o,rfl,hr⟩
 ·cases a with
  |none=>exact Src.ofNil w hk 0
  |some ad=>exact Src.ofSlice w hk ad 0 0 [] (by simp) (fun j u hj=>by simp at hj) (by simp)
 ·exact Src.ofSlice w hk ⟨b,o,none⟩ n cap vs h2 (fun j u hj=>by rw[Addr.add_mid];exact hr j u hj) h3
theorem grownCap_le(w:World)(afL yM:Nat)(e:TypeId):afL<=grownCap w afL yM e:=by
 unfold grownCap Question.cut
 exact pL _ _
theorem vg(zero:Array Value)(n:Nat):(Builtin.zeroCells zero n).size=n*zero.size:=by simp[Builtin.zeroCells]
theorem KF(he:Ev Fr oI w w')(hx:bj (C.aE Fr w) es.flatten vs)(hs:∀e∈es,e.length=size)(rS:∀o,o<es.length*size->oI b o)(hr:w'.rangeAt b 0 vs):dF oI w' size b es 0:=by
 refine mO hs (lH fun i c hi=> ?_)
 obtain⟨v,hv,py⟩:=hx.get i c hi
 have fO:i<es.flatten.length:=(List.getElem?_eq_some_iff.1 hi).1
 rw[jJ hs] at fO
 exact⟨rS _ (by omega),v,hr i v hv,C.aE.mono he c v py⟩
theorem Mem.wu(m:Mem)(d:Option Tmp)(nv i n:Nat)(x:T)(rt:List Nat):m.apply d nv {dst:=x,ut:=[(i,n)],rt}=Mem.put {m with tok:=fun j=>if j=i then some n else m.tok j} d x:=by
 have hv:(m.apply d nv {dst:=x,ut:=[(i,n)],rt}).tok=fun j=>if j=i then some n else m.tok j:=by
  funext j
  simp only[Mem.apply,lk]
  by_cases h:i=j
  ·simp[h]
  ·simp[h,f_ h]
 cases d with
 |none=>
  simp only[Mem.put]
  rw[<-hv]
  simp[Mem.apply,lk]
 |some d=>
  simp only[Mem.put]
  rw[<-hv]
  simp only[Mem.apply,lk,oG,ft,rd,br,av]
  congr 1
  funext t
  by_cases h:d=t
  ·simp[h]
  ·simp[h,f_ h]
theorem ix.Ue(h:ix F γ m a w)(hi:m.tok i=none){k:Ib}(hk:n<=k.cap/\(k.cap=n\/∃b,k.cF=some ⟨b,0,none⟩/\F.w_ b (n*k.sz)/\
 (∃arr e,w.heap[b]?=some (.cells arr e (0,0))/\k.cap*k.sz<=arr.size)/\∀o,n*k.sz<=o->¬γ.fr b o)) (h1:∀j l,m.tok j=some l->(γ.tk j).cap≠l->k.cap≠n->(γ.tk j).cF.map (·.block)≠k.cF.map (·.block)) (h2:∀id xs b o,m.var id=some xs->γ.ky id=some (b,o)->k.cap≠n->k.cF.map (·.block)≠some b):
 let γ':Gh:={γ with tk:=fun j=>if j=i then k else γ.tk j}
 let m':Mem:={m with tok:=fun j=>if j=i then some n else m.tok j}
 ix F γ' m' a w/\Ex γ γ' m.tok m'.tok w w:=by
 intro γ' m'
 have jV:∀j l,m.tok j=some l->j≠i:=fun j l hj he=>by rw[he,hi] at hj;cases hj
 have jr:Ex γ γ' m.tok m'.tok w w:=⟨.refl _ _,fun _ _ h=>h,fun j l hj=> .inl ⟨by simp[m',jV j l hj,hj],by simp[γ',jV j l hj]⟩⟩
 refine⟨?_,jr⟩
 exact {
  defers:=h.defers
  size:=h.size
  cF:=h.cF
  sk:=h.sk
  xb:=h.xb
  j9:=h.j9
  fR:=h.fR
  tmps:=fun t=>T.aE.mono jr _ _ (h.tmps t)
  gh:=fun x v n k hp=>⟨(h.gh x v n k hp).1,T.aE.mono (jr.lx _ _) _ _ (h.gh x v n k hp).2⟩
  vars:=fun id xs hv=>by
   obtain⟨b,o,k1,⟨vs,k2,k3⟩,k4,k5⟩:=h.vars id xs hv
   exact⟨b,o,k1,⟨vs,k2.mono (fun x v=>V.aE.mono jr x v),k3⟩,k4,k5⟩
  gM:=h.gM
  d4:=h.d4
  h_:=h.h_
  dE:=fun j l hj=>by
   by_cases he:j=i
   ·subst he
    simp only[m',bu,av] at hj
    subst hj
    simpa[Dp,γ'] using hk
   ·simp only[m',he,br] at hj
    simpa[Dp,γ',he] using h.dE j l hj
  eP:=fun j l x y Yg hj hl uM ly=>by
   by_cases he:j=i
   ·subst he
    have Ay:l≠j:=f_ Yg
    simp only[m',γ',Ay,br,bu,av] at hj hl uM ly ⊢
    subst hj
    exact fun jI=>h1 l y hl ly uM jI.symm
   ·by_cases B':l=i
    ·subst B'
     simp only[m',γ',he,br,bu,av] at hj hl uM ly ⊢
     subst hl
     exact h1 j x hj uM ly
    ·simp only[m',γ',he,B',br] at hj hl uM ly ⊢
     exact h.eP j l x y Yg hj hl uM ly
  jY:=fun j x id xs b o hj hv hl uM=>by
   by_cases he:j=i
   ·subst he
    simp only[m',γ',bu,av] at hj uM ⊢
    subst hj
    exact h2 id xs b o hv hl uM
   ·simp only[m',γ',he,br] at hj uM ⊢
    exact h.jY j x id xs b o hj hv hl uM}
theorem ix.tag(h:ix F γ m a w){z:Nat}(hj:m.tok j=none)(hv:(V.cX sz es .exact).aE γ m.tok w v):
 ∃γ':Gh,ix F γ' {m with tok:=fun i=>if i=j then some es.length else m.tok i} a w/\Ex γ γ' m.tok (fun i=>if i=j then some es.length else m.tok i) w w/\γ'.ky=γ.ky/\(V.cX (if es.isEmpty then z else sz) es (.tok j)).aE γ' (fun i=>if i=j then some es.length else m.tok i) w v:=by
 simp only[V.aE,qp] at hv
 obtain⟨hs,ba,n,rfl⟩:=hv
 have hn:n=es.length:=by
  simp only[C.aE] at hs
  obtain⟨_,_,_,jI,h1,_⟩:=hs
  simp only[Value.slice.injEq] at jI
  omega
 subst hn
 obtain⟨h1,h2⟩:=h.Ue (i:=j) (n:=es.length) hj (k:=⟨ba,es.length,if es.isEmpty then z else sz⟩) ⟨aL _, .inl rfl⟩ (fun _ _ _ _ hc=>absurd rfl hc) (fun _ _ _ _ _ _ hc=>absurd rfl hc)
 refine⟨_,h1,h2,rfl,?_⟩
 simp only[V.aE,qp]
 refine⟨?_,es.length,by simp,aL _,fun _=>⟨by simp,by simp⟩⟩
 cases es with
 |nil=>
  simp only[C.aE] at hs ⊢
  obtain⟨a',len,cap,jI,h3,h4,h5⟩:=hs
  refine⟨a',len,cap,jI,h3,h4,?_⟩
  rcases h5 with h5|⟨b,o,h5,_⟩
  ·exact .inl h5
  ·exact .inr ⟨b,o,h5,by simp only[dF]⟩
 |cons e es=>simpa using hs
theorem Ip(h:ix F γ m a w)(hg:iy E.gl γ.fr w){o:Oper}(hd:∀t,o.dst=some t->t<F.n){args:Array Operand}{argTypes:Array TypeId}(ho:o.op= .call {callee:= .builtin .append,args,argTypes})(he:pR E.P m nt argTypes.toList (args.toList.map (E.ev m))=some e)(Bz:∀i n,(i,n)∈e.ut->i∉e.rt->m.tok i=none):
 o.wp E.P a w (lr E F (m.apply o.dst nv e)) Q:=by
 unfold pR at he
 split at he
 ·rename_i t tx s x Rj dB
  have Nv:∃so xo,args.toList=[so,xo]/\s=E.ev m so/\x=E.ev m xo:=by
   match hq:args.toList with
   |[]=>rw[hq] at dB;cases dB
   |[_]=>rw[hq] at dB;simp at dB
   |[so,xo]=>rw[hq] at dB;simp at dB;exact⟨so,xo,rfl,dB.1.symm,dB.2.symm⟩
   |_::_::_::_=>rw[hq] at dB;simp at dB
  obtain⟨so,xo,Cc,rfl,rfl⟩:=Nv
  have Yo:args= #[so,xo]:=by rw[<-Db (xs:=args),Cc]
  have hte:argTypes= #[t,tx]:=by rw[<-Db (xs:=argTypes),Rj]
  have zg:∀(v:Value) (w':World),(Builtin.append_ #[t,tx] o.type #[a.eval so,a.eval xo]).run E.P w= .ok v w'->(execOp a.eval o).run E.P w= .ok (.value v) w':=fun v w' ka=>by
   simp only[execOp,ho,resolve,invoke,builtin,Sem.run_bind,Sem.run_pure,Result.andThen_ok,Yo,hte]
   simp[ka]
  have hs:=mr h hg so
  have hx:=mr h hg xo
  split at he
  ·rename_i el sz es tk wi fs hu mv DQ
   unfold qu at DQ
   split at DQ
   ·rename_i el' v hux hcx
    rw[dT mv] at hs
    rw[dT hcx] at hx
    simp only[T.aE,K.aE] at hs hx
    have Uf:=mW DQ hx
    split at he
    ·rename_i i hi
     split at he
     ·rename_i co
      obtain⟨F6,DR,DS,o9,Nu,xj⟩:=co
      obtain⟨z,hz,hzs⟩:∃z,i.zero=some z/\z.cells.size=i.size:=by
       cases hq:i.zero with
       |none=>simp[hq] at DS
       |some z=>exact⟨z,rfl,by simpa[hq] using DS⟩
      have Yp:=hs.1
      have XY:∃ba n cap,a.eval so= .slice ba n cap:=by
       simp only[C.aE] at Yp;obtain⟨ba,n,cap,hq,_⟩:=Yp;exact⟨ba,n,cap,hq⟩
      have Yq:∃ba n cap,a.eval xo= .slice ba n cap:=by
       simp only[C.aE] at Uf;obtain⟨ba,n,cap,hq,_⟩:=Uf;exact⟨ba,n,cap,hq⟩
      obtain⟨ba,n,cap,XY⟩:=XY
      obtain⟨ba',k,abR,Yq⟩:=Yq
      rw[XY] at hs Yp
      rw[Yq] at Uf
      rw[XY,Yq] at zg
      obtain⟨hn,afN,Nx,DT,holds,Ug,amP,abS,Iq⟩:=mR (P:=E.P) Yp o9
      obtain⟨news,pH,qS⟩:=wq hux Uf Nu
      obtain⟨hk,_,Rk,_⟩:=mR (P:=E.P) Uf Nu
      have PK:=pH.length
      rw[jJ Rk] at PK
      cases fs with
      |nil=> -- Yr is qu
       have hk0:k=0:=by simpa using hk
       subst hk0
       have XZ:news=[]:=rN (by rw[<-PK];simp)
       subst XZ
       have ka:=run_append_nothing w t tx o.type el i hu hi ba n cap afN _ qS
       split at he
       ·cases he
        obtain⟨γ',h1,h2,_,h3⟩:=h.tag (z:=i.size) (Bz nt (es++[]).length (by simp) (by simp)) (v:= .slice ba n cap) hs
        refine nD (zg _ _ ka) ⟨γ',?_,hg.mono h2.ev⟩
        simp only[dS]
        rw[Mem.wu]
        refine h1.put hd ?_
        simp only[T.aE,K.aE]
        have hse:(if es.isEmpty then i.size else sz)=i.size:=by
         cases es with
         |nil=>rfl
         |cons _ _=>rcases o9 with h|h
                    ·exact h
                    ·cases h
        rw[hse] at h3
        exact h3
       ·rename_i j
        split at he
        ·rename_i uM
         obtain⟨afO,TK⟩:=uM
         cases he
         refine nD (zg _ _ ka) ⟨γ,?_,hg⟩
         simp only[dS]
         rw[Mem.wu]
         have hm:({m with tok:=fun i=>if i=j then some es.length else m.tok i}:Mem)=m:=by
          cases m
          congr 1
          funext i
          by_cases hi:i=j
          ·subst hi;simp;exact TK.symm
          ·simp[hi]
         rw[hm]
         refine h.put hd ?_
         simp only[T.aE,K.aE]
         exact hs
        ·cases he
      |cons f0 sk=>
       have aaX:0<k:=by rw[hk];simp
       have lz:bj (C.aE γ.fr w) (es++f0::sk).flatten (DT++news):=by
        rw[List.flatten_append];exact holds.append pH
       have afP:∀y∈es++f0::sk,y.length=i.size:=fun y hy=>by
        rcases df.1 hy with hy|hy
        ·exact Nx y hy
        ·exact Rk y hy
       have zh:(es++f0::sk).length=n+k:=by rw[iq,<-hn,<-hk]
       have tE:∀(j:Nat) (_:m.tok j=none\/(m.tok j=some n/\n<n+k)) (_:cap<n+k) (rt:List Nat),
        o.wp E.P a w (lr E F (m.apply o.dst nv {dst:= .k (.v (.cX i.size (es++f0::sk) (.tok j))),ut:=[(j,(es++f0::sk).length)],rt})) Q:=by
        intro j hj fO rt
        have Ny:n+k<=1073741824:=by rw[hn,hk];exact xj
        have Nz:Builtin.nextslicecap (n+k) cap*i.bytes<=281474976710656:=growslice_fits fO (by
         calc(n+k)*i.bytes<=1073741824*131072:=yG Ny DR
          _<=140737488355328:=by decide)
        have ka:=run_append_grow_src (P:=E.P) w t tx o.type el i z hu hi hz ba n cap DT (by
         have:=Iq
         simpa[Builtin.firstCells] using this) _ k news qS fO (by omega) Nz
        have hb:Below w.heap.size w (w.drew.alloc (.cells ((DT++news).toArray++Builtin.zeroCells z.cells (grownCap w (n+k) cap el-(n+k))) el)):=
         ((Below.refl _ w).drew).alloc (aL _) _
        have GK:((DT++news).toArray++Builtin.zeroCells z.cells (grownCap w (n+k) cap el-(n+k))).size=grownCap w (n+k) cap el*i.size:=by
         rw[Array.size_append,vg,hzs]
         have e1:(DT++news).toArray.size=(n+k)*i.size:=by
          rw[lg,iq,Ug,<-PK,<-hk,yE]
         rw[e1,<-yE]
         congr 1
         have:=grownCap_le w (n+k) cap el
         omega
        obtain⟨h1,h2⟩:=h.newRow hb (i:=j) (n:=n) (n':=n+k) (cap:=grownCap w (n+k) cap el) (sz:=i.size) hj (arr:=(DT++news).toArray++Builtin.zeroCells z.cells (grownCap w (n+k) cap el-(n+k))) (e:=el)
         (by show(w.heap.push _)[w.heap.size]?=_;simp) (grownCap_le _ _ _ _) (by omega)
        refine nD (zg _ _ ka) ⟨_,?_,hg.mono h2.ev⟩
        rw[Mem.wu,zh]
        refine h1.put hd ?_
        simp only[T.aE,K.aE,V.aE]
        refine⟨?_,⟨n+k,by simp,by omega,fun _=>⟨by simp,by simp⟩⟩⟩
        simp only[C.aE]
        refine⟨_,_,_,rfl,zh.symm,grownCap_le _ _ _ _, .inr ⟨w.heap.size,0,rfl,?_⟩⟩
        refine KF h2.ev lz afP (fun o ho=> .inr ⟨rfl,by rw[zh] at ho;exact ho⟩) (fun q v hq=> ?_)
        have:=World.cell?_alloc_new w.drew ((DT++news).toArray++Builtin.zeroCells z.cells (grownCap w (n+k) cap el-(n+k))) el (0+q)
        simp only[World.size_drew] at this
        rw[this]
        have GM:q<(DT++news).length:=(List.getElem?_eq_some_iff.1 hq).1
        rw[gt,Gu (by simpa using GM)]
        simpa using hq
       split at he
       · -- exact
         cases he
         obtain⟨a',n',hq⟩:=hs.2
         simp only[Value.slice.injEq] at hq
         exact tE nt (.inl (Bz nt (es++f0::sk).length (by simp) (by simp))) (by omega) []
       ·rename_i j
        split at he
        ·rename_i uM
         obtain⟨afO,TK⟩:=uM
         cases he
         obtain⟨n',hn',afQ,Uh⟩:=hs.2
         rw[TK] at hn'
         cases hn'
         obtain⟨hv,PL⟩:=Uh rfl
         simp only[Value.slice.injEq] at hv
         obtain⟨hba,_,abT⟩:=hv
         rw[<-hn] at TK
         subst afO
         by_cases aaZ:n+k<=cap
         ·have afR:(γ.tk j).cap≠n:=by omega
          obtain⟨_,afS⟩:=h.dE j n TK
          obtain⟨b,uV,_,_,_⟩:=afS.resolve_left afR
          have aa0:news.length=k*(γ.tk j).sz:=by rw[<-PK,<-hk,PL]
          obtain⟨h1,h2,hth⟩:=h.Yf TK afR uV news aa0 (by omega) aaX
          rw[PL] at h1 h2 hth
          rw[hba,uV] at zg
          have ka:=run_append_room_src (P:=E.P) w t tx o.type el i hu hi b 0 n cap _ k news qS aaZ (fun q hq=>by
           rw[gt];exact(hth q hq).1) (fun q hq=>by rw[gt];exact(hth q hq).2)
          rw[gt] at ka
          refine nD (zg _ _ ka) ⟨_,?_,hg.mono h2.ev⟩
          rw[Mem.wu,zh]
          refine h1.put hd ?_
          simp only[T.aE,K.aE,V.aE]
          refine⟨?_,⟨n+k,by simp,by omega,fun _=>⟨by rw[uV,abT],PL⟩⟩⟩
          simp only[C.aE]
          refine⟨_,_,_,rfl,zh.symm,aaZ, .inr ⟨b,0,rfl,?_⟩⟩
          have Ys:∃b' o',(some ⟨b,0,none⟩:Option Addr)=some ⟨b',o',none⟩/\w.rangeAt b' o' DT:=by
           rcases abS with⟨_,_,Kc⟩|⟨b',o',hq,hr⟩
           ·exfalso;simp only[cV] at hk;omega
           ·exact⟨b',o',by rw[<-hq,hba,uV],hr⟩
          obtain⟨b',o',hq,hr⟩:=Ys
          cases hq
          have F2:dF γ.fr w i.size b es 0:=by
           have hh:=Yp
           simp only[C.aE] at hh
           obtain⟨a2,n2,c2,Uc,_,_,Ui⟩:=hh
           simp only[Value.slice.injEq] at Uc
           rcases Ui with⟨_,Kc⟩|⟨b3,o3,hq3,hr3⟩
           ·exfalso;simp only[cV] at hk;omega
           ·rw[<-Uc.1,hba,uV] at hq3;cases hq3;exact hr3
          refine w9 (dF.mono h2.ev _ _ _ _ F2) ?_
          rw[gt,<-hn]
          refine mO Rk (lH fun q c hqc=> ?_)
          obtain⟨v,hv,py⟩:=pH.get q c hqc
          have GM:q<news.length:=(List.getElem?_eq_some_iff.1 hv).1
          refine⟨.inr ⟨rfl,?_,by omega⟩,v,?_,C.aE.mono h2.ev c v py⟩
          ·rw[yE];rw[PL] at aa0;omega
          ·have:=World.cell?_setCells_in b news (n*i.size) w (fun q hq=>(hth q hq).1) q GM
           rw[this,<-hv,cm GM]
         ·exact tE j (.inr ⟨TK,by omega⟩) (by omega) [j]
        ·cases he
     ·cases he
    ·cases he
   ·cases DQ
  ·cases he
 ·cases he
theorem F7(h:ix F γ m a w)(hg:iy E.gl γ.fr w){o:Oper}(hd:∀t,o.dst=some t->t<F.n){args:Array Operand}{argTypes:Array TypeId}(ho:o.op= .call {callee:= .builtin .append,args,argTypes})(he:tG E.P nv argTypes.toList (args.toList.map (E.ev m))=some e)(Gx:m.var nv=none):
 o.wp E.P a w (lr E F (m.apply o.dst nv e)) Q:=by
 unfold tG at he
 split at he
 ·rename_i t tx s x Rj dB
  have Nv:∃so xo,args.toList=[so,xo]/\s=E.ev m so/\x=E.ev m xo:=by
   match hq:args.toList with
   |[]=>rw[hq] at dB;cases dB
   |[_]=>rw[hq] at dB;simp at dB
   |[so,xo]=>rw[hq] at dB;simp at dB;exact⟨so,xo,rfl,dB.1.symm,dB.2.symm⟩
   |_::_::_::_=>rw[hq] at dB;simp at dB
  obtain⟨so,xo,Cc,rfl,rfl⟩:=Nv
  have Yo:args= #[so,xo]:=by rw[<-Db (xs:=args),Cc]
  have hte:argTypes= #[t,tx]:=by rw[<-Db (xs:=argTypes),Rj]
  have zg:∀(v:Value) (w':World),(Builtin.append_ #[t,tx] o.type #[a.eval so,a.eval xo]).run E.P w= .ok v w'->(execOp a.eval o).run E.P w= .ok (.value v) w':=fun v w' ka=>by
   simp only[execOp,ho,resolve,invoke,builtin,Sem.run_bind,Sem.run_pure,Result.andThen_ok,Yo,hte]
   simp[ka]
  have hs:=mr h hg so
  have hx:=mr h hg xo
  split at he
  ·rename_i el sz wi fs hu mv DQ
   unfold qu at DQ
   split at DQ
   ·rename_i el' v hux hcx
    rw[dT mv] at hs
    rw[dT hcx] at hx
    simp only[T.aE,K.aE] at hs hx
    have Uf:=mW DQ hx
    split at he
    ·rename_i i hi
     split at he
     ·rename_i co
      obtain⟨F6,DR,DS,Nu,afT,xj⟩:=co
      cases he
      obtain⟨z,hz,hzs⟩:∃z,i.zero=some z/\z.cells.size=i.size:=by
       cases hq:i.zero with
       |none=>simp[hq] at DS
       |some z=>exact⟨z,rfl,by simpa[hq] using DS⟩
      have Yp:=hs.1
      obtain⟨ba,n,XY⟩:=hs.2
      have XZ:n=0:=by
       rw[XY] at Yp
       simp only[C.aE] at Yp
       obtain⟨_,_,_,hq,hl,_⟩:=Yp
       simp only[Value.slice.injEq] at hq
       simp at hl
       omega
      subst XZ
      have Yq:∃ba n cap,a.eval xo= .slice ba n cap:=by
       simp only[C.aE] at Uf;obtain⟨ba,n,cap,hq,_⟩:=Uf;exact⟨ba,n,cap,hq⟩
      obtain⟨ba',k,abR,Yq⟩:=Yq
      rw[Yq] at Uf
      rw[XY,Yq] at zg
      obtain⟨news,pH,qS⟩:=wq hux Uf (.inl Nu)
      obtain⟨hk,_,Rk,_⟩:=mR (P:=E.P) Uf (.inl Nu)
      have PK:=pH.length
      rw[jJ Rk] at PK
      have aaX:0<k:=by rw[hk];exact afT
      have Ny:0+k<=1073741824:=by rw[gt,hk];exact xj
      have Nz:Builtin.nextslicecap (0+k) 0*i.bytes<=281474976710656:=growslice_fits (by omega) (by
       calc(0+k)*i.bytes<=1073741824*131072:=yG Ny DR
        _<=140737488355328:=by decide)
      have aj9:(C.slice i.size []).aE γ.fr w (.slice ba 0 0):=by
       simp only[C.aE]
       exact⟨ba,0,0,rfl,rfl,aL _, .inl ⟨rfl,rfl⟩⟩
      obtain⟨_,_,_,DT,holds,Ug,_,_,Iq⟩:=mR (P:=E.P) aj9 (.inl rfl)
      have ho0:DT=[]:=rN (by rw[Ug];simp)
      subst ho0
      have ka:=run_append_grow_src (P:=E.P) w t tx o.type el i z hu hi hz ba 0 0 [] Iq _ k news qS (by omega) (by omega) Nz
      have hb:Below w.heap.size w (w.drew.alloc (.cells (([]++news).toArray++Builtin.zeroCells z.cells (grownCap w (0+k) 0 el-(0+k))) el)):=
       ((Below.refl _ w).drew).alloc (aL _) _
      have BA:∀(q:Nat),q<news.length->(w.drew.alloc (.cells (([]++news).toArray++Builtin.zeroCells z.cells (grownCap w (0+k) 0 el-(0+k))) el)).cell? ⟨w.heap.size,0+q,none⟩=news[q]?:=fun q GM=>by
       have:=World.cell?_alloc_new w.drew (([]++news).toArray++Builtin.zeroCells z.cells (grownCap w (0+k) 0 el-(0+k))) el (0+q)
       simp only[World.size_drew] at this
       rw[this,gt,Gu (by simpa using GM)]
       simp
      obtain⟨h1,h2⟩:=h.AA hb (id:=nv) Gx (V.g_ (tok:=m.tok) pH) (fun q v hq=>by
       have GM:q<news.length:=(List.getElem?_eq_some_iff.1 hq).1
       rw[BA q GM];exact hq) (fun q hq=>by
       have GM:q<news.length:=by rw[jq,jJ Rk] at hq;omega
       refine⟨by rw[BA q GM,cm GM];rfl,?_⟩
       have KG:(w.drew.alloc (.cells (([]++news).toArray++Builtin.zeroCells z.cells (grownCap w (0+k) 0 el-(0+k))) el)).heap[w.heap.size]?=some (.cells (([]++news).toArray++Builtin.zeroCells z.cells (grownCap w (0+k) 0 el-(0+k))) el):=by
        show(w.heap.push _)[w.heap.size]?=_
        simp
       simp only[World.frozen?,KG]
       simp) (by simp)
      refine nD (zg _ _ ka) ⟨_,?_,hg.mono h2.ev⟩
      rw[Mem.pX]
      refine h1.put hd ?_
      simp only[T.aE,K.aE,V.aE]
      refine⟨w.heap.size,0,grownCap w (0+k) 0 el,by simp,?_,?_⟩
      ·rw[gt,<-hk]
      ·have:=grownCap_le w (0+k) 0 el
       omega
     ·cases he
    ·cases he
   ·cases DQ
  ·cases he
 ·cases he
open Go.RowKit
theorem bX.vh(h:bX imp w w')(hn:¬imp b o)(hv:w.cell? ⟨b,o,none⟩=some v):w'.cell? ⟨b,o,none⟩=some v:=by
 have hk:=h.Rb b (World.block_lt_of_cell? w _ hv)
 unfold World.cell? at hv ⊢
 simp only at hv ⊢
 split at hv
 ·rename_i c e fz hc
  rw[hc] at hk
  obtain⟨c',h1,h2,h3⟩:=hk
  simp only[h1]
  simp only[oG,ft,br] at hv ⊢
  rw[h3 o hn]
  exact hv
 ·cases hv
theorem bX.AP(h:bX imp w w')(ht:w.there b o n):w'.there b o n:=fun j hj=>by
 obtain⟨h1,h2⟩:=ht j hj
 obtain⟨u,hu⟩:=Option.isSome_iff_exists.1 h1
 have hk:=h.Rb b (World.block_lt_of_cell? w _ hu)
 unfold World.cell? at hu ⊢
 unfold World.frozen? at h2 ⊢
 simp only at hu h2 ⊢
 split at hu
 ·rename_i c e fz hc
  rw[hc] at hk h2
  obtain⟨c',k1,k2,k3⟩:=hk
  simp only[k1]
  refine⟨?_,h2⟩
  simp only[oG,ft,br] at hu ⊢
  have fO:o+j<c.size:=(Array.getElem?_eq_some_iff.1 hu).1
  simp[k2,fO]
 ·cases hu
theorem bX.Yt(h:bX imp w w'){es:Array MapEntry}{c:Nat}(hm:w.heap[b]?=some (.map es c)):w'.heap[b]?=some (.map es c):=by
 have fO:b<w.heap.size:=by
  rcases gq b w.heap.size with h|h
  ·exact h
  ·rw[uO h] at hm;cases hm
 have hk:=h.Rb b fO
 rw[hm] at hk
 exact hk
theorem bX.PM(h:bX imp w w'){arr:Array Value}{e:TypeId}{fz:Nat×Nat}(hm:w.heap[b]?=some (.cells arr e fz)):∃Az,w'.heap[b]?=some (.cells Az e fz)/\Az.size=arr.size:=by
 have fO:b<w.heap.size:=by
  rcases gq b w.heap.size with h|h
  ·exact h
  ·rw[uO h] at hm;cases hm
 have hk:=h.Rb b fO
 rw[hm] at hk
 obtain⟨c',h1,h2,_⟩:=hk
 exact⟨c',h1,h2⟩
theorem bX.ev(h:bX imp w w')(hf:∀b o,Fr b o->oI b o)(hn:∀b o,Fr b o->¬imp b o):Ev Fr oI w w':=
 ⟨hf,fun b o _ rS hv=>h.vh (hn b o rS) hv,fun _ _ _ _ hv=>h.Yt hv⟩
theorem pQ.mono{q:Nat->Prop}{x y:Option Obj}(h:pQ p x y)(hpq:∀j,p j->q j):pQ q x y:=by
 unfold pQ at h ⊢
 split
 ·rename_i c e fz
  obtain⟨c',h1,h2,h3⟩:=h
  exact⟨c',h1,h2,fun j hj=>h3 j (fun hp=>hj (hpq j hp))⟩
 ·rename_i hx
  split at h
  ·rename_i c e fz;exact absurd rfl (hx c e fz)
  ·exact h
theorem ix.akb(h:ix F γ m a w){ds:List C}(hv:m.var id=some ys)(hl:γ.ky id=some (b,o))(rT:off+n<=ys.length)(qT:bX (fun b' x=>b'=b/\o+off<=x/\x<o+off+n) w w')(hf:∀b o,γ.fr b o->yB b o)(hn:∀b o,yB b o->γ.fr b o\/(w.heap.size<=b/\b<w'.heap.size))(hds:rY yB w' ds (b,o+off))(hdl:ds.length=n):
 let m':Mem:={m with var:=fun i=>if i=id then some (ys.take off++ds.map .c++ys.drop (off+ds.length)) else m.var i}
 ix F {γ with fr:=yB} m' a w'/\Ex γ {γ with fr:=yB} m.tok m.tok w w':=by
 intro m'
 subst hdl
 obtain⟨b',o',h1,⟨vs,h2,h3⟩,h4,h5⟩:=h.vars id ys hv
 rw[h1] at hl;cases hl
 have PK:∀b' x,γ.fr b' x->¬(b'=b/\o+off<=x/\x<o+off+ds.length):=fun b' x rS ⟨hb,h6,h7⟩=>by
  subst hb
  have:=(h5 (x-o) (by omega)).1
  rw[show o+(x-o)=x by omega] at this
  exact this rS
 have jr:Ex γ {γ with fr:=yB} m.tok m.tok w w':=⟨qT.ev hf PK,fun _ _ h=>h,fun _ _ h=> .inl ⟨h,rfl⟩⟩
 have yM:∀b o,b<w.heap.size->yB b o->γ.fr b o:=fun b o fO hx=>(hn b o hx).resolve_right (by omega)
 have dK:(ys.take off++ds.map V.c++ys.drop (off+ds.length)).length=ys.length:=by
  have:=oK ys (ds.map V.c) off (by simpa using rT)
  simpa using this
 have XT:=h2.length
 refine⟨?_,jr⟩
 exact {
  defers:=h.defers
  size:=h.size
  cF:=⟨qT.os.trans h.cF.os,qT.tape.trans h.cF.tape,qT.output.trans h.cF.output,aZ h.cF.size qT.size,fun i hi=>(h.cF.Rb i hi).trans ((qT.Rb i (lT hi h.cF.size)).mono (fun j hj=>by
   obtain⟨rfl,h6,h7⟩:=hj
   have:=(h5 (j-o) (by omega)).2
   rw[show o+(j-o)=j by omega] at this
   rcases this with this|this
   ·exact this
   ·omega))⟩
  sk:=fun b o x=>hf b o (h.sk b o x)
  xb:=fun b o x=>by
   rcases hn b o x with x|x
   ·exact h.xb b o x
   ·exact .inr (.inr (by have:=h.cF.size;omega))
  j9:=fun b o x=>by
   rcases hn b o x with x|x
   ·exact lT (h.j9 b o x) qT.size
   ·exact x.2
  fR:=fun id b o hl=>lT (h.fR id b o hl) qT.size
  tmps:=fun t=>T.aE.mono jr _ _ (h.tmps t)
  gh:=fun x v n k hp=>⟨(h.gh x v n k hp).1,T.aE.mono (jr.lx _ _) _ _ (h.gh x v n k hp).2⟩
  vars:=fun i zs hi=>by
   by_cases he:i=id
   ·subst he
    simp only[m',bu,av] at hi
    subst hi
    obtain⟨⟨us,hu1,hu2⟩,_,_⟩:=hds
    have hul:=hu1.length
    refine⟨b,o,h1,⟨vs.take off++us++vs.drop (off+us.length),?_,fun j v hj=> ?_⟩,?_,?_⟩
    ·have k1:=h2.mono (fun x v=>V.aE.mono jr x v)
     have k2:bj (V.aE {γ with fr:=yB} m.tok w') (ds.map V.c) us:=V.g_ hu1
     have:=k1.M9 k2 off
     simpa using this
    ·by_cases c1:j<off
     ·rw[kF,mq (by simp;omega),rQ,aP c1] at hj
      exact qT.vh (fun hq=>by omega) (h3 j v hj)
     ·by_cases c2:j<off+us.length
      ·rw[kF,tw (by simp;omega),mq (by simp;omega)] at hj
       have:=hu2 (j-off) v (by rw[<-hj];congr 1;simp;omega)
       rwa[show(b,o+off).2+(j-off)=o+j by simp;omega] at this
      ·rw[tw (by simp;omega),Au] at hj
       refine qT.vh (fun hq=>by omega) (h3 j v ?_)
       rw[<-hj];congr 1;simp;omega
    ·rw[dK];exact qT.AP h4
    ·rw[dK]
     intro j hj
     refine⟨fun hx=> ?_,(h5 j hj).2⟩
     obtain⟨u,hu⟩:=Option.isSome_iff_exists.1 (h4 j hj).1
     exact(h5 j hj).1 (yM b _ (World.block_lt_of_cell? w _ hu) hx)
   ·simp only[m',he,br] at hi
    obtain⟨b2,o2,k1,⟨jQ,k2,k3⟩,k4,k5⟩:=h.vars i zs hi
    have Kd:=h.h_ i id zs ys b2 o2 b o he hi hv k1 h1
    have hkl:=k2.length
    refine⟨b2,o2,k1,⟨jQ,k2.mono (fun x v=>V.aE.mono jr x v),fun j v hj=>qT.vh (fun hq=> ?_) (k3 j v hj)⟩,qT.AP k4,fun j hj=>⟨fun hx=> ?_,(k5 j hj).2⟩⟩
    ·have:=(List.getElem?_eq_some_iff.1 hj).1
     omega
    ·obtain⟨u,hu⟩:=Option.isSome_iff_exists.1 (k4 j hj).1
     exact(k5 j hj).1 (yM b2 _ (World.block_lt_of_cell? w _ hu) hx)
  gM:=fun i hi=>by
   by_cases he:i=id
   ·subst he;simp[m'] at hi
   ·simp[m',he] at hi;exact h.gM i hi
  d4:=h.d4
  h_:=fun i j zs us b1 o1 b2 o2 pj hi hj Gz Ye=>by
   have key:∀k PC,m'.var k=some PC->∃zs,m.var k=some zs/\zs.length=PC.length:=fun k PC hk=>by
    by_cases he:k=id
    ·subst he
     simp only[m',bu,av] at hk
     subst hk
     exact⟨ys,hv,dK.symm⟩
    ·simp only[m',he,br] at hk;exact⟨PC,hk,rfl⟩
   obtain⟨zs1,hz1,e1⟩:=key i _ hi
   obtain⟨zs2,hz2,e2⟩:=key j _ hj
   have:=h.h_ i j zs1 zs2 b1 o1 b2 o2 pj hz1 hz2 Gz Ye
   omega
  dE:=fun i k hi=>by
   obtain⟨k1,k2⟩:=h.dE i k hi
   refine⟨k1,?_⟩
   by_cases hc:(γ.tk i).cap=k
   ·exact .inl hc
   ·obtain⟨b2,uV,Dq,⟨arr,e,jZ,oS⟩,rS⟩:=k2.resolve_left hc
    obtain⟨Az,g1,g2⟩:=qT.PM jZ
    have fO:b2<w.heap.size:=by
     rcases gq b2 w.heap.size with h|h
     ·exact h
     ·rw[uO h] at jZ;cases jZ
    exact .inr ⟨b2,uV,Dq,⟨Az,e,g1,by rw[g2];exact oS⟩,fun o ho hx=>rS o ho (yM b2 o fO hx)⟩
  eP:=h.eP
  jY:=fun i k j zs b1 o1 hi hj Gz hc=>by
   by_cases he:j=id
   ·subst he;exact h.jY i k j ys b1 o1 hi hv Gz hc
   ·simp only[m',he,br] at hj;exact h.jY i k j zs b1 o1 hi hj Gz hc}
theorem ix.afW(h:ix F γ m a w)(hj:m.tok j=some n){S:Nat->Nat->Prop}(hS:∀b o,S b o->(γ.tk j).cap≠n/\(γ.tk j).cF.map (·.block)=some b/\n*(γ.tk j).sz<=o)(qT:bX S w w')(hf:∀b o,γ.fr b o->yB b o)(hn:∀b o,yB b o->γ.fr b o\/((w.heap.size<=b\/S b o)/\b<w'.heap.size)):
 let γ':Gh:={γ with fr:=yB,tk:=fun i=>if i=j then⟨none,n+1,(γ.tk j).sz⟩ else γ.tk i}
 let m':Mem:={m with tok:=fun i=>if i=j then some (n+1) else m.tok i}
 ix F γ' m' a w'/\Ex γ γ' m.tok m'.tok w w':=by
 intro γ' m'
 have Uj:∀b o,S b o->F.Ko b o/\¬γ.fr b o/\b<w.heap.size:=fun b o hs=>by
  obtain⟨h1,h2,h3⟩:=hS b o hs
  obtain⟨b',hb,F8,⟨arr,e,jZ,_⟩,rS⟩:=(h.dE j n hj).2.resolve_left h1
  rw[hb] at h2
  simp only[dw,av] at h2
  subst h2
  refine⟨F8.Ko h3,rS o h3,?_⟩
  rcases gq b' w.heap.size with h|h
  ·exact h
  ·rw[uO h] at jZ;cases jZ
 have Cd:∀id xs b o,m.var id=some xs->γ.ky id=some (b,o)->∀x,¬S b x:=fun id xs b o hv hl x hs=>by
  obtain⟨h1,h2,_⟩:=hS b x hs
  exact h.jY j n id xs b o hj hv hl h1 h2
 have jr:Ex γ γ' m.tok m'.tok w w':=⟨qT.ev hf (fun b o hx hs=>(Uj b o hs).2.1 hx),fun _ _ h=>h,fun i k hi=>by
  by_cases he:i=j
  ·subst he
   rw[hj] at hi;cases hi
   exact .inr ⟨n+1,by simp[m'],by omega⟩
  ·exact .inl ⟨by simp[m',he,hi],by simp[γ',he]⟩⟩
 have yM:∀b o,b<w.heap.size->yB b o->¬S b o->γ.fr b o:=fun b o fO hx hs=>by
  rcases hn b o hx with hx|⟨hx|hx,_⟩
  ·exact hx
  ·omega
  ·exact absurd hx hs
 refine⟨?_,jr⟩
 exact {
  defers:=h.defers
  size:=h.size
  cF:=⟨qT.os.trans h.cF.os,qT.tape.trans h.cF.tape,qT.output.trans h.cF.output,aZ h.cF.size qT.size,fun i hi=>(h.cF.Rb i hi).trans ((qT.Rb i (lT hi h.cF.size)).mono (fun x hx=>by
   rcases(Uj i x hx).1 with this|this
   ·exact this
   ·omega))⟩
  sk:=fun b o x=>hf b o (h.sk b o x)
  xb:=fun b o x=>by
   rcases hn b o x with x|⟨x|x,_⟩
   ·exact h.xb b o x
   ·exact .inr (.inr (by have:=h.cF.size;omega))
   ·exact .inr (Uj b o x).1
  j9:=fun b o x=>by
   rcases hn b o x with x|x
   ·exact lT (h.j9 b o x) qT.size
   ·exact x.2
  fR:=fun id b o hl=>lT (h.fR id b o hl) qT.size
  tmps:=fun t=>T.aE.mono jr _ _ (h.tmps t)
  gh:=fun x v n k hp=>⟨(h.gh x v n k hp).1,T.aE.mono (jr.lx _ _) _ _ (h.gh x v n k hp).2⟩
  vars:=fun i zs hi=>by
   obtain⟨b2,o2,k1,⟨jQ,k2,k3⟩,k4,k5⟩:=h.vars i zs hi
   refine⟨b2,o2,k1,⟨jQ,k2.mono (fun x v=>V.aE.mono jr x v),fun q v hq=>qT.vh (Cd i zs b2 o2 hi k1 _) (k3 q v hq)⟩,qT.AP k4,fun q hq=>⟨fun hx=> ?_,(k5 q hq).2⟩⟩
   obtain⟨u,hu⟩:=Option.isSome_iff_exists.1 (k4 q hq).1
   exact(k5 q hq).1 (yM b2 _ (World.block_lt_of_cell? w _ hu) hx (Cd i zs b2 o2 hi k1 _))
  gM:=h.gM
  d4:=h.d4
  h_:=h.h_
  dE:=fun i k hi=>by
   by_cases he:i=j
   ·subst he
    simp only[m',bu,av] at hi
    subst hi
    exact⟨by simp[γ'], .inl (by simp[γ'])⟩
   ·simp only[m',he,br] at hi
    obtain⟨k1,k2⟩:=h.dE i k hi
    have oh:Dp F {γ with fr:=yB} w' i k:=by
     refine⟨k1,?_⟩
     by_cases hc:(γ.tk i).cap=k
     ·exact .inl hc
     ·obtain⟨b2,uV,Dq,⟨arr,e,jZ,oS⟩,rS⟩:=k2.resolve_left hc
      obtain⟨Az,g1,g2⟩:=qT.PM jZ
      have fO:b2<w.heap.size:=by
       rcases gq b2 w.heap.size with h|h
       ·exact h
       ·rw[uO h] at jZ;cases jZ
      refine .inr ⟨b2,uV,Dq,⟨Az,e,g1,by rw[g2];exact oS⟩,fun o ho hx=>rS o ho (yM b2 o fO hx fun hs=> ?_)⟩
      obtain⟨h1,h2,_⟩:=hS b2 o hs
      refine h.eP i j k n he hi hj hc h1 ?_
      rw[h2,uV];rfl
    simpa[Dp,γ',he] using oh
  eP:=fun i l x y F5 hi hl hci ly=>by
   by_cases he:i=j
   ·subst he
    simp only[m',γ',bu,av] at hi hci
    exact absurd hi hci
   ·by_cases B':l=j
    ·subst B'
     simp only[m',γ',bu,av] at hl ly
     exact absurd hl ly
    ·simp only[m',γ',he,B',br] at hi hl hci ly ⊢
     exact h.eP i l x y F5 hi hl hci ly
  jY:=fun i k l zs b1 o1 hi hl Gz hc=>by
   by_cases he:i=j
   ·subst he
    simp only[m',γ',bu,av] at hi hc
    exact absurd hi hc
   ·simp only[m',γ',he,br] at hi hc ⊢
    exact h.jY i k l zs b1 o1 hi hl Gz hc}
open Go.RowKit
def GN(γ:Gh)(l:Nat×Nat×List C):Nat×Nat:=match γ.ky l.1 with|some (b,o)=>(b,o+l.2.1)|none=>(0,0)
def abU(γ:Gh)(m:Mem)(l:Nat×Nat×List C):Prop:=
 ∃ys b o,m.var l.1=some ys/\γ.ky l.1=some (b,o)/\l.2.1+l.2.2.length<=ys.length/\((ys.drop l.2.1).take l.2.2.length).mapM V.GB=some l.2.2
theorem kB{α β:Type}{f:α->Option β}:∀{xs:List α} {ys:List β},xs.mapM f=some ys->ys.length=xs.length
 |[],ys,h=>by simp at h;subst h;rfl
 |x::xs,ys,h=>by
  rw[fv] at h
  simp only[j5,j4,ig,av] at h
  obtain⟨y,_,zs,hz,rfl⟩:=h
  simp[kB hz]
theorem tO(h:ix F γ m a w)(hs:yS m id off=some cs)(FW:∀b o,γ.fr b o->Fr b o)(yC:∀ys b o,m.var id=some ys->γ.ky id=some (b,o)->∀j,j<ys.length->Fr b (o+j))(hl:γ.ky id=some (b,o)):dp Fr w b cs (o+off):=by
 unfold yS at hs
 split at hs
 ·rename_i xs hv
  obtain⟨b',o',h1,⟨vs,h2,h3⟩,_⟩:=h.vars id xs hv
  rw[hl] at h1;cases h1
  have hc:=nF hs (h2.drop off)
  have dK:=kB hs
  refine lH fun i c hi=> ?_
  obtain⟨v,Kq,hr⟩:=hc.get i c hi
  have fO:=(List.getElem?_eq_some_iff.1 hi).1
  rw[dK,rR] at fO
  refine⟨?_,v,?_,C.aE.mono ⟨FW,fun _ _ _ _ h=>h,fun _ _ _ _ h=>h⟩ c v hr⟩
  ·have:=yC xs b o hv hl (off+i) (by omega)
   rwa[show o+off+i=o+(off+i) by omega]
  ·exact pU h3 off i v Kq
 ·cases hs
theorem rA{Fr:Nat->Nat->Prop}{w:World}{sz b:Nat}:∀{n:Nat} {cs:List C} {es:List (List C)} {o:Nat},pk sz n cs=some es->dp Fr w b cs o->dF Fr w sz b es o/\es.length=n
 |0,cs,es,o,h,_=>by simp[pk] at h;subst h;exact⟨by simp only[dF],rfl⟩
 |n+1,cs,es,o,h,hc=>by
  simp only[pk] at h
  split at h
  ·rename_i rZ
   simp only[aV] at h
   obtain⟨r,hr,rfl⟩:=h
   obtain⟨h1,h2⟩:=rA hr (pP hc sz)
   exact⟨by simp only[dF];exact⟨by simp;omega,yJ hc sz,h1⟩,by simp[h2]⟩
  ·cases h
theorem DU{F:Fm}{γ:Gh}{m:Mem}{a:Act}{w:World}(h:ix F γ m a w){Fr:Nat->Nat->Prop}(FW:∀b o,γ.fr b o->Fr b o):∀{dA:List (C ⊕ (Nat×Nat))} {cs:List C} {vs:List Value},dA.mapM (uA m)=some cs->bj (ph γ w) dA vs->
 (∀id∈dA.flatMap qw,∀ys b o,m.var id=some ys->γ.ky id=some (b,o)->∀j,j<ys.length->Fr b (o+j))->bj (C.aE Fr w) cs vs
 |[],cs,[],hc,_,_=>by simp at hc;subst hc;trivial
 |x::xs,cs,v::vs,hc,hr,yC=>by
  rw[fv] at hc
  simp only[j5,j4,ig,av] at hc
  obtain⟨c,CA,r,hrr,rfl⟩:=hc
  refine⟨?_,DU h FW hrr hr.2 (fun id gm=>yC id (by simp only[pg,df];exact .inr gm))⟩
  cases x with
  |inl x=>
   simp only[uA,av] at CA
   subst CA
   exact C.aE.mono ⟨FW,fun _ _ _ _ h=>h,fun _ _ _ _ h=>h⟩ x v hr.1
  |inr p=>
   obtain⟨id,off⟩:=p
   simp only[uA,aV] at CA
   obtain⟨cs',hs,rfl⟩:=CA
   obtain⟨b,o,hl,hv⟩:=hr.1
   simp only[C.aE]
   exact⟨b,o+off,hv,tO h hs FW (yC id (by simp[qw])) hl⟩
 |[],_,_::_,_,h,_=>h.elim
 |_::_,_,[],_,h,_=>h.elim
theorem kI{P:Program}{m:Mem}:∀{tm:List TypeId} {xs:List T} {k:Nat} {as:List A} {ls:List (Nat×Nat×List C)} {rs:List Nat},gu P m tm xs k=some (as,ls,rs)->kA as=true
 |[],[],k,as,ls,rs,h=>by simp only[gu,av,aY] at h;obtain⟨rfl,_,_⟩:=h;rfl
 |t::ts,x::xs,k,as,ls,rs,h=>by
  have cons:∀{a:A} {bs:List A},(match a with| .top _ _=>false|_=>true)=true->kA bs=true->kA (a::bs)=true:=fun h1 h2=>by
   simp only[kA,pe,cY];exact⟨h1,h2⟩
  simp only[gu] at h
  split at h
  ·split at h
   ·rename_i i8
    simp only[av,aY] at h
    obtain⟨rfl,_,_⟩:=h
    exact cons rfl (kI i8)
   ·cases h
  ·split at h
   ·split at h
    ·split at h
     ·rename_i i8
      simp only[av,aY] at h
      obtain⟨rfl,_,_⟩:=h
      exact cons rfl (kI i8)
     ·cases h
    ·cases h
   ·cases h
  ·split at h
   ·split at h
    ·rename_i i8
     simp only[av,aY] at h
     obtain⟨rfl,_,_⟩:=h
     exact cons rfl (kI i8)
    ·cases h
   ·cases h
  ·split at h
   ·rename_i i8
    simp only[av,aY] at h
    obtain⟨rfl,_,_⟩:=h
    exact cons rfl (kI i8)
   ·cases h
  ·split at h
   ·rename_i c uH Rm Ke hc i8
    simp only[av,aY] at h
    obtain⟨rfl,_,_⟩:=h
    refine cons ?_ (kI i8)
    unfold V.toA at hc
    split at hc
    ·cases hc;rfl
    ·rw[aV] at hc
     obtain⟨_,_,rfl⟩:=hc
     rfl
   ·cases h
  ·cases h
 |[],_::_,_,_,_,_,h=>by simp[gu] at h
 |_::_,[],_,_,_,_,h=>by simp[gu] at h
theorem PN(cs:List C):kA (cs.map A.c)=true:=by
 simp[kA]
theorem Ir{xs ys:List A}(h:kA xs=true)(k:kA ys=true):kA (xs++ys)=true:=by
 simp only[kA,List.all_append,cY] at h k ⊢
 exact⟨h,k⟩
theorem DV{F:Fm}{γ:Gh}{m:Mem}{a:Act}{w:World}(h:ix F γ m a w):∀{as:List A} {xs:List T} {vs:List Value} {uH:List A} {j n:Nat},AH m as xs=some (uH,j,n)->kA as=true->bj (A.aE γ.fr w []) as vs->bj (T.aE γ m.tok w) xs vs->
 bj (A.aE γ.fr w []) uH vs/\m.tok j=some n/\∀b o,nB uH vs b o->(γ.tk j).cap≠n/\(γ.tk j).cF.map (·.block)=some b/\n*(γ.tk j).sz<=o
 |a0::as,x::xs,v::vs,uH,j,n,ht,hn,ha,hx=>by
  have hn':kA as=true:=by simp only[kA,pe,cY] at hn ⊢;exact hn.2
  simp only[AH] at ht
  split at ht
  ·rename_i sz es i
   split at ht
   ·rename_i hi
    cases ht
    have Ce:=hx.1
    simp only[T.aE,K.aE,V.aE,qp] at Ce
    obtain⟨hs,n',hn1,_,Uh⟩:=Ce
    rw[hi] at hn1;cases hn1
    obtain⟨hv,o9⟩:=Uh rfl
    obtain⟨k1,k2⟩:=h.dE _ _ hi
    refine⟨⟨⟨hs,_,_,hv,k1,?_⟩,ha.2⟩,hi,fun b o ho=> ?_⟩
    ·rcases k2 with k2|⟨b,hb,_,jZ,rS⟩
     ·exact .inl k2
     ·rw[o9] at jZ rS
      exact .inr ⟨b,hb,by simp,jZ,rS⟩
    ·rcases ho with ho|ho
     ·rw[hv] at ho
      unfold yY at ho
      split at ho
      ·rename_i jI hvq
       cases jI
       simp only[Value.slice.injEq] at hvq
       obtain⟨e1,_,rfl⟩:=hvq
       refine⟨ho.1,?_,?_⟩
       ·rw[e1];simp[ho.2.1]
       ·rw[o9];exact ho.2.2
      ·exact ho.elim
     ·exact absurd ho (og hn')
   ·cases ht
  ·simp only[aV] at ht
   obtain⟨⟨as1,j1,n1⟩,hr,he⟩:=ht
   simp only[aY] at he
   obtain⟨rfl,rfl,rfl⟩:=he
   obtain⟨g1,g2,g3⟩:=DV h hr hn' ha.2 hx.2
   refine⟨⟨ha.1,g1⟩,g2,fun b o ho=> ?_⟩
   rcases ho with ho|ho
   ·cases a0<;>first|exact ho.elim|(exfalso;simp[kA] at hn)
   ·exact g3 b o ho
 |[],_,_,_,_,_,ht,_,_,_=>by simp[AH] at ht
 |_::_,[],_,_,_,_,ht,_,_,_=>by simp[AH] at ht
 |_::_,_::_,[],_,_,_,_,_,ha,_=>ha.elim
theorem Yu{all:List (Nat×Nat)}{u:V}{x:A}(h:u.toA=some x)(mX:Ev γ.fr Fr w w)(hv:u.aE γ tok w v):x.aE Fr w all v:=by
 unfold V.toA at h
 split at h
 ·cases h
  simp only[V.aE,C.aE,qp] at hv
  obtain⟨⟨a,len,cap,rfl,rfl,_⟩,a',n,he⟩:=hv
  cases he
  exact⟨a,rfl⟩
 ·rw[aV] at h
  obtain⟨c,hc,rfl⟩:=h
  exact C.aE.mono mX c v (Cz hc hv)
theorem kJ{P:Program}{F:Fm}{γ:Gh}{m:Mem}{a:Act}{w:World}(h:ix F γ m a w){Fr:Nat->Nat->Prop}(FW:∀b o,γ.fr b o->Fr b o):∀{tm:List TypeId} {xs:List T} {vs:List Value} {k:Nat} {as:List A} {ls:List (Nat×Nat×List C)} {rs:List Nat},
 gu P m tm xs k=some (as,ls,rs)->bj (T.aE γ m.tok w) xs vs->(∀id∈rs,∀ys b o,m.var id=some ys->γ.ky id=some (b,o)->∀j,j<ys.length->Fr b (o+j))->
 ∀(all:List (Nat×Nat)),(∀(j:Nat) p,(ls.map (GN γ))[j]?=some p->all[k+j]?=some p)->bj (A.aE Fr w all) as vs/\∀l∈ls,abU γ m l
 |[],[],[],k,as,ls,rs,ha,_,_,all,_=>by
  simp only[gu,av,aY] at ha
  obtain⟨rfl,rfl,rfl⟩:=ha
  exact⟨trivial,by simp⟩
 |t::ts,x::xs,v::vs,k,as,ls,rs,ha,hx,yC,all,lz=>by
  have mX:Ev γ.fr Fr w w:=⟨FW,fun _ _ _ _ h=>h,fun _ _ _ _ h=>h⟩
  have Ce:=hx.1
  simp only[gu] at ha
  split at ha
  ·rename_i ys
   split at ha
   ·rename_i cs uH Rm Ke mv i8
    simp only[av,aY] at ha
    obtain⟨rfl,rfl,rfl⟩:=ha
    obtain⟨h1,h2⟩:=kJ h FW i8 hx.2 yC all lz
    simp only[T.aE,K.aE] at Ce
    obtain⟨us,rfl,TG⟩:=Ce
    exact⟨⟨⟨us,rfl,(nF mv TG).mono (fun c v hc=>C.aE.mono mX c v hc)⟩,h1⟩,h2⟩
   ·cases ha
  ·rename_i id off
   split at ha
   ·rename_i e ys hu hv
    split at ha
    ·rename_i rZ
     split at ha
     ·rename_i cs uH Rm Ke mv i8
      simp only[av,aY] at ha
      obtain⟨rfl,rfl,rfl⟩:=ha
      have afY:∀(j:Nat) p,(Rm.map (GN γ))[j]?=some p->all[k+1+j]?=some p:=fun j p hj=>by
       have:=lz (j+1) p (by simpa using hj)
       rwa[show k+(j+1)=k+1+j by omega] at this
      obtain⟨h1,h2⟩:=kJ h FW i8 hx.2 yC all afY
      simp only[T.aE,K.aE,V.aE] at Ce
      obtain⟨b,o,hl,rfl⟩:=Ce
      have ly:=kB mv
      simp only[kG,rR] at ly
      refine⟨⟨⟨b,o+off,?_,rfl⟩,h1⟩,fun l Ay=> ?_⟩
      ·have:=lz 0 (b,o+off) (by simp[GN,hl])
       simpa using this
      ·rcases cM.1 Ay with rfl|Ay
       ·refine⟨ys,b,o,hv,hl,by simp only;omega,?_⟩
        simp only
        rw[show cs.length=P.cellsOf e by omega]
        exact mv
       ·exact h2 l Ay
     ·cases ha
    ·cases ha
   ·cases ha
  ·rename_i id off sz n
   split at ha
   ·rename_i cs mv
    split at ha
    ·rename_i es uH Rm Ke xJ i8
     simp only[av,aY] at ha
     obtain⟨rfl,rfl,rfl⟩:=ha
     obtain⟨h1,h2⟩:=kJ h FW i8 hx.2 (fun i hi=>yC i (by simp[hi])) all lz
     simp only[T.aE,K.aE,V.aE] at Ce
     obtain⟨b,o,cap,hl,rfl,rZ⟩:=Ce
     have xN:=tO h mv FW (yC id (by simp)) hl
     obtain⟨hr,dK⟩:=rA xJ xN
     refine⟨⟨?_,h1⟩,h2⟩
     simp only[A.aE,C.aE]
     exact⟨_,n,cap,rfl,dK.symm,rZ, .inr ⟨b,o+off,rfl,hr⟩⟩
    ·cases ha
   ·cases ha
  ·rename_i f dA
   split at ha
   ·rename_i cs uH Rm Ke mv i8
    simp only[av,aY] at ha
    obtain⟨rfl,rfl,rfl⟩:=ha
    obtain⟨h1,h2⟩:=kJ h FW i8 hx.2 (fun i hi=>yC i (by simp[hi])) all lz
    simp only[T.aE,K.aE,V.aE] at Ce
    obtain⟨us,rfl,TG⟩:=Ce
    refine⟨⟨?_,h1⟩,h2⟩
    simp only[A.aE,C.aE]
    exact⟨us,rfl,mT.2 (DU h FW mv TG (fun i hi=>yC i (by simp only[df];exact .inl hi)))⟩
   ·cases ha
  ·rename_i u _ _ _
   split at ha
   ·rename_i c uH Rm Ke mv i8
    simp only[av,aY] at ha
    obtain⟨rfl,rfl,rfl⟩:=ha
    obtain⟨h1,h2⟩:=kJ h FW i8 hx.2 yC all lz
    simp only[T.aE,K.aE] at Ce
    exact⟨⟨Yu mv mX Ce,h1⟩,h2⟩
   ·cases ha
  ·cases ha
 |[],[],_::_,_,_,_,_,_,h,_,_,_=>h.elim
 |[],_::_,_,_,_,_,_,h,_,_,_,_=>by simp[gu] at h
 |_::_,[],_,_,_,_,_,h,_,_,_,_=>by simp[gu] at h
 |_::_,_::_,[],_,_,_,_,_,h,_,_,_=>h.elim
def oO(ut:List (Nat×Nat))(tok:Nat->Option Nat):Nat->Option Nat:=fun i=>match lk ut i with|some n=>some n|none=>tok i
theorem nG(i n:Nat)(ut:List (Nat×Nat))(tok:Nat->Option Nat):oO ((i,n)::ut) tok=oO ut (fun j=>if j=i then some n else tok j):=by
 funext j
 simp only[oO,lk]
 cases lk ut j with
 |some y=>rfl
 |none=>
  by_cases h:i=j
  ·simp[h]
  ·simp[h,f_ h]
theorem BB(tok:Nat->Option Nat):oO [] tok=tok:=rfl
theorem Ex.trans{γ'':Gh}{aa1:Nat->Option Nat}{w'':World}(h:Ex γ γ' tok yL w w')(k:Ex γ' γ'' yL aa1 w' w''):Ex γ γ'' tok aa1 w w'' where
 ev:=h.ev.trans k.ev
 ky id p hp:=k.ky id p (h.ky id p hp)
 tok i n hi:=by
  rcases h.tok i n hi with⟨h1,h2⟩|⟨n',h1,h2⟩
  ·rcases k.tok i n h1 with⟨k1,k2⟩|⟨n'',k1,k2⟩
   ·exact .inl ⟨k1,k2.trans h2⟩
   ·exact .inr ⟨n'',k1,k2⟩
  ·rcases k.tok i n' h1 with⟨k1,_⟩|⟨n'',k1,k2⟩
   ·exact .inr ⟨n',k1,h2⟩
   ·exact .inr ⟨n'',k1,by omega⟩
theorem nH:∀{rs:List au} {nt i n:Nat},(i,n)∈(kP nt rs).2->nt<=i
 |[],nt,i,n,h=>by simp[kP] at h
 | .c x::rs,nt,i,n,h=>nH (rs:=rs) (by simpa[kP] using h)
 | .agg xs::rs,nt,i,n,h=>nH (rs:=rs) (by simpa[kP] using h)
 | .top sz es::rs,nt,i,n,h=>by
   simp only[kP,cM,aY] at h
   rcases h with⟨rfl,_⟩|h
   ·exact aL _
   ·have:=nH (rs:=rs) h;omega
theorem ol{F:Fm}{a:Act}{w:World}{N:Nat->Nat->Prop}(XZ:∀b lo,N b lo->F.w_ b lo):∀{rs:List au} {us:List Value} {nt:Nat} {γ:Gh} {m:Mem},ix F γ m a w->bj (au.aE γ.fr N w) rs us->lX rs us->(∀i n,(i,n)∈(kP nt rs).2->m.tok i=none)->
 (∀id xs b o,m.var id=some xs->γ.ky id=some (b,o)->∀lo,¬N b lo)->(∀j l,m.tok j=some l->(γ.tk j).cap≠l->∀(r:Nat) sz es u,rs[r]?=some (.top sz es)->us[r]?=some u->∀b,iC u=some b->(γ.tk j).cF.map (·.block)≠some b)->
 ∃γ':Gh,γ'.fr=γ.fr/\ix F γ' {m with tok:=oO (kP nt rs).2 m.tok} a w/\Ex γ γ' m.tok (oO (kP nt rs).2 m.tok) w w/\bj (K.aE γ' (oO (kP nt rs).2 m.tok) w) (kP nt rs).1 us
 |[],[],nt,γ,m,h,_,_,_,_,_=>⟨γ,rfl,by simpa only[kP,BB] using h,by simpa only[kP,BB] using Ex.refl γ m.tok w,trivial⟩
 | .c x::rs,u::us,nt,γ,m,h,hr,ht,Bz,uW,Kd=>by
   obtain⟨γ',h1,h2,hx,h3⟩:=ol XZ h hr.2 ht (fun i n hi=>Bz i n (by simpa[kP] using hi)) uW (fun j l hj hc r sz es u hr hu=>Kd j l hj hc (r+1) sz es u (by simpa using hr) (by simpa using hu))
   refine⟨γ',h1,h2,hx,?_,h3⟩
   simp only[K.aE,V.aE]
   rw[h1]
   exact hr.1
 | .agg xs::rs,u::us,nt,γ,m,h,hr,ht,Bz,uW,Kd=>by
   obtain⟨γ',h1,h2,hx,h3⟩:=ol XZ h hr.2 ht (fun i n hi=>Bz i n (by simpa[kP] using hi)) uW (fun j l hj hc r sz es u hr hu=>Kd j l hj hc (r+1) sz es u (by simpa using hr) (by simpa using hu))
   refine⟨γ',h1,h2,hx,?_,h3⟩
   obtain⟨vs,hv,DW⟩:=hr.1
   simp only[K.aE]
   refine⟨vs,hv,V.g_ ?_⟩
   rw[h1]
   exact DW
 | .top sz es::rs,u::us,nt,γ,m,h,hr,ht,Bz,uW,Kd=>by
   obtain⟨abV,cF,cap,rfl,rZ,DI⟩:=hr.1
   have hk:es.length<=cap/\(cap=es.length\/∃b,cF=some ⟨b,0,none⟩/\F.w_ b (es.length*sz)/\(∃arr e,w.heap[b]?=some (.cells arr e (0,0))/\cap*sz<=arr.size)/\∀o,es.length*sz<=o->¬γ.fr b o):=by
    refine⟨rZ,?_⟩
    rcases DI with DI|⟨b,h1,h2,h3,h4⟩
    ·exact .inl DI
    ·exact .inr ⟨b,h1,XZ _ _ h2,h3,h4⟩
   have NA:cap≠es.length->∃b,cF=some ⟨b,0,none⟩/\N b (es.length*sz)/\iC (.slice cF es.length cap)=some b:=fun hc=>by
    obtain⟨b,h1,h2,_,_⟩:=DI.resolve_left hc
    exact⟨b,h1,h2,by simp[iC,h1,hc]⟩
   obtain⟨h1,h2⟩:=h.Ue (i:=nt) (n:=es.length) (Bz nt es.length (by simp[kP])) (k:=⟨cF,cap,sz⟩) hk
    (fun j l hj uM hc=>by
      obtain⟨b,hb,_,F8⟩:=NA hc
      have:=Kd j l hj uM 0 sz es _ rfl rfl b F8
      simpa[hb] using this)
    (fun id xs b o hv hl hc=>by
      obtain⟨b',hb,Dq,_⟩:=NA hc
      simp only[hb,dw,ne_eq,av]
      rintro rfl
      exact uW id xs b' o hv hl _ Dq)
   have xk:bj (au.aE γ.fr N w) rs us:=hr.2
   obtain⟨γ',g1,g2,gx,g3⟩:=ol (rs:=rs) (us:=us) (nt:=nt+1) XZ h1 xk ht.2 (fun i n hi=>by
    show(if i=nt then _ else _)=none
    have:=nH hi
    rw[aR (by omega)];exact Bz i n (by simp only[kP,cM];exact .inr hi)) uW (fun j l hj hc r wi Cy u hr hu b hb=>by
     by_cases he:j=nt
     ·subst he
      simp only[bu,av] at hj hc ⊢
      subst hj
      obtain⟨b',m9,_,F8⟩:=NA hc
      have:=ht.1 r wi Cy u hr hu b' F8
      simp only[m9,dw,ne_eq,av]
      rintro rfl
      exact this hb
     ·simp only[he,br] at hj hc ⊢
      exact Kd j l hj hc (r+1) wi Cy u (by simpa using hr) (by simpa using hu) b hb)
   refine⟨γ',g1,?_,?_,?_,?_⟩
   ·simp only[kP,nG]
    exact g2
   ·simp only[kP,nG]
    exact h2.trans gx
   ·simp only[kP,nG]
    refine K.aE.mono gx (.v (.cX sz es (.tok nt))) _ ?_
    simp only[K.aE,V.aE]
    exact⟨abV,es.length,by simp,aL _,fun _=>⟨by simp,by simp⟩⟩
   ·simp only[kP,nG]
    exact g3
 |[],_::_,_,_,_,_,h,_,_,_,_=>h.elim
 |_::_,[],_,_,_,_,h,_,_,_,_=>h.elim
end Go.Dm
