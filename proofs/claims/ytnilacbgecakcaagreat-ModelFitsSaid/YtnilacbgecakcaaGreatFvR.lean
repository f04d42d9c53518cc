/- Statements about models (layer 25): each law's function returns true whatever it is handed, and leaves what it is handed as it was. -/
import Derived.Test.YtnilacbgecakcaaGreatRows
import Derived.Test.YtnilacbgecakcaaGreatFvL2
set_option maxRecDepth 100000
set_option maxHeartbeats 0
namespace Go.Proofs.YtnilacbgecakcaaGreat
open Go.ChangeShapes Go.WideShapes Go.ChangeAt Go.RowKit Go.Dm
theorem amE:ny PP 5=some false:=by kernel_rfl
theorem ai7:ny PP 22=some false:=by kernel_rfl
theorem aaM:PP.cellsOf 69=7:=by kernel_rfl
theorem aeI:PP.cellsOf 4=1:=by kernel_rfl
theorem aeJ{n:Nat}{xs:List C}(h:sw PP (n+1) 5 xs):∃i,xs=[CC i]/\0<=i:=by
 obtain⟨i,rfl,hw⟩:=IR Tryz.underlying5 h
 refine⟨i,rfl,?_⟩
 have:0<=i/\i<=255:=by simpa[Lit.wf,IntKind.min,IntKind.max,IntKind.signed,IntKind.bits] using hw
 exact this.1
theorem C'{n:Nat}{xs:List C}(h:sw PP (n+1) 3 xs):∃i,xs=[ii i]:=by
 obtain⟨i,rfl,_⟩:=IR Tryz.underlying3 h
 exact⟨i,rfl⟩
theorem aaN{n:Nat}{xs:List C}(h:sw PP (n+1) 30 xs):∃i,xs=[u i]/\jO i:=by
 obtain⟨i,rfl,hw⟩:=IR Tryz.underlying30 h
 refine⟨i,rfl,?_⟩
 have:0<=i/\i<=18446744073709551615:=by simpa[Lit.wf,IntKind.min,IntKind.max,IntKind.signed,IntKind.bits] using hw
 unfold jO
 omega
theorem TD{n:Nat}{xs:List C}(h:sw PP (n+2) 67 xs):∃l:List Bool,xs=[.slice 1 (l.map eB)]:=by
 obtain⟨es,rfl,dK,he⟩:=G1 Tryz.underlying67 h
 obtain⟨l,rfl,_⟩:=En (f:=eB) (Q:=fun _=>True) (fun x hx=>by obtain⟨s,rfl⟩:=UC Tryz.underlying4 hx;exact⟨s,rfl,trivial⟩) he
 exact⟨l,by rw[aeI]⟩
theorem TE{n:Nat}{xs:List C}(h:sw PP (n+3) 69 xs):∃e:bg,xs=e.cs/\jO e.n:=by
 obtain⟨ps,rfl,h1⟩:=N1 Tryz.underlying69 h
 obtain⟨x1,_,rfl,g1,h2⟩:=lY h1
 obtain⟨x2,_,rfl,g2,h3⟩:=lY h2
 obtain⟨x3,_,rfl,g3,h4⟩:=lY h3
 obtain⟨x4,_,rfl,g4,h5⟩:=lY h4
 obtain⟨x5,_,rfl,g5,h6⟩:=lY h5
 obtain⟨x6,_,rfl,g6,h7⟩:=lY h6
 obtain⟨x7,_,rfl,g7,h8⟩:=lY h7
 obtain rfl:=K9 h8
 obtain⟨a,rfl⟩:=C' g1
 obtain⟨b,rfl⟩:=C' g2
 obtain⟨c,rfl⟩:=C' g3
 obtain⟨d,rfl⟩:=C' g4
 obtain⟨e,rfl,_⟩:=N0 Tryz.underlying9 g5
 obtain⟨f,rfl,hf⟩:=aaN g6
 obtain⟨g,rfl⟩:=TD g7
 exact⟨⟨a,b,c,d,e,f,g⟩,rfl,hf⟩
theorem Px{n:Nat}{xs:List C}(h:sw PP (n+4) 22 xs):∃l:List bg,xs=[.slice 7 (l.map bg.cs)]/\∀e∈l,jO e.n:=by
 obtain⟨es,rfl,dK,he⟩:=G1 Tryz.underlying22 h
 obtain⟨l,rfl,hq⟩:=En (f:=bg.cs) (Q:=fun e=>jO e.n) (fun x hx=>by obtain⟨e,rfl,hr⟩:=TE hx;exact⟨e,rfl,hr⟩) he
 exact⟨l,by rw[aaM],hq⟩
theorem aaO:PP.funcs.toList.all (fun fn=>!(fn.name== "runtime.NumGoroutine"))=true:=by kernel_rfl
theorem aeK:∀(f:FuncId) fn,PP.funcs[f]?=some fn->(fn.name== "runtime.NumGoroutine")=false:=fun f fn h=>by
 have hm:fn∈PP.funcs.toList:=by
  obtain⟨hf,rfl⟩:=Array.getElem?_eq_some_iff.1 h
  simp
 have:=lG.1 aaO fn hm
 simpa using this
theorem aaP:∀(f:FuncId) (sz:Nat),NV HH f=some sz->Go.Dm.j_ PP f/\va PP f sz:=fun f sz h=>by
 have e:NV HH f=(match(HC f).bJ with|[sz]=>some sz|_=>none):=rfl
 rw[e] at h
 unfold HC at h
 split at h
 ·rename_i s hs
  split at hs
  ·cases hs;cases h;exact Pd
  ·cases hs;cases h;exact Pe
  ·cases hs;cases h;exact Pg
  ·cases hs
 ·cases h
theorem aeL:∀(f:FuncId) h ks vs ts rs jQ nX,(HH f 1000003).Kz=some h->h ks vs ts=some (rs,jQ,nX)->Go.Dm.j_ PP f/\DF PP GL f ks vs ts rs jQ nX:=fun f h ks vs ts rs jQ nX e _=>absurd (show(HI f).Kz=some h from e) (by unfold HI;simp)
theorem Tryz.cX:ownKnob Tryz.prog.godebug=none:=by kernel_rfl
theorem Tryz.aaQ:laidOutB Tryz.prog=true:=by kernel_rfl
theorem XS(P3:List (List C))(h:bj (sw PP 8) [5,22] P3):vo PP GL XX HH NN 20 3 (IN PP [5,22] P3) []=some ([.c (.raw (.bool true))],[]):=by
 obtain⟨y0,_,rfl,h0,h⟩:=lY h
 obtain⟨y1,_,rfl,h1,h⟩:=lY h
 obtain rfl:=K9 h
 obtain⟨b0,rfl,hb0⟩:=aeJ h0
 obtain⟨q1,rfl,TL⟩:=Px h1
 have:=XR b0 hb0 q1 TL 0
 simpa only[IN,mkA,amE,ai7] using this
theorem Bl(os:Os)(Ka:os.Started)(H:Type)(enc:TypeId×Value->H):
 ReturnsInHanded {} Tryz.checked os 3 .any (Rows.modelFitsSpec.pre6 enc Tryz.prog Tryz.f3 Rows.modelFitsRow.domain false) (Rows.modelFitsSpec.post enc Tryz.prog Tryz.f3 false true false false):=by
 refine returnsInHanded_of_change (C:=Tryz.checked) Tryz.cX Ka (by kernel_rfl) Tryz.func3
  (ChangeSpec.witness6 (enc:=enc) (C:=Tryz.checked) false ⟨#[],#[.int .u8 0, .slice none 0 0],[]⟩ 8 (by kernel_rfl) (by kernel_rfl) (by kernel_rfl) (by kernel_rfl)) ?_
 intro W cF args ds gs NZ aco hW _ _
 exact IOq (E:=EE 20) (PY aio aaP aeL aeK 20) rfl (n:=8) (tb:=4) Tryz.aaQ (by rw[Tryz.params3];intro t ht;simp at ht;rcases ht with rfl|rfl<;>exact⟨by kernel_rfl,jG (by kernel_rfl)⟩) (by rw[Tryz.params3];kernel_rfl) rfl
  (fun ds hd=>by rw[Tryz.params3] at hd;match ds,hd with|[d1,d2],_=>rfl) rfl Tryz.underlying4 (by rw[Tryz.params3];exact XS) W (fun g cs h=>by cases h) cF args ds gs NZ aco hW
theorem modelFits_holds:Rows.ModelFitsSaid:=
 OpenClaim.holds_of_wide 3 Tryz.f3 rfl rfl rfl rfl rfl rfl rfl ⟨rfl,rfl,rfl,rfl,rfl⟩ rfl rfl rfl rfl rfl (by kernel_rfl) Tryz.func3 (by kernel_rfl)
  (jG (by kernel_rfl)) (by unfold Func.isWrapper;first|(rw[aP (by decide+kernel)];kernel_rfl)|(rw[aR (by decide+kernel)];exact⟨rfl,rfl⟩))
  (fun os Ka H enc _=>Bl os Ka H enc)
end Go.Proofs.YtnilacbgecakcaaGreat
