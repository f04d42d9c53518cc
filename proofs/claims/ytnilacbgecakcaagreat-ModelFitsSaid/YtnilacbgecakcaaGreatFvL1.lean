/-
  A part of the proofs over this seat: its functions, one by one (the file in which the theorems stand says what is proved).
-/
import Derived.Lib.AppendZeros
import Derived.Lib.SliceRun
import Derived.Lib.Walk
import Derived.LoopIn
import Derived.LoopNIn
import Derived.MapKept
import Derived.Maps.OwnIn
import Derived.OwnWalkIn
import Derived.RangeFuncBox
import Derived.RangeFuncLeaves
import Derived.RangeFuncNested
import Derived.RangeFuncWrites
import Derived.Shelf.Abstract
import Derived.Shelf.RegionOpenPlain
import Derived.TacticsInMore
import Derived.Test.YtnilacbgecakcaaGreatProg
import Derived.WalkKit
import Derived.Test.YtnilacbgecakcaaGreatFvL0
set_option maxRecDepth 100000
set_option maxHeartbeats 0
set_option linter.unusedSimpArgs false
set_option linter.unusedVariables false
namespace Go.Dm
open Go
open Go.IntKind (wrap)
theorem JP(n:Nd)(hr:n.aQ.length<=1000000)(hm:n.bh.length<=1000000)(hs:n.store.ao.ax.length<=1000000)(hc:n.store.ao.ar.length<=890)(k:Nat):EO (k+10) 68 [A.agg n.cs] []=some ([au.agg ((aF n).1.cs),rO (aF n).2],[]):=by
 rcases be (n.ag==0) with z0|z0
 ·exact rt (eb z0<|e0) (by simp only[aF,ei,iE,fQ,iS,z0,vq]<;>rfl)
 ·rcases be n.cb with z1|z1
  ·rcases be n.bL.on with z2|z2
   ·rcases be ((a9 (kC n)).2==6) with z3|z3
    ·exact rt (eb z0<|eb z1<|ec (eK n n.bM 13 ⟨#[]⟩ (k+8))<|ep (eF ([[ii (ap n n.bM 13 ⟨#[]⟩).ae,ii (ap n n.bM 13 ⟨#[]⟩).node,ii (ap n n.bM 13 ⟨#[]⟩).id,ii (ap n n.bM 13 ⟨#[]⟩).j2,st (ap n n.bM 13 ⟨#[]⟩).data]]))<|ep (show List.length [[ii (ap n n.bM (13:Int) ⟨#[]⟩).ae,ii (ap n n.bM (13:Int) ⟨#[]⟩).node,ii (ap n n.bM (13:Int) ⟨#[]⟩).id,ii (ap n n.bM (13:Int) ⟨#[]⟩).j2,st (ap n n.bM (13:Int) ⟨#[]⟩).data]]<=1073741824 from by simp only[vr];omega)<|eg (G.app [[ii (ap n n.bM 13 ⟨#[]⟩).ae,ii (ap n n.bM 13 ⟨#[]⟩).node,ii (ap n n.bM 13 ⟨#[]⟩).id,ii (ap n n.bM 13 ⟨#[]⟩).j2,st (ap n n.bM 13 ⟨#[]⟩).data]])<|en z2<|ec (uy (kC n) hr hm hs hc k)<|eb z3<|ep ((rfl:(1:Nat)=(1:Nat))).symm<|e0) (by simp only[aF,ei,iE,fQ,iS,z0,z1,z2,z3,vq]<;>rfl)
    ·exact rt (eb z0<|eb z1<|ec (eK n n.bM 13 ⟨#[]⟩ (k+8))<|ep (eF ([[ii (ap n n.bM 13 ⟨#[]⟩).ae,ii (ap n n.bM 13 ⟨#[]⟩).node,ii (ap n n.bM 13 ⟨#[]⟩).id,ii (ap n n.bM 13 ⟨#[]⟩).j2,st (ap n n.bM 13 ⟨#[]⟩).data]]))<|ep (show List.length [[ii (ap n n.bM (13:Int) ⟨#[]⟩).ae,ii (ap n n.bM (13:Int) ⟨#[]⟩).node,ii (ap n n.bM (13:Int) ⟨#[]⟩).id,ii (ap n n.bM (13:Int) ⟨#[]⟩).j2,st (ap n n.bM (13:Int) ⟨#[]⟩).data]]<=1073741824 from by simp only[vr];omega)<|eg (G.app [[ii (ap n n.bM 13 ⟨#[]⟩).ae,ii (ap n n.bM 13 ⟨#[]⟩).node,ii (ap n n.bM 13 ⟨#[]⟩).id,ii (ap n n.bM 13 ⟨#[]⟩).j2,st (ap n n.bM 13 ⟨#[]⟩).data]])<|en z2<|ec (uy (kC n) hr hm hs hc k)<|eb z3<|ec (eK (a9 (kC n)).1 n.bL.id (a9 (kC n)).2 ⟨#[]⟩ (k+8))<|ep (rfl:[[ii (ap n n.bM (13:Int) ⟨#[]⟩).ae,ii (ap n n.bM (13:Int) ⟨#[]⟩).node,ii (ap n n.bM (13:Int) ⟨#[]⟩).id,ii (ap n n.bM (13:Int) ⟨#[]⟩).j2,st (ap n n.bM (13:Int) ⟨#[]⟩).data],[ii (ap (a9 (kC n)).1 n.bL.id (a9 (kC n)).2 ⟨#[]⟩).ae,ii (ap (a9 (kC n)).1 n.bL.id (a9 (kC n)).2 ⟨#[]⟩).node,ii (ap (a9 (kC n)).1 n.bL.id (a9 (kC n)).2 ⟨#[]⟩).id,ii (ap (a9 (kC n)).1 n.bL.id (a9 (kC n)).2 ⟨#[]⟩).j2,st (ap (a9 (kC n)).1 n.bL.id (a9 (kC n)).2 ⟨#[]⟩).data]]=[[ii (ap n n.bM (13:Int) ⟨#[]⟩).ae,ii (ap n n.bM (13:Int) ⟨#[]⟩).node,ii (ap n n.bM (13:Int) ⟨#[]⟩).id,ii (ap n n.bM (13:Int) ⟨#[]⟩).j2,st (ap n n.bM (13:Int) ⟨#[]⟩).data],[ii (ap (a9 (kC n)).1 n.bL.id (a9 (kC n)).2 ⟨#[]⟩).ae,ii (ap (a9 (kC n)).1 n.bL.id (a9 (kC n)).2 ⟨#[]⟩).node,ii (ap (a9 (kC n)).1 n.bL.id (a9 (kC n)).2 ⟨#[]⟩).id,ii (ap (a9 (kC n)).1 n.bL.id (a9 (kC n)).2 ⟨#[]⟩).j2,st (ap (a9 (kC n)).1 n.bL.id (a9 (kC n)).2 ⟨#[]⟩).data]])<|ep (show List.length [[ii (ap n n.bM (13:Int) ⟨#[]⟩).ae,ii (ap n n.bM (13:Int) ⟨#[]⟩).node,ii (ap n n.bM (13:Int) ⟨#[]⟩).id,ii (ap n n.bM (13:Int) ⟨#[]⟩).j2,st (ap n n.bM (13:Int) ⟨#[]⟩).data],[ii (ap (a9 (kC n)).1 n.bL.id (a9 (kC n)).2 ⟨#[]⟩).ae,ii (ap (a9 (kC n)).1 n.bL.id (a9 (kC n)).2 ⟨#[]⟩).node,ii (ap (a9 (kC n)).1 n.bL.id (a9 (kC n)).2 ⟨#[]⟩).id,ii (ap (a9 (kC n)).1 n.bL.id (a9 (kC n)).2 ⟨#[]⟩).j2,st (ap (a9 (kC n)).1 n.bL.id (a9 (kC n)).2 ⟨#[]⟩).data]]<=1073741824 from by simp only[vr];omega)<|ep ((rfl:(1:Nat)=(1:Nat))).symm<|eg (G.app [[ii (ap n n.bM 13 ⟨#[]⟩).ae,ii (ap n n.bM 13 ⟨#[]⟩).node,ii (ap n n.bM 13 ⟨#[]⟩).id,ii (ap n n.bM 13 ⟨#[]⟩).j2,st (ap n n.bM 13 ⟨#[]⟩).data],[ii (ap (a9 (kC n)).1 n.bL.id (a9 (kC n)).2 ⟨#[]⟩).ae,ii (ap (a9 (kC n)).1 n.bL.id (a9 (kC n)).2 ⟨#[]⟩).node,ii (ap (a9 (kC n)).1 n.bL.id (a9 (kC n)).2 ⟨#[]⟩).id,ii (ap (a9 (kC n)).1 n.bL.id (a9 (kC n)).2 ⟨#[]⟩).j2,st (ap (a9 (kC n)).1 n.bL.id (a9 (kC n)).2 ⟨#[]⟩).data]])<|ep ((rfl:(2:Nat)=(2:Nat))).symm<|e0) (by simp only[aF,ei,iE,fQ,iS,z0,z1,z2,z3,vq]<;>rfl)
   ·exact rt (eb z0<|eb z1<|ec (eK n n.bM 13 ⟨#[]⟩ (k+8))<|ep (eF ([[ii (ap n n.bM 13 ⟨#[]⟩).ae,ii (ap n n.bM 13 ⟨#[]⟩).node,ii (ap n n.bM 13 ⟨#[]⟩).id,ii (ap n n.bM 13 ⟨#[]⟩).j2,st (ap n n.bM 13 ⟨#[]⟩).data]]))<|ep (show List.length [[ii (ap n n.bM (13:Int) ⟨#[]⟩).ae,ii (ap n n.bM (13:Int) ⟨#[]⟩).node,ii (ap n n.bM (13:Int) ⟨#[]⟩).id,ii (ap n n.bM (13:Int) ⟨#[]⟩).j2,st (ap n n.bM (13:Int) ⟨#[]⟩).data]]<=1073741824 from by simp only[vr];omega)<|eg (G.app [[ii (ap n n.bM 13 ⟨#[]⟩).ae,ii (ap n n.bM 13 ⟨#[]⟩).node,ii (ap n n.bM 13 ⟨#[]⟩).id,ii (ap n n.bM 13 ⟨#[]⟩).j2,st (ap n n.bM 13 ⟨#[]⟩).data]])<|en z2<|ep ((rfl:(1:Nat)=(1:Nat))).symm<|e0) (by simp only[aF,ei,iE,fQ,iS,z0,z1,z2,vq]<;>rfl)
  ·rcases be n.bL.on with z2|z2
   ·rcases be ((a9 (kC n)).2==6) with z3|z3
    ·exact rt (eb z0<|eb z1<|en z2<|ec (uy (kC n) hr hm hs hc k)<|eb z3<|e0) (by simp only[aF,ei,iE,fQ,iS,z0,z1,z2,z3,vq]<;>rfl)
    ·exact rt (eb z0<|eb z1<|en z2<|ec (uy (kC n) hr hm hs hc k)<|eb z3<|ec (eK (a9 (kC n)).1 n.bL.id (a9 (kC n)).2 ⟨#[]⟩ (k+8))<|ep (eF ([[ii (ap (a9 (kC n)).1 n.bL.id (a9 (kC n)).2 ⟨#[]⟩).ae,ii (ap (a9 (kC n)).1 n.bL.id (a9 (kC n)).2 ⟨#[]⟩).node,ii (ap (a9 (kC n)).1 n.bL.id (a9 (kC n)).2 ⟨#[]⟩).id,ii (ap (a9 (kC n)).1 n.bL.id (a9 (kC n)).2 ⟨#[]⟩).j2,st (ap (a9 (kC n)).1 n.bL.id (a9 (kC n)).2 ⟨#[]⟩).data]]))<|ep (show List.length [[ii (ap (a9 (kC n)).1 n.bL.id (a9 (kC n)).2 ⟨#[]⟩).ae,ii (ap (a9 (kC n)).1 n.bL.id (a9 (kC n)).2 ⟨#[]⟩).node,ii (ap (a9 (kC n)).1 n.bL.id (a9 (kC n)).2 ⟨#[]⟩).id,ii (ap (a9 (kC n)).1 n.bL.id (a9 (kC n)).2 ⟨#[]⟩).j2,st (ap (a9 (kC n)).1 n.bL.id (a9 (kC n)).2 ⟨#[]⟩).data]]<=1073741824 from by simp only[vr];omega)<|eg (G.app [[ii (ap (a9 (kC n)).1 n.bL.id (a9 (kC n)).2 ⟨#[]⟩).ae,ii (ap (a9 (kC n)).1 n.bL.id (a9 (kC n)).2 ⟨#[]⟩).node,ii (ap (a9 (kC n)).1 n.bL.id (a9 (kC n)).2 ⟨#[]⟩).id,ii (ap (a9 (kC n)).1 n.bL.id (a9 (kC n)).2 ⟨#[]⟩).j2,st (ap (a9 (kC n)).1 n.bL.id (a9 (kC n)).2 ⟨#[]⟩).data]])<|ep ((rfl:(1:Nat)=(1:Nat))).symm<|e0) (by simp only[aF,ei,iE,fQ,iS,z0,z1,z2,z3,vq]<;>rfl)
   ·exact rt (eb z0<|eb z1<|en z2<|e0) (by simp only[aF,ei,iE,fQ,iS,z0,z1,z2,vq]<;>rfl)
theorem WX(n:Nd)(id:Int)(block:Int)(x:ByteArray)(hx:x.size<=900000)(hr:n.aQ.length<=1000000)(hm:n.bh.length<=1000000)(hs:n.store.ao.ax.length<=1000000)(hc:n.store.ao.ar.length<=880)(h1:(((a9 n).1.store).ao.ax).length<=1000000)(h2:(((a9 n).1.store).ao.ar).length<=890)(k:Nat):EO (k+10) 34 [A.agg n.cs,A.c (ii id),A.c (ii block),A.c (st x)] []=some ([au.agg ((cD n id block x).1.cs),rO (cD n id block x).2],[]):=by
 rcases be n.up with z0|z0
 ·rcases be n.aN with z1|z1
  ·rcases be (decide (block<0)) with z2|z2
   ·exact rt (en z0<|en z1<|hO z2<|eb z2<|K'<|ec (eK n id 4 ⟨#[]⟩ (k+8))<|e0) (by simp only[cD,dk,dL,CF,fQ,z0,z1,z2,vq]<;>rfl)
   ·rcases be (decide (block>=n.store.aj.an)) with z3|z3
    ·exact rt (en z0<|en z1<|hO z2<|eb z2<|eb z3<|et<|ec (eK n id 4 ⟨#[]⟩ (k+8))<|e0) (by simp only[cD,dk,dL,CF,fQ,z0,z1,z2,z3,vq]<;>rfl)
    ·rcases be ((↑(x.size):Int)==8) with z4|z4
     ·rcases be n.bL.on with z5|z5
      ·exact rt (en z0<|en z1<|hO z2<|eb z2<|eb z3<|en z4<|eo z5<|K'<|ec (eK n id 11 ⟨#[]⟩ (k+8))<|e0) (by simp only[cD,dk,dL,CF,fQ,z0,z1,z2,z3,z4,z5,vq]<;>rfl)
      ·rcases be (n.ag==1) with z6|z6
       ·exact rt (en z0<|en z1<|hO z2<|eb z2<|eb z3<|en z4<|eo z5<|eb z6<|et<|ec (eK n id 11 ⟨#[]⟩ (k+8))<|e0) (by simp only[cD,dk,dL,CF,fQ,z0,z1,z2,z3,z4,z5,z6,vq]<;>rfl)
       ·rcases be (n.ag==0) with z7|z7
        ·rcases be n.bZ with z8|z8
         ·rcases be (im n block x).2 with z9|z9
          ·rcases be ((im n block x).1.ag==0) with Bf|Bf
           ·exact rt (en z0<|en z1<|hO z2<|eb z2<|eb z3<|en z4<|eo z5<|eb z6<|ef<|eo z7<|en z8<|ec (v9 n block x hs (show n.store.ao.ar.length<=890 from by omega) k)<|en z9<|eb Bf<|ec (eK (im n block x).1 id 0 ⟨#[]⟩ (k+8))<|e0) (by simp only[cD,dk,dL,CF,fQ,z0,z1,z2,z3,z4,z5,z6,z7,z8,z9,Bf,vq]<;>rfl)
           ·exact rt (en z0<|en z1<|hO z2<|eb z2<|eb z3<|en z4<|eo z5<|eb z6<|ef<|eo z7<|en z8<|ec (v9 n block x hs (show n.store.ao.ar.length<=890 from by omega) k)<|en z9<|eb Bf<|ec (mB (({Prod.fst (im n block x) with bL:=(Rq.mk true id block x)}:Nd)) ((Pk.mk 2 0 fG block x)) hx k)<|e0) (by simp only[cD,dk,dL,CF,fQ,z0,z1,z2,z3,z4,z5,z6,z7,z8,z9,Bf,vq]<;>rfl)
          ·exact rt (en z0<|en z1<|hO z2<|eb z2<|eb z3<|en z4<|eo z5<|eb z6<|ef<|eo z7<|en z8<|ec (v9 n block x hs (show n.store.ao.ar.length<=890 from by omega) k)<|en z9<|e0) (by simp only[cD,dk,dL,CF,fQ,z0,z1,z2,z3,z4,z5,z6,z7,z8,z9,vq]<;>rfl)
         ·rcases be ((a9 n).2==6) with z9|z9
          ·exact rt (en z0<|en z1<|hO z2<|eb z2<|eb z3<|en z4<|eo z5<|eb z6<|ef<|eo z7<|en z8<|ec (uy n hr hm hs (show n.store.ao.ar.length<=890 from by omega) k)<|eb z9<|e0) (by simp only[cD,dk,dL,CF,fQ,z0,z1,z2,z3,z4,z5,z6,z7,z8,z9,vq]<;>rfl)
          ·rcases be ((a9 n).2==0) with Bf|Bf
           ·rcases be (im (a9 n).1 block x).2 with MD|MD
            ·rcases be ((im (a9 n).1 block x).1.ag==0) with S9|S9
             ·exact rt (en z0<|en z1<|hO z2<|eb z2<|eb z3<|en z4<|eo z5<|eb z6<|ef<|eo z7<|en z8<|ec (uy n hr hm hs (show n.store.ao.ar.length<=890 from by omega) k)<|eb z9<|en Bf<|ec (v9 (a9 n).1 block x h1 h2 k)<|en MD<|eb S9<|ec (eK (im (a9 n).1 block x).1 id 0 ⟨#[]⟩ (k+8))<|e0) (by simp only[cD,dk,dL,CF,fQ,z0,z1,z2,z3,z4,z5,z6,z7,z8,z9,Bf,MD,S9,vq]<;>rfl)
             ·exact rt (en z0<|en z1<|hO z2<|eb z2<|eb z3<|en z4<|eo z5<|eb z6<|ef<|eo z7<|en z8<|ec (uy n hr hm hs (show n.store.ao.ar.length<=890 from by omega) k)<|eb z9<|en Bf<|ec (v9 (a9 n).1 block x h1 h2 k)<|en MD<|eb S9<|ec (mB (({Prod.fst (im (a9 n).1 block x) with bL:=(Rq.mk true id block x)}:Nd)) ((Pk.mk 2 0 fG block x)) hx k)<|e0) (by simp only[cD,dk,dL,CF,fQ,z0,z1,z2,z3,z4,z5,z6,z7,z8,z9,Bf,MD,S9,vq]<;>rfl)
            ·exact rt (en z0<|en z1<|hO z2<|eb z2<|eb z3<|en z4<|eo z5<|eb z6<|ef<|eo z7<|en z8<|ec (uy n hr hm hs (show n.store.ao.ar.length<=890 from by omega) k)<|eb z9<|en Bf<|ec (v9 (a9 n).1 block x h1 h2 k)<|en MD<|e0) (by simp only[cD,dk,dL,CF,fQ,z0,z1,z2,z3,z4,z5,z6,z7,z8,z9,Bf,MD,vq]<;>rfl)
           ·exact rt (en z0<|en z1<|hO z2<|eb z2<|eb z3<|en z4<|eo z5<|eb z6<|ef<|eo z7<|en z8<|ec (uy n hr hm hs (show n.store.ao.ar.length<=890 from by omega) k)<|eb z9<|en Bf<|ec (eK (a9 n).1 id (a9 n).2 ⟨#[]⟩ (k+8))<|e0) (by simp only[cD,dk,dL,CF,fQ,z0,z1,z2,z3,z4,z5,z6,z7,z8,z9,Bf,vq]<;>rfl)
        ·rcases be (im n block x).2 with z8|z8
         ·rcases be ((im n block x).1.ag==0) with z9|z9
          ·exact rt (en z0<|en z1<|hO z2<|eb z2<|eb z3<|en z4<|eo z5<|eb z6<|ef<|eo z7<|ef<|ec (v9 n block x hs (show n.store.ao.ar.length<=890 from by omega) k)<|en z8<|eb z9<|ec (eK (im n block x).1 id 0 ⟨#[]⟩ (k+8))<|e0) (by simp only[cD,dk,dL,CF,fQ,z0,z1,z2,z3,z4,z5,z6,z7,z8,z9,vq]<;>rfl)
          ·exact rt (en z0<|en z1<|hO z2<|eb z2<|eb z3<|en z4<|eo z5<|eb z6<|ef<|eo z7<|ef<|ec (v9 n block x hs (show n.store.ao.ar.length<=890 from by omega) k)<|en z8<|eb z9<|ec (mB (({Prod.fst (im n block x) with bL:=(Rq.mk true id block x)}:Nd)) ((Pk.mk 2 0 fG block x)) hx k)<|e0) (by simp only[cD,dk,dL,CF,fQ,z0,z1,z2,z3,z4,z5,z6,z7,z8,z9,vq]<;>rfl)
         ·exact rt (en z0<|en z1<|hO z2<|eb z2<|eb z3<|en z4<|eo z5<|eb z6<|ef<|eo z7<|ef<|ec (v9 n block x hs (show n.store.ao.ar.length<=890 from by omega) k)<|en z8<|e0) (by simp only[cD,dk,dL,CF,fQ,z0,z1,z2,z3,z4,z5,z6,z7,z8,vq]<;>rfl)
     ·exact rt (en z0<|en z1<|hO z2<|eb z2<|eb z3<|en z4<|et<|ec (eK n id 5 ⟨#[]⟩ (k+8))<|e0) (by simp only[cD,dk,dL,CF,fQ,z0,z1,z2,z3,z4,vq]<;>rfl)
  ·exact rt (en z0<|en z1<|et<|ec (eK n id 8 ⟨#[]⟩ (k+8))<|e0) (by simp only[cD,dk,dL,CF,fQ,z0,z1,vq]<;>rfl)
 ·exact rt (en z0<|et<|ec (eK n id 7 ⟨#[]⟩ (k+8))<|e0) (by simp only[cD,dk,dL,CF,fQ,z0,vq]<;>rfl)
theorem Q2(n:Nd)(id block:Int)(x:ByteArray)(hx:x.size<=900000)(hr:n.aQ.length<=1000000)(hm:n.bh.length<=1000000)(hs:n.store.ao.ax.length<=1000000)(hc:n.store.ao.ar.length<=880)(k:Nat):EO (k+10) 34 [.agg n.cs, .c (ii id), .c (ii block), .c (st x)] []=some ([.agg (cD n id block x).1.cs, .top 5 ((cD n id block x).2.map Ou.cs)],[]):=
 WX n id block x hx hr hm hs hc (by rw[(G6 n).1];exact hs) (aZ (G6 n).2 (by omega)) k
theorem ZT(n:Nd)(ae:Int)(hs:n.store.ao.ax.length<=1000000)(hc:n.store.ao.ar.length<=890)(k:Nat):EO (k+10) 79 [A.agg n.cs,A.c (ii ae)] []=some ([au.agg ((ed n ae).1.cs),rO (ed n ae).2],[]):=by
 rcases be (ae==10) with z0|z0
 ·rcases be n.aN with z1|z1
  ·exact rt (eb z0<|dO z1<|et<|ec (mB n ((Pk.mk 12 0 fG 0 ⟨#[]⟩)) (show ByteArray.size ⟨#[]⟩<=900000 from by decide) k)<|e0) (rs:=[au.agg n.cs,rO [bE n (Pk.mk 12 0 fG 0 ⟨#[]⟩)]]) (by simp only[ed,lM,ud,fQ,z0,z1,vq]<;>rfl)
  ·rcases be n.cb with z2|z2
   ·exact rt (eb z0<|dO z1<|eb z2<|ec (mB n ((Pk.mk 12 0 fG 0 ⟨#[]⟩)) (show ByteArray.size ⟨#[]⟩<=900000 from by decide) k)<|e0) (rs:=[au.agg n.cs,rO [bE n (Pk.mk 12 0 fG 0 ⟨#[]⟩)]]) (by simp only[ed,lM,ud,fQ,z0,z1,z2,vq]<;>rfl)
   ·exact rt (eb z0<|dO z1<|eb z2<|ec (mB (({n with cU:=true}:Nd)) ((Pk.mk 11 0 fG 0 ⟨#[]⟩)) (show ByteArray.size ⟨#[]⟩<=900000 from by decide) k)<|e0) (rs:=[au.agg (({n with cU:=true}:Nd).cs),rO [bE ({n with cU:=true}:Nd) (Pk.mk 11 0 fG 0 ⟨#[]⟩)]]) (by simp only[ed,lM,ud,fQ,z0,z1,z2,vq]<;>rfl)
 ·rcases be (ae==12) with z1|z1
  ·exact rt (eb z0<|eb z1<|ec (eK (({n with cb:=false,bM:=0}:Nd)) n.bM 12 ⟨#[]⟩ (k+8))<|e0) (rs:=[au.agg (({n with cb:=false,bM:=0}:Nd).cs),rO [ap ({n with cb:=false,bM:=0}:Nd) n.bM 12 ⟨#[]⟩]]) (by simp only[ed,lM,ud,fQ,z0,z1,vq]<;>rfl)
  ·rcases be (ae==13) with z2|z2
   ·exact rt (eb z0<|eb z1<|eb z2<|e0) (rs:=[au.agg (({n with cU:=false}:Nd).cs),rO []]) (by simp only[ed,lM,ud,fQ,z0,z1,z2,vq]<;>rfl)
   ·rcases be (aH n ({So.aj n.store with cH:=true}:Su)).2 with z3|z3
    ·exact rt (eb z0<|eb z1<|eb z2<|ec (fI n (({So.aj n.store with cH:=true}:Su)) hs (show n.store.ao.ar.length<=900 from by omega) (k+1))<|en z3<|ec (eK (({Prod.fst (aH n ({So.aj n.store with cH:=true}:Su)) with aN:=true,cb:=false,bM:=0}:Nd)) n.bM 0 ⟨#[]⟩ (k+8))<|e0) (rs:=[au.agg (({Prod.fst (aH n ({So.aj n.store with cH:=true}:Su)) with aN:=true,cb:=false,bM:=0}:Nd).cs),rO [ap ({Prod.fst (aH n ({So.aj n.store with cH:=true}:Su)) with aN:=true,cb:=false,bM:=0}:Nd) n.bM 0 ⟨#[]⟩]]) (by simp only[ed,lM,ud,fQ,z0,z1,z2,z3,vq]<;>rfl)
    ·exact rt (eb z0<|eb z1<|eb z2<|ec (fI n (({So.aj n.store with cH:=true}:Su)) hs (show n.store.ao.ar.length<=900 from by omega) (k+1))<|en z3<|e0) (rs:=[au.agg ((aH n ({So.aj n.store with cH:=true}:Su)).1.cs),rO []]) (by simp only[ed,lM,ud,fQ,z0,z1,z2,z3,vq]<;>rfl)
theorem adT(n:Nd)(h:He)(m:BitVec 32)(v:Vd)(hs:n.store.ao.ax.length<=1000000)(hc:n.store.ao.ar.length<=880)(h1:(((kv n m).1.store).ao.ax).length<=1000000)(h2:(((kv n m).1.store).ao.ar).length<=890)(h3:(((aH (kv n m).1 (p7 n h)).1.store).ao.ax).length<=1000000)(h4:(((aH (kv n m).1 (p7 n h)).1.store).ao.ar).length<=890)(hL:∀k,EO (k+3) 101 [A.agg n.cs,A.agg ((nN n.store m).1.cs),A.c (ii (nN n.store m).2)] []=some ([au.agg ((kv n m).1.cs),au.c (bo (kv n m).2)],[]))(hV:∀k,EO (k+8) 104 [A.agg n.cs,A.agg h.cs] []=some ([au.agg v.cs,au.c (w4 (mi m))],[]))(hB:∀k,EO (k+8) 61 [A.agg ((kv n m).1.cs),A.agg ((Su.mk n.store.aj.an (zu n.store.aj.v h.v.bH) true false n.store.aj.dg).cs)] []=some ([au.agg ((aH (kv n m).1 (p7 n h)).1.cs),au.c (bo (aH (kv n m).1 (p7 n h)).2)],[]))(k:Nat):EO (k+12) 70 [A.agg n.cs,A.agg h.cs] []=some ([au.agg ((lB n h v m).1.cs),rO (lB n h v m).2],[]):=by
 rcases be (v.ae==4) with z0|z0
 ·exact rt (ec (hV (k+3))<|eb z0<|e0) (by simp only[lB,qG,hZ,e9,z0,vq]<;>rfl)
 ·rcases be (v.ae==1) with z1|z1
  ·rcases be (aH n ({So.aj n.store with v:=bP n.store.aj.v,cH:=n.aN}:Su)).2 with z2|z2
   ·exact rt (ec (hV (k+3))<|eb z0<|eb z1<|ec (wS n.store.aj.v (k+10))<|ec (fI n (({So.aj n.store with v:=bP n.store.aj.v,cH:=n.aN}:Su)) hs (show n.store.ao.ar.length<=900 from by omega) (k+3))<|eb z2<|e0) (by simp only[lB,qG,hZ,e9,z0,z1,z2,vq]<;>rfl)
   ·exact rt (ec (hV (k+3))<|eb z0<|eb z1<|ec (wS n.store.aj.v (k+10))<|ec (fI n (({So.aj n.store with v:=bP n.store.aj.v,cH:=n.aN}:Su)) hs (show n.store.ao.ar.length<=900 from by omega) (k+3))<|eb z2<|e0) (by simp only[lB,qG,hZ,e9,z0,z1,z2,vq]<;>rfl)
  ·rcases be (kv n m).2 with z2|z2
   ·rcases be (v.iY==n.id) with z3|z3
    ·exact rt (ec (hV (k+3))<|eb z0<|eb z1<|ec (JN n.store m hs (show n.store.ao.ar.length<=900 from by omega) (k+3))<|ec (hL (k+8))<|en z2<|eb z3<|e0) (by simp only[lB,qG,hZ,e9,z0,z1,z2,z3,vq]<;>rfl)
    ·rcases be (aH (kv n m).1 (p7 n h)).2 with z4|z4
     ·exact rt (ec (hV (k+3))<|eb z0<|eb z1<|ec (JN n.store m hs (show n.store.ao.ar.length<=900 from by omega) (k+3))<|ec (hL (k+8))<|en z2<|eb z3<|ec (abx n.store.aj.v h.v.bH (k+10))<|ec (hB (k+3))<|en z4<|ec (WW (({Prod.fst (aH (kv n m).1 (p7 n h)) with ag:=4,eQ:=h,cU:=h.cH}:Nd)) h3 h4 (k+1))<|jg ((List.map Ou.cs (fZ ({Prod.fst (aH (kv n m).1 (p7 n h)) with ag:=4,eQ:=h,cU:=h.cH}:Nd)).2).length)<|e0) (by simp only[lB,qG,hZ,e9,z0,z1,z2,z3,z4,vq]<;>rfl)
     ·exact rt (ec (hV (k+3))<|eb z0<|eb z1<|ec (JN n.store m hs (show n.store.ao.ar.length<=900 from by omega) (k+3))<|ec (hL (k+8))<|en z2<|eb z3<|ec (abx n.store.aj.v h.v.bH (k+10))<|ec (hB (k+3))<|en z4<|e0) (by simp only[lB,qG,hZ,e9,z0,z1,z2,z3,z4,vq]<;>rfl)
   ·exact rt (ec (hV (k+3))<|eb z0<|eb z1<|ec (JN n.store m hs (show n.store.ao.ar.length<=900 from by omega) (k+3))<|ec (hL (k+8))<|en z2<|e0) (by simp only[lB,qG,hZ,e9,z0,z1,z2,vq]<;>rfl)
theorem ah0(n:Nd)(h:He)(hs:n.store.ao.ax.length<=1000000)(hc:n.store.ao.ar.length<=880)(k:Nat):EO (k+12) 70 [.agg n.cs, .agg h.cs] []=some ([.agg (AY n h).1.cs, .top 5 ((AY n h).2.map Ou.cs)],[]):=by
 have a:=UM n (b9 n h).2
 have b:=zA (kv n (b9 n h).2).1 (p7 n h)
 have a1:=a.1
 have a2:=a.2
 have b1:=b.1
 have b2:=b.2
 exact adT n h (b9 n h).2 (b9 n h).1 hs hc (by omega) (by omega) (by omega) (by omega) (fun k=>FG n _ _ k) (fun k=>S3 n h k) (fun k=>fI (kv n (b9 n h).2).1 (p7 n h) (by omega) (by omega) k) k
theorem adU(n:Nd)(block:Int)(x:ByteArray)(hs:n.store.ao.ax.length<=1000000)(hc:n.store.ao.ar.length<=880)(h1:(((eE n block x).1.store).ao.ar).length<=890)(h2:(((bi (eE n block x).1 block).1.store).ao.ax).length<=1000000)(h3:(((bi (eE n block x).1 block).1.store).ao.ar).length<=890)(hL:∀k,EO (k+3) 101 [A.agg n.cs,A.agg ((jn n.store block x).1.cs),A.c (ii (jn n.store block x).2)] []=some ([au.agg ((eE n block x).1.cs),au.c (bo (eE n block x).2)],[]))(k:Nat):EO (k+11) 75 [A.agg n.cs,A.c (ii block),A.c (st x)] []=some ([au.agg ((nc n block x).1.cs),rO (nc n block x).2],[]):=by
 rcases be (n.wanted==wrap .i64 (block+1)) with z0|z0
 ·rcases be (eE n block x).2 with z1|z1
  ·rcases be (bi (eE n block x).1 block).2 with z2|z2
   ·exact rt (en z0<|ec (QY n.store block x hs (show n.store.ao.ar.length<=900 from by first|omega|exact aZ (mN (cI _) _) (by decide)|exact pM (mN (cI _) _) (by decide)|exact aZ (cI _) (by decide)|exact aZ (Co (cI _) _) (by decide)|exact pM (cI _) (by decide)|(refine aZ (Cr (cI _)) (by decide))|(have:=cI (nP n block x);unfold nP at this;omega)|(have:=cI (nP n block x);exact aZ (mN this _) (by decide))) (k+4))<|ec (hL (k+7))<|en z1<|ec (ux (eE n block x).1 block h1 (k+3))<|en z2<|ec (mB (({Prod.fst (bi (eE n block x).1 block) with wanted:=0}:Nd)) ((Pk.mk 7 0 fG block ⟨#[]⟩)) (show ByteArray.size ⟨#[]⟩<=900000 from by decide) (k+1))<|ec (WW (({Prod.fst (bi (eE n block x).1 block) with wanted:=0}:Nd)) h2 h3 k)<|ep (rfl:[ii (bE ({Prod.fst (bi (eE n block x).1 block) with wanted:=(0:Int)}:Nd) (Pk.mk 7 0 fG block ⟨#[]⟩)).ae,ii (bE ({Prod.fst (bi (eE n block x).1 block) with wanted:=(0:Int)}:Nd) (Pk.mk 7 0 fG block ⟨#[]⟩)).node,ii (bE ({Prod.fst (bi (eE n block x).1 block) with wanted:=(0:Int)}:Nd) (Pk.mk 7 0 fG block ⟨#[]⟩)).id,ii (bE ({Prod.fst (bi (eE n block x).1 block) with wanted:=(0:Int)}:Nd) (Pk.mk 7 0 fG block ⟨#[]⟩)).j2,st (bE ({Prod.fst (bi (eE n block x).1 block) with wanted:=(0:Int)}:Nd) (Pk.mk 7 0 fG block ⟨#[]⟩)).data]::List.map Ou.cs (fZ ({Prod.fst (bi (eE n block x).1 block) with wanted:=(0:Int)}:Nd)).2=[ii (bE ({Prod.fst (bi (eE n block x).1 block) with wanted:=(0:Int)}:Nd) (Pk.mk 7 0 fG block ⟨#[]⟩)).ae,ii (bE ({Prod.fst (bi (eE n block x).1 block) with wanted:=(0:Int)}:Nd) (Pk.mk 7 0 fG block ⟨#[]⟩)).node,ii (bE ({Prod.fst (bi (eE n block x).1 block) with wanted:=(0:Int)}:Nd) (Pk.mk 7 0 fG block ⟨#[]⟩)).id,ii (bE ({Prod.fst (bi (eE n block x).1 block) with wanted:=(0:Int)}:Nd) (Pk.mk 7 0 fG block ⟨#[]⟩)).j2,st (bE ({Prod.fst (bi (eE n block x).1 block) with wanted:=(0:Int)}:Nd) (Pk.mk 7 0 fG block ⟨#[]⟩)).data]::List.map Ou.cs (fZ ({Prod.fst (bi (eE n block x).1 block) with wanted:=(0:Int)}:Nd)).2)<|ep (show List.length ([ii (bE ({Prod.fst (bi (eE n block x).1 block) with wanted:=(0:Int)}:Nd) (Pk.mk 7 0 fG block ⟨#[]⟩)).ae,ii (bE ({Prod.fst (bi (eE n block x).1 block) with wanted:=(0:Int)}:Nd) (Pk.mk 7 0 fG block ⟨#[]⟩)).node,ii (bE ({Prod.fst (bi (eE n block x).1 block) with wanted:=(0:Int)}:Nd) (Pk.mk 7 0 fG block ⟨#[]⟩)).id,ii (bE ({Prod.fst (bi (eE n block x).1 block) with wanted:=(0:Int)}:Nd) (Pk.mk 7 0 fG block ⟨#[]⟩)).j2,st (bE ({Prod.fst (bi (eE n block x).1 block) with wanted:=(0:Int)}:Nd) (Pk.mk 7 0 fG block ⟨#[]⟩)).data]::List.map Ou.cs (fZ ({Prod.fst (bi (eE n block x).1 block) with wanted:=(0:Int)}:Nd)).2)<=1073741824 from by simp only[iq,cV,eO,rR,kG,jq];first|omega|(first|omega|exact aZ (mN (cI _) _) (by decide)|exact pM (mN (cI _) _) (by decide)|exact aZ (cI _) (by decide)|exact aZ (Co (cI _) _) (by decide)|exact pM (cI _) (by decide)|(refine aZ (Cr (cI _)) (by decide))|(have:=cI (nP n block x);unfold nP at this;omega)|(have:=cI (nP n block x);exact aZ (mN this _) (by decide))))<|eg (G.app ([ii (bE ({Prod.fst (bi (eE n block x).1 block) with wanted:=0}:Nd) (Pk.mk 7 0 fG block ⟨#[]⟩)).ae,ii (bE ({Prod.fst (bi (eE n block x).1 block) with wanted:=0}:Nd) (Pk.mk 7 0 fG block ⟨#[]⟩)).node,ii (bE ({Prod.fst (bi (eE n block x).1 block) with wanted:=0}:Nd) (Pk.mk 7 0 fG block ⟨#[]⟩)).id,ii (bE ({Prod.fst (bi (eE n block x).1 block) with wanted:=0}:Nd) (Pk.mk 7 0 fG block ⟨#[]⟩)).j2,st (bE ({Prod.fst (bi (eE n block x).1 block) with wanted:=0}:Nd) (Pk.mk 7 0 fG block ⟨#[]⟩)).data]::List.map Ou.cs (fZ ({Prod.fst (bi (eE n block x).1 block) with wanted:=0}:Nd)).2))<|ep ((rfl:([ii (bE ({Prod.fst (bi (eE n block x).1 block) with wanted:=(0:Int)}:Nd) (Pk.mk 7 0 fG block ⟨#[]⟩)).ae,ii (bE ({Prod.fst (bi (eE n block x).1 block) with wanted:=(0:Int)}:Nd) (Pk.mk 7 0 fG block ⟨#[]⟩)).node,ii (bE ({Prod.fst (bi (eE n block x).1 block) with wanted:=(0:Int)}:Nd) (Pk.mk 7 0 fG block ⟨#[]⟩)).id,ii (bE ({Prod.fst (bi (eE n block x).1 block) with wanted:=(0:Int)}:Nd) (Pk.mk 7 0 fG block ⟨#[]⟩)).j2,st (bE ({Prod.fst (bi (eE n block x).1 block) with wanted:=(0:Int)}:Nd) (Pk.mk 7 0 fG block ⟨#[]⟩)).data]::List.map Ou.cs (fZ ({Prod.fst (bi (eE n block x).1 block) with wanted:=(0:Int)}:Nd)).2).length=([ii (bE ({Prod.fst (bi (eE n block x).1 block) with wanted:=(0:Int)}:Nd) (Pk.mk 7 0 fG block ⟨#[]⟩)).ae,ii (bE ({Prod.fst (bi (eE n block x).1 block) with wanted:=(0:Int)}:Nd) (Pk.mk 7 0 fG block ⟨#[]⟩)).node,ii (bE ({Prod.fst (bi (eE n block x).1 block) with wanted:=(0:Int)}:Nd) (Pk.mk 7 0 fG block ⟨#[]⟩)).id,ii (bE ({Prod.fst (bi (eE n block x).1 block) with wanted:=(0:Int)}:Nd) (Pk.mk 7 0 fG block ⟨#[]⟩)).j2,st (bE ({Prod.fst (bi (eE n block x).1 block) with wanted:=(0:Int)}:Nd) (Pk.mk 7 0 fG block ⟨#[]⟩)).data]::List.map Ou.cs (fZ ({Prod.fst (bi (eE n block x).1 block) with wanted:=(0:Int)}:Nd)).2).length)).symm<|e0) (by simp only[nc,nP,Et,fQ,z0,z1,z2,vq]<;>rfl)
   ·exact rt (en z0<|ec (QY n.store block x hs (show n.store.ao.ar.length<=900 from by first|omega|exact aZ (mN (cI _) _) (by decide)|exact pM (mN (cI _) _) (by decide)|exact aZ (cI _) (by decide)|exact aZ (Co (cI _) _) (by decide)|exact pM (cI _) (by decide)|(refine aZ (Cr (cI _)) (by decide))|(have:=cI (nP n block x);unfold nP at this;omega)|(have:=cI (nP n block x);exact aZ (mN this _) (by decide))) (k+4))<|ec (hL (k+7))<|en z1<|ec (ux (eE n block x).1 block h1 (k+3))<|en z2<|e0) (by simp only[nc,nP,Et,fQ,z0,z1,z2,vq]<;>rfl)
  ·exact rt (en z0<|ec (QY n.store block x hs (show n.store.ao.ar.length<=900 from by first|omega|exact aZ (mN (cI _) _) (by decide)|exact pM (mN (cI _) _) (by decide)|exact aZ (cI _) (by decide)|exact aZ (Co (cI _) _) (by decide)|exact pM (cI _) (by decide)|(refine aZ (Cr (cI _)) (by decide))|(have:=cI (nP n block x);unfold nP at this;omega)|(have:=cI (nP n block x);exact aZ (mN this _) (by decide))) (k+4))<|ec (hL (k+7))<|en z1<|e0) (by simp only[nc,nP,Et,fQ,z0,z1,vq]<;>rfl)
 ·exact rt (en z0<|e0) (by simp only[nc,nP,Et,fQ,z0,vq]<;>rfl)
theorem ah1(n:Nd)(block:Int)(x:ByteArray)(hs:n.store.ao.ax.length<=1000000)(hc:n.store.ao.ar.length<=880)(k:Nat):EO (k+11) 75 [.agg n.cs, .c (ii block), .c (st x)] []=some ([.agg (nc n block x).1.cs, .top 5 ((nc n block x).2.map Ou.cs)],[]):=by
 have a:=UL n block x
 have b:=N7 (eE n block x).1 block
 exact adU n block x hs hc (aZ a.2 (by omega)) (by rw[b.1,a.1];exact hs) (by have:=a.2;have:=b.2;omega) (fun k=>FG n _ _ k) k
theorem ZU(n:Nd)(block:Int)(hc:n.store.ao.ar.length<=890)(k:Nat):EO (k+10) 74 [.agg n.cs, .c (ii block)] []=some ([.agg n.cs, .top 5 ((Eu n block).map Ou.cs)],[]):=
 adQ n block hc (aZ (Ew _ _) (by decide)) k
theorem wT(n:Nd)(b:ByteArray)(hb:b.size<=800000)(hs:n.store.ao.ax.length<=1000000)(hc:n.store.ao.ar.length<=880)(k:Nat):EO (k+13) 38 [A.agg n.cs,A.c (st b)] []=some ([au.agg ((bF n b).1.cs),rO (bF n b).2],[]):=by
 rcases be n.up with z0|z0
 ·rcases be (n.ag==0) with z1|z1
  ·exact rt (eA z0<|eb z1<|e0) (rs:=[au.agg n.cs,rO []]) (by simp only[bF,jX,e9,z0,z1,vq]<;>rfl)
  ·rcases be ((bw b n.bd).2==16) with z2|z2
   ·exact rt (eA z0<|eb z1<|ec (je b n.bd hb (k+3))<|eb z2<|e0) (rs:=[au.agg n.cs,rO []]) (by simp only[bF,jX,e9,z0,z1,z2,vq]<;>rfl)
   ·rcases be ((bw b n.bd).2==0) with z3|z3
    ·rcases be (bO n (bw b n.bd).1) with z4|z4
     ·rcases be ((bw b n.bd).1.ae==1) with z5|z5
      ·exact rt (eA z0<|eb z1<|ec (je b n.bd hb (k+3))<|eb z2<|ez z3<|ec (qQ n (bw b n.bd).1 (k+11))<|iA z3<|en z4<|eb z5<|ec (ah0 n ((bw b n.bd).1.aw) hs hc k)<|jg ((List.map Ou.cs (AY n ((bw b n.bd).1.aw)).2).length)<|e0) (rs:=[au.agg ((AY n ((bw b n.bd).1.aw)).1.cs),rO (AY n ((bw b n.bd).1.aw)).2]) (by simp only[bF,jX,e9,z0,z1,z2,z3,z4,z5,vq]<;>rfl)
      ·rcases be ((bw b n.bd).1.ae==2) with z6|z6
       ·exact rt (eA z0<|eb z1<|ec (je b n.bd hb (k+3))<|eb z2<|ez z3<|ec (qQ n (bw b n.bd).1 (k+11))<|iA z3<|en z4<|eb z5<|eb z6<|ec (ZR n ((bw b n.bd).1.block) ((bw b n.bd).1.data) hs (show n.store.ao.ar.length<=890 from by omega) (k+2))<|jg ((List.map Ou.cs (jt n ((bw b n.bd).1.block) ((bw b n.bd).1.data)).2).length)<|e0) (rs:=[au.agg ((jt n ((bw b n.bd).1.block) ((bw b n.bd).1.data)).1.cs),rO (jt n ((bw b n.bd).1.block) ((bw b n.bd).1.data)).2]) (by simp only[bF,jX,e9,z0,z1,z2,z3,z4,z5,z6,vq]<;>rfl)
       ·rcases be ((bw b n.bd).1.ae==3) with z7|z7
        ·exact rt (eA z0<|eb z1<|ec (je b n.bd hb (k+3))<|eb z2<|ez z3<|ec (qQ n (bw b n.bd).1 (k+11))<|iA z3<|en z4<|eb z5<|eb z6<|eb z7<|ec (ZQ n ((bw b n.bd).1.block) (show n.store.ao.ar.length<=890 from by omega) (k+2))<|jg ((List.map Ou.cs (iR n ((bw b n.bd).1.block)).2).length)<|e0) (rs:=[au.agg ((iR n ((bw b n.bd).1.block)).1.cs),rO (iR n ((bw b n.bd).1.block)).2]) (by simp only[bF,jX,e9,z0,z1,z2,z3,z4,z5,z6,z7,vq]<;>rfl)
        ·rcases be ((bw b n.bd).1.ae==4) with z8|z8
         ·exact rt (eA z0<|eb z1<|ec (je b n.bd hb (k+3))<|eb z2<|ez z3<|ec (qQ n (bw b n.bd).1 (k+11))<|iA z3<|en z4<|eb z5<|eb z6<|eb z7<|eb z8<|ec (S2 n ((bw b n.bd).1.block) (show n.store.ao.ar.length<=890 from by omega) (k+4))<|jg 0<|e0) (rs:=[au.agg ((bi n ((bw b n.bd).1.block)).1.cs),rO []]) (by simp only[bF,jX,e9,z0,z1,z2,z3,z4,z5,z6,z7,z8,vq]<;>rfl)
         ·rcases be ((bw b n.bd).1.ae==5) with z9|z9
          ·exact rt (eA z0<|eb z1<|ec (je b n.bd hb (k+3))<|eb z2<|ez z3<|ec (qQ n (bw b n.bd).1 (k+11))<|iA z3<|en z4<|eb z5<|eb z6<|eb z7<|eb z8<|eb z9<|ec (ZU n ((bw b n.bd).1.block) (show n.store.ao.ar.length<=890 from by omega) (k+2))<|jg 1<|e0) (rs:=[au.agg n.cs,rO [(Ou.mk 1 n.id 0 0 (jl ({CF 6 ((bw b n.bd).1.block) (aK n.store.ao ((bw b n.bd).1.block)).1 with bd:=n.bd}:Pk)).1)]]) (by simp only[bF,jX,e9,z0,z1,z2,z3,z4,z5,z6,z7,z8,z9,vq]<;>rfl)
          ·rcases be ((bw b n.bd).1.ae==6) with Bf|Bf
           ·exact rt (eA z0<|eb z1<|ec (je b n.bd hb (k+3))<|eb z2<|ez z3<|ec (qQ n (bw b n.bd).1 (k+11))<|iA z3<|en z4<|eb z5<|eb z6<|eb z7<|eb z8<|eb z9<|eb Bf<|ec (ah1 n ((bw b n.bd).1.block) ((bw b n.bd).1.data) hs hc (k+1))<|jg ((List.map Ou.cs (nc n ((bw b n.bd).1.block) ((bw b n.bd).1.data)).2).length)<|e0) (rs:=[au.agg ((nc n ((bw b n.bd).1.block) ((bw b n.bd).1.data)).1.cs),rO (nc n ((bw b n.bd).1.block) ((bw b n.bd).1.data)).2]) (by simp only[bF,jX,e9,z0,z1,z2,z3,z4,z5,z6,z7,z8,z9,Bf,vq]<;>rfl)
           ·rcases be ((bw b n.bd).1.ae==7) with MD|MD
            ·exact rt (eA z0<|eb z1<|ec (je b n.bd hb (k+3))<|eb z2<|ez z3<|ec (qQ n (bw b n.bd).1 (k+11))<|iA z3<|en z4<|eb z5<|eb z6<|eb z7<|eb z8<|eb z9<|eb Bf<|eb MD<|ec (WL n ((bw b n.bd).1.block) (show n.store.ao.ar.length<=890 from by omega) (k+4))<|jg 0<|e0) (rs:=[au.agg ((io n ((bw b n.bd).1.block)).cs),rO []]) (by simp only[bF,jX,e9,z0,z1,z2,z3,z4,z5,z6,z7,z8,z9,Bf,MD,vq]<;>rfl)
            ·rcases be ((bw b n.bd).1.ae==8) with S9|S9
             ·exact rt (eA z0<|eb z1<|ec (je b n.bd hb (k+3))<|eb z2<|ez z3<|ec (qQ n (bw b n.bd).1 (k+11))<|iA z3<|en z4<|eb z5<|eb z6<|eb z7<|eb z8<|eb z9<|eb Bf<|eb MD<|eb S9<|ec (ZS n hs (show n.store.ao.ar.length<=890 from by omega) (k+2))<|jg ((List.map Ou.cs (ju n).2).length)<|e0) (rs:=[au.agg ((ju n).1.cs),rO (ju n).2]) (by simp only[bF,jX,e9,z0,z1,z2,z3,z4,z5,z6,z7,z8,z9,Bf,MD,S9,vq]<;>rfl)
             ·rcases be ((bw b n.bd).1.ae==9) with z13|z13
              ·exact rt (eA z0<|eb z1<|ec (je b n.bd hb (k+3))<|eb z2<|ez z3<|ec (qQ n (bw b n.bd).1 (k+11))<|iA z3<|en z4<|eb z5<|eb z6<|eb z7<|eb z8<|eb z9<|eb Bf<|eb MD<|eb S9<|eb z13<|ec (adR n (k+11))<|e0) (rs:=[au.agg (({n with ag:=2}:Nd).cs),rO []]) (by simp only[bF,jX,e9,z0,z1,z2,z3,z4,z5,z6,z7,z8,z9,Bf,MD,S9,z13,vq]<;>rfl)
              ·exact rt (eA z0<|eb z1<|ec (je b n.bd hb (k+3))<|eb z2<|ez z3<|ec (qQ n (bw b n.bd).1 (k+11))<|iA z3<|en z4<|eb z5<|eb z6<|eb z7<|eb z8<|eb z9<|eb Bf<|eb MD<|eb S9<|eb z13<|ec (ZT n ((bw b n.bd).1.ae) hs (show n.store.ao.ar.length<=890 from by omega) (k+2))<|jg ((List.map Ou.cs (ed n ((bw b n.bd).1.ae)).2).length)<|e0) (rs:=[au.agg ((ed n ((bw b n.bd).1.ae)).1.cs),rO (ed n ((bw b n.bd).1.ae)).2]) (by simp only[bF,jX,e9,z0,z1,z2,z3,z4,z5,z6,z7,z8,z9,Bf,MD,S9,z13,vq]<;>rfl)
     ·exact rt (eA z0<|eb z1<|ec (je b n.bd hb (k+3))<|eb z2<|ez z3<|ec (qQ n (bw b n.bd).1 (k+11))<|iA z3<|en z4<|e0) (rs:=[au.agg n.cs,rO [(Ou.mk 3 n.id 0 0 ⟨#[]⟩)]]) (by simp only[bF,jX,e9,z0,z1,z2,z3,z4,vq]<;>rfl)
    ·exact rt (eA z0<|eb z1<|ec (je b n.bd hb (k+3))<|eb z2<|CD z3<|et<|e0) (rs:=[au.agg n.cs,rO [(Ou.mk 3 n.id 0 0 ⟨#[]⟩)]]) (by simp only[bF,jX,e9,z0,z1,z2,z3,vq]<;>rfl)
 ·exact rt (eA z0<|et<|e0) (rs:=[au.agg n.cs,rO []]) (by simp only[bF,jX,e9,z0,vq]<;>rfl)
def SG(l:List bg)(c0:Int):St:=St.mk (tc (sE l)::hs 4 (tc (ii c0)::hs 26 [])) [] []
def Q3(l:List bg)(i:Nat)(x:bg):St:=St.mk (tc (sE l)::T.bf::T.bf::T.bf::tc (bo true)::tc (ii (↑i:Int))::hs 4 (tc (ii (↑i:Int))::tc (sE l)::tc (ii (↑(l.length):Int))::tc (bo (gL i l.length))::T.bf::T.bf::tc (sE l)::tc (ii (↑i:Int))::tc (C.fJ [ii x.ae,ii x.node,ii x.id,ii x.block,st x.data,u x.n,sB x.aU])::tc (C.fJ [st x.data,u x.n,sB x.aU])::tc (st x.data)::tc (ii (↑(x.data.size):Int))::tc (bo (decide ((↑(x.data.size):Int)>300)))::tc (bo (decide ((↑(x.data.size):Int)>300)))::ks 7 [tc (bo true)])) [] []
theorem al4(l:List bg)(i:Nat)(x:bg)(hx:l[i]?=some x)(k:Nat)(z0:(gL i l.length)=true)(z1:(decide ((↑(x.data.size):Int)>300))=true):dq (EE (k+1)) (HH 14) NN (LB PP 14 4) (SG l (↑i:Int)) (dJ.ret) (Q3 l i x):=
 ou (ep (aG (bg.cs) (l))<|eg (G.len l.length)<|eb z0<|ep (rz i)<|ep (aT (f:=bg.cs) hx)<|eg (G.fF i [ii x.ae,ii x.node,ii x.id,ii x.block,st x.data,u x.n,sB x.aU])<|hO z1<|ci z1<|et<|e0)
def Q4(l:List bg)(i:Nat)(x:bg):St:=St.mk (tc (sE l)::T.bf::T.bf::T.bf::tc (bo true)::tc (ii (↑i:Int))::hs 4 [tc (ii (↑i:Int)),tc (sE l),tc (ii (↑(l.length):Int)),tc (bo (gL i l.length)),T.bf,T.bf,tc (sE l),tc (ii (↑i:Int)),tc (C.fJ [ii x.ae,ii x.node,ii x.id,ii x.block,st x.data,u x.n,sB x.aU]),tc (C.fJ [st x.data,u x.n,sB x.aU]),tc (st x.data),tc (ii (↑(x.data.size):Int)),tc (bo (decide ((↑(x.data.size):Int)>300))),tc (bo (decide ((↑(x.data.size):Int)>300))),tc (sE l),tc (ii (↑i:Int)),tc (C.fJ [ii x.ae,ii x.node,ii x.id,ii x.block,st x.data,u x.n,sB x.aU]),tc (C.fJ [sB x.aU]),tc (sB x.aU),tc (ii (↑(x.aU.length):Int)),tc (bo (decide ((↑(x.aU.length):Int)>100))),tc (bo (decide ((↑(x.aU.length):Int)>100)))]) [] []
theorem al5(l:List bg)(i:Nat)(x:bg)(hx:l[i]?=some x)(k:Nat)(z0:(gL i l.length)=true)(z1:(decide ((↑(x.data.size):Int)>300))=false)(z2:(decide ((↑(x.aU.length):Int)>100))=true):dq (EE (k+1)) (HH 14) NN (LB PP 14 4) (SG l (↑i:Int)) (dJ.ret) (Q4 l i x):=
 ou (ep (aG (bg.cs) (l))<|eg (G.len l.length)<|eb z0<|ep (rz i)<|ep (aT (f:=bg.cs) hx)<|eg (G.fF i [ii x.ae,ii x.node,ii x.id,ii x.block,st x.data,u x.n,sB x.aU])<|dO z1<|ep (rz i)<|ep (aT (f:=bg.cs) hx)<|eg (G.fF i [ii x.ae,ii x.node,ii x.id,ii x.block,st x.data,u x.n,sB x.aU])<|dO z1<|ep (aG (eB) x.aU)<|eg (G.len x.aU.length)<|ci z1<|eb z2<|e0)
theorem al6(l:List bg)(i:Nat)(x:bg)(hx:l[i]?=some x)(k:Nat)(z0:(gL i l.length)=true)(z1:(decide ((↑(x.data.size):Int)>300))=false)(z2:(decide ((↑(x.aU.length):Int)>100))=false):bQ (EE (k+1)) (HH 14) NN (LB PP 14 4) 0 0 (SG l (↑i:Int)) (SG l (wrap .i64 ((↑i:Int)+1))):=
 nx (ep (aG (bg.cs) (l))<|eg (G.len l.length)<|eb z0<|ep (rz i)<|ep (aT (f:=bg.cs) hx)<|eg (G.fF i [ii x.ae,ii x.node,ii x.id,ii x.block,st x.data,u x.n,sB x.aU])<|dO z1<|ep (rz i)<|ep (aT (f:=bg.cs) hx)<|eg (G.fF i [ii x.ae,ii x.node,ii x.id,ii x.block,st x.data,u x.n,sB x.aU])<|dO z1<|ep (aG (eB) x.aU)<|eg (G.len x.aU.length)<|ci z1<|eb z2<|e0)
def Q5(l:List bg)(i:Nat):St:=St.mk (tc (sE l)::hs 4 (tc (ii (↑i:Int))::hs 4 (tc (ii (↑i:Int))::tc (sE l)::tc (ii (↑(l.length):Int))::tc (bo (gL i l.length))::hs 18 []))) [] []
theorem al7(l:List bg)(i:Nat)(k:Nat)(z0:(gL i l.length)=false):dq (EE (k+1)) (HH 14) NN (LB PP 14 4) (SG l (↑i:Int)) (dJ.exit 0) (Q5 l i):=
 ou (ep (aG (bg.cs) (l))<|eg (G.len l.length)<|eb z0<|e0)
theorem adV(l:List bg)(m:Int)(he:decide ((↑(l.length):Int)>m)=false)(i:Nat)(x:bg)(hL:∀k,bT (EE (k+1)) (HH 14) NN (LB PP 14 4) (SG l 0) dJ.ret (Q3 l i x))(k:Nat):EO (k+2) 14 [A.c (sE l),A.c (ii m)] []=some ([au.c (bo true)],[]):=by
 exact ro (ep (aG (bg.cs) (l))<|eg (G.len l.length)<|eb he<|eg (G.loop dJ.ret (Q3 l i x))<|ep (hL k)<|e0)
theorem adW(l:List bg)(m:Int)(he:decide ((↑(l.length):Int)>m)=false)(i:Nat)(x:bg)(hL:∀k,bT (EE (k+1)) (HH 14) NN (LB PP 14 4) (SG l 0) dJ.ret (Q4 l i x))(k:Nat):EO (k+2) 14 [A.c (sE l),A.c (ii m)] []=some ([au.c (bo true)],[]):=by
 exact ro (ep (aG (bg.cs) (l))<|eg (G.len l.length)<|eb he<|eg (G.loop dJ.ret (Q4 l i x))<|ep (hL k)<|e0)
theorem adX(l:List bg)(m:Int)(he:decide ((↑(l.length):Int)>m)=false)(hL:∀k,bT (EE (k+1)) (HH 14) NN (LB PP 14 4) (SG l 0) (dJ.exit 0) (Q5 l l.length))(k:Nat):EO (k+2) 14 [A.c (sE l),A.c (ii m)] []=some ([au.c (bo false)],[]):=by
 exact ro (ep (aG (bg.cs) (l))<|eg (G.len l.length)<|eb he<|eg (G.loop (dJ.exit 0) (Q5 l l.length))<|ep (hL k)<|e0)
theorem WY(l:List bg)(m:Int)(he:decide ((↑(l.length):Int)>m)=true)(k:Nat):EO (k+2) 14 [A.c (sE l),A.c (ii m)] []=some ([au.c (bo true)],[]):=by
 exact ro (ep (aG (bg.cs) (l))<|eg (G.len l.length)<|eb he<|e0)
theorem ZV(l:List bg)(m:Int)(hl:l.length<=1000000)(k:Nat):EO (k+2) 14 [.c (.slice 7 (l.map bg.cs)), .c (ii m)] []=some ([.c (bo (nQ l m))],[]):=by
 unfold nQ
 cases he:decide ((l.length:Int)>m) with
 |true=>exact WY l m he k
 |false=>
  rw[aJ]
  rcases pA (E:=fun k=>EE (k+1)) (H:=HH 14) (n:=NN) (b:=LB PP 14 4) (fun i=>SG l (i:Nat)) l zB (fun i x=>if decide ((x.data.size:Int)>300)=true then Q3 l i x else Q4 l i x) (Q5 l l.length) (nv:=0) (nt:=0) (e:= .ret) (e':= .exit 0) (by kernel_rfl) (by kernel_rfl)
   (fun k i x hx hp=>by
     unfold zB at hp
     rw[eh] at hp
     have:=al6 l i x hx k (sM hx) hp.1 hp.2
     rwa[p6 hx (by omega)] at this)
   (fun k i x hx hp=>by
     cases h3:decide ((x.data.size:Int)>300) with
     |true=>exact al4 l i x hx k (sM hx) h3
     |false=>
      unfold zB at hp
      rw[h3,rM] at hp
      exact al5 l i x hx k (sM hx) h3 hp)
   (fun k=>al7 l l.length k Gf) (by unfold NN;omega) with⟨h1,h2⟩|⟨h1,i,x,h3,h4,_,_,h2⟩
  ·rw[h1]
   exact adX l m he h2 k
  ·rw[h1]
   cases h5:decide ((x.data.size:Int)>300) with
   |true=>
    simp only[h5,bu] at h2
    exact adV l m he i x h2 k
   |false=>
    simp only[h5] at h2
    exact adW l m he i x (by simpa using h2) k
theorem Ak(k:Nat):EO (k+1) 26 [] []=some ([au.c (u 7)],[]):=by
 exact rt (e0) rfl
theorem oR(k:Nat):EO (k+1) 93 [] []=some ([au.c (st ku)],[]):=by
 exact rt (e0) rfl
theorem ZW(g:Int)(h1:((bV (b_ 1 g)).2==0)=true)(hL:∀k,EO (k+5) 90 [A.agg [ii 1,u g,u 0,u 0,u 0,bo false,bo false,bo false]] []=some ([au.c (st (bV (b_ 1 g)).1),au.c (ii (bV (b_ 1 g)).2)],[]))(k:Nat):EO (k+6) 55 [A.c (ii 1),A.c (u g)] []=some ([au.agg ((dR 1 g).cs),au.c (ii 0)],[]):=by
 exact rt (ec (hL k)<|en h1<|ec (FC 0 (k+3))<|ec (Ad (ee 0) (show ByteArray.size (ee (0:Int))<=1000000 from by decide) (k+1))<|eg (G.un)<|et<|ec (oR (k+4))<|ep (rfl:[[st (bV (b_ (1:Int) g)).1],[st (cA (ee (0:Int)))],[st ku]]=[[st (bV (b_ (1:Int) g)).1],[st (cA (ee (0:Int)))],[st ku]])<|ep (show List.length [[st (bV (b_ (1:Int) g)).1],[st (cA (ee (0:Int)))],[st ku]]<=1073741824 from by simp only[vr];omega)<|ep ((rfl:(2:Nat)=(2:Nat))).symm<|eg (G.app [[st (bV (b_ 1 g)).1],[st (cA (ee 0))],[st ku]])<|ef<|e0) (by simp only[dR,vq]<;>rfl)
theorem al8(c:Cl)(ho0:(aF c.n0).2.length<=10)(ho1:(aF c.n1).2.length<=10)(hC:∀k,EO (k+10) 67 [A.agg c.ai.cs] []=some ([au.agg ((cO c.ai).cs)],[]))(hA:∀k,EO (k+10) 68 [A.agg c.n0.cs] []=some ([au.agg ((aF c.n0).1.cs),rO (aF c.n0).2],[]))(hB:∀k,EO (k+10) 68 [A.agg c.n1.cs] []=some ([au.agg ((aF c.n1).1.cs),rO (aF c.n1).2],[]))(k:Nat):EO (k+11) 36 [A.agg c.cs,A.nil] []=some ([au.agg ((f9 c).1.cs),rO (f9 c).2],[]):=by
 rcases be c.n0.up with z0|z0
 ·rcases be ((aF c.n0).1.up) with z1|z1
  ·rcases be c.n1.up with z2|z2
   ·rcases be ((aF c.n1).1.up) with z3|z3
    ·exact rt (ec (hC k)<|eg (G.un)<|et<|cP<|en z0<|cP<|ec (hA k)<|ep (eF (List.map Ou.cs (aF c.n0).2))<|ep (bz (Ou.cs) (l:=(aF c.n0).2) (n:=1073741824) (by omega))<|ep ((rfl:(0:Nat)=(0:Nat))).symm<|eg (G.app (List.map Ou.cs (aF c.n0).2))<|cP<|en z1<|et<|cQ<|en z2<|cQ<|ec (hB k)<|ep (dH (Ou.cs) (aF c.n0).2 (aF c.n1).2)<|ep (bz (Ou.cs) (l:=(aF c.n0).2++(aF c.n1).2) (n:=1073741824) (by simp only[vr];omega))<|ep (eN ((List.map Ou.cs (aF c.n0).2).length))<|eg (G.app (List.map Ou.cs ((aF c.n0).2++(aF c.n1).2)))<|cQ<|en z3<|ef<|jg ((List.map Ou.cs ((aF c.n0).2++(aF c.n1).2)).length)<|e0) (rs:=[au.agg ((Cl.mk (aF c.n0).1 (aF c.n1).1 (cO c.ai) c.w0 c.w1).cs),rO ((aF c.n0).2++(aF c.n1).2)]) (by simp only[f9,eD,cO,fA,gp,dS,z0,z1,z2,z3,vq]<;>rfl)
    ·exact rt (ec (hC k)<|eg (G.un)<|et<|cP<|en z0<|cP<|ec (hA k)<|ep (eF (List.map Ou.cs (aF c.n0).2))<|ep (bz (Ou.cs) (l:=(aF c.n0).2) (n:=1073741824) (by omega))<|ep ((rfl:(0:Nat)=(0:Nat))).symm<|eg (G.app (List.map Ou.cs (aF c.n0).2))<|cP<|en z1<|et<|cQ<|en z2<|cQ<|ec (hB k)<|ep (dH (Ou.cs) (aF c.n0).2 (aF c.n1).2)<|ep (bz (Ou.cs) (l:=(aF c.n0).2++(aF c.n1).2) (n:=1073741824) (by simp only[vr];omega))<|ep (eN ((List.map Ou.cs (aF c.n0).2).length))<|eg (G.app (List.map Ou.cs ((aF c.n0).2++(aF c.n1).2)))<|cQ<|en z3<|cQ<|ef<|jg ((List.map Ou.cs ((aF c.n0).2++(aF c.n1).2)).length)<|e0) (rs:=[au.agg ((Cl.mk (aF c.n0).1 (aF c.n1).1 (cO c.ai) c.w0 false).cs),rO ((aF c.n0).2++(aF c.n1).2)]) (by simp only[f9,eD,cO,fA,gp,dS,z0,z1,z2,z3,vq]<;>rfl)
   ·exact rt (ec (hC k)<|eg (G.un)<|et<|cP<|en z0<|cP<|ec (hA k)<|ep (eF (List.map Ou.cs (aF c.n0).2))<|ep (bz (Ou.cs) (l:=(aF c.n0).2) (n:=1073741824) (by omega))<|ep ((rfl:(0:Nat)=(0:Nat))).symm<|eg (G.app (List.map Ou.cs (aF c.n0).2))<|cP<|en z1<|et<|cQ<|en z2<|ef<|jg ((List.map Ou.cs (aF c.n0).2).length)<|e0) (rs:=[au.agg (({c with n0:=(aF c.n0).1,ai:=cO c.ai}:Cl).cs),rO (aF c.n0).2]) (by simp only[f9,eD,cO,fA,gp,dS,z0,z1,z2,vq]<;>rfl)
  ·rcases be c.n1.up with z2|z2
   ·rcases be ((aF c.n1).1.up) with z3|z3
    ·exact rt (ec (hC k)<|eg (G.un)<|et<|cP<|en z0<|cP<|ec (hA k)<|ep (eF (List.map Ou.cs (aF c.n0).2))<|ep (bz (Ou.cs) (l:=(aF c.n0).2) (n:=1073741824) (by omega))<|ep ((rfl:(0:Nat)=(0:Nat))).symm<|eg (G.app (List.map Ou.cs (aF c.n0).2))<|cP<|en z1<|cP<|et<|cQ<|en z2<|cQ<|ec (hB k)<|ep (dH (Ou.cs) (aF c.n0).2 (aF c.n1).2)<|ep (bz (Ou.cs) (l:=(aF c.n0).2++(aF c.n1).2) (n:=1073741824) (by simp only[vr];omega))<|ep (eN ((List.map Ou.cs (aF c.n0).2).length))<|eg (G.app (List.map Ou.cs ((aF c.n0).2++(aF c.n1).2)))<|cQ<|en z3<|ef<|jg ((List.map Ou.cs ((aF c.n0).2++(aF c.n1).2)).length)<|e0) (rs:=[au.agg ((Cl.mk (aF c.n0).1 (aF c.n1).1 (cO c.ai) false c.w1).cs),rO ((aF c.n0).2++(aF c.n1).2)]) (by simp only[f9,eD,cO,fA,gp,dS,z0,z1,z2,z3,vq]<;>rfl)
    ·exact rt (ec (hC k)<|eg (G.un)<|et<|cP<|en z0<|cP<|ec (hA k)<|ep (eF (List.map Ou.cs (aF c.n0).2))<|ep (bz (Ou.cs) (l:=(aF c.n0).2) (n:=1073741824) (by omega))<|ep ((rfl:(0:Nat)=(0:Nat))).symm<|eg (G.app (List.map Ou.cs (aF c.n0).2))<|cP<|en z1<|cP<|et<|cQ<|en z2<|cQ<|ec (hB k)<|ep (dH (Ou.cs) (aF c.n0).2 (aF c.n1).2)<|ep (bz (Ou.cs) (l:=(aF c.n0).2++(aF c.n1).2) (n:=1073741824) (by simp only[vr];omega))<|ep (eN ((List.map Ou.cs (aF c.n0).2).length))<|eg (G.app (List.map Ou.cs ((aF c.n0).2++(aF c.n1).2)))<|cQ<|en z3<|cQ<|ef<|jg ((List.map Ou.cs ((aF c.n0).2++(aF c.n1).2)).length)<|e0) (rs:=[au.agg ((Cl.mk (aF c.n0).1 (aF c.n1).1 (cO c.ai) false false).cs),rO ((aF c.n0).2++(aF c.n1).2)]) (by simp only[f9,eD,cO,fA,gp,dS,z0,z1,z2,z3,vq]<;>rfl)
   ·exact rt (ec (hC k)<|eg (G.un)<|et<|cP<|en z0<|cP<|ec (hA k)<|ep (eF (List.map Ou.cs (aF c.n0).2))<|ep (bz (Ou.cs) (l:=(aF c.n0).2) (n:=1073741824) (by omega))<|ep ((rfl:(0:Nat)=(0:Nat))).symm<|eg (G.app (List.map Ou.cs (aF c.n0).2))<|cP<|en z1<|cP<|et<|cQ<|en z2<|ef<|jg ((List.map Ou.cs (aF c.n0).2).length)<|e0) (rs:=[au.agg ((Cl.mk (aF c.n0).1 c.n1 (cO c.ai) false c.w1).cs),rO (aF c.n0).2]) (by simp only[f9,eD,cO,fA,gp,dS,z0,z1,z2,vq]<;>rfl)
 ·rcases be c.n1.up with z1|z1
  ·rcases be ((aF c.n1).1.up) with z2|z2
   ·exact rt (ec (hC k)<|eg (G.un)<|et<|cP<|en z0<|et<|cQ<|en z1<|cQ<|ec (hB k)<|ep (eF (List.map Ou.cs (aF c.n1).2))<|ep (bz (Ou.cs) (l:=(aF c.n1).2) (n:=1073741824) (by omega))<|ep ((rfl:(0:Nat)=(0:Nat))).symm<|eg (G.app (List.map Ou.cs (aF c.n1).2))<|cQ<|en z2<|ef<|jg ((List.map Ou.cs (aF c.n1).2).length)<|e0) (rs:=[au.agg (({c with n1:=(aF c.n1).1,ai:=cO c.ai}:Cl).cs),rO (aF c.n1).2]) (by simp only[f9,eD,cO,fA,gp,dS,z0,z1,z2,vq]<;>rfl)
   ·exact rt (ec (hC k)<|eg (G.un)<|et<|cP<|en z0<|et<|cQ<|en z1<|cQ<|ec (hB k)<|ep (eF (List.map Ou.cs (aF c.n1).2))<|ep (bz (Ou.cs) (l:=(aF c.n1).2) (n:=1073741824) (by omega))<|ep ((rfl:(0:Nat)=(0:Nat))).symm<|eg (G.app (List.map Ou.cs (aF c.n1).2))<|cQ<|en z2<|cQ<|ef<|jg ((List.map Ou.cs (aF c.n1).2).length)<|e0) (rs:=[au.agg ((Cl.mk c.n0 (aF c.n1).1 (cO c.ai) c.w0 false).cs),rO (aF c.n1).2]) (by simp only[f9,eD,cO,fA,gp,dS,z0,z1,z2,vq]<;>rfl)
  ·exact rt (ec (hC k)<|eg (G.un)<|et<|cP<|en z0<|et<|cQ<|en z1<|ef<|ep ((rfl:(0:Nat)=(0:Nat))).symm<|e0) (rs:=[au.agg (({c with ai:=cO c.ai}:Cl).cs),rO []]) (by simp only[f9,eD,cO,fA,gp,dS,z0,z1,vq]<;>rfl)
theorem O1(n:Nd):(iS n).length<=1:=by
 unfold iS
 exact az (p:=fun(l:List Ou)=>l.length<=1) (aL _) (dh _)
theorem wU(n:Nd):(aF n).2.length<=10:=by
 have h:=O1 n
 unfold aF
 refine az (p:=fun(x:Nd×List Ou)=>x.2.length<=10) (dh _) (az (p:=fun(x:Nd×List Ou)=>x.2.length<=10) (by show(iS n).length<=10;omega) (az (p:=fun(x:Nd×List Ou)=>x.2.length<=10) (by show(iS n).length<=10;omega) ?_))
 rw[iq,cV,eO]
 omega
theorem adY(c:Cl)(Ee:c.n0.aQ.length<=1000000)(WZ:c.n0.bh.length<=1000000)(Q6:c.n0.store.ao.ax.length<=1000000)(Kc:c.n0.store.ao.ar.length<=880)(sr:c.n1.aQ.length<=1000000)(W0:c.n1.bh.length<=1000000)(xK:c.n1.store.ao.ax.length<=1000000)(ZX:c.n1.store.ao.ar.length<=880)(k:Nat):EO (k+11) 36 [.agg c.cs, .nil] []=some ([.agg (f9 c).1.cs, .top 5 ((f9 c).2.map Ou.cs)],[]):=
 al8 c (wU _) (wU _) (fun k=>My c.ai (k+9)) (fun k=>JP c.n0 Ee WZ Q6 (by omega) k) (fun k=>JP c.n1 sr W0 xK (by omega) k) k
def W1(d:Dk)(ks:List Bool)(c0:List ByteArray)(c1:Int):St:=St.mk (T.bf::tc (C.slice (1:Nat) (List.map eB ks))::T.k (K.v (V.fX (0:Nat) (0:Nat)))::T.bf::T.k (K.v (V.fX (1:Nat) (0:Nat)))::T.k (K.v (V.sC (2:Nat) (0:Nat) (1:Nat) ((List.map eS d.ax).length)))::tc (ii c1)::hs (37:Nat) []) [[V.c (C.slice (1:Nat) (List.map eS d.ax)),V.c (C.slice (2:Nat) (List.map Wr.cs d.ar)),V.c (ii d.kU),V.c (bo d.gN)],[V.cX (1:Nat) [] Tk.exact,V.cX (2:Nat) [] Tk.exact,V.c (ii (0:Int)),vF],List.map (fun(x:ByteArray)=>V.c (st x)) c0] []
theorem ah3(d:Dk)(ks:List Bool)(l:List ByteArray)(i:Nat)(w:Wr)(b:Bool)(hw:d.ar[i]?=some w)(hb:ks[i]?=some b)(h1:(0:Int)<=w.nW)(h2:Int.toNat w.nW<d.ax.length)(h3:Int.toNat w.nW<l.length)(k:Nat)(z0:(gL i d.ar.length)=true)(z1:(gL i ks.length)=true)(z2:(b)=true):bQ (EE (k+1)) (HH 81) NN (LB PP 81 3) 3 0 (W1 d ks l (↑i:Int)) (W1 d ks (List.set l (Int.toNat w.nW) w.data) (wrap .i64 ((↑i:Int)+1))):=
 nx2 [2] (ep (aG (Wr.cs) d.ar)<|eg (G.len d.ar.length)<|eb z0<|eb z0<|eb z0<|ep (aG (eB) (ks))<|eg (G.len ks.length)<|eb z0<|eb z0<|eb z1<|ep (rz i)<|ep (aT (f:=eB) hb)<|eg (G.fF i [bo b])<|eb z2<|ep (rz i)<|ep (aT (f:=Wr.cs) hw)<|eg (G.fF i [ii w.nW,st w.data])<|ep (rz i)<|ep (aT (f:=Wr.cs) hw)<|eg (G.fF i [ii w.nW,st w.data])<|ep (Dh h1).symm<|ep (qB (eS) (l:=d.ax) h2)<|eg (G.TH (Int.toNat w.nW))<|ep (ua (fun(x:ByteArray)=>V.c (st x)) (l) (Int.toNat w.nW) (V.c (st w.data)) h3)<|ep (pZ (fun(x:ByteArray)=>V.c (st x)) (l) (Int.toNat w.nW) w.data h3)<|eg (G.Kt (List.map (fun(x:ByteArray)=>V.c (st x)) (List.set l (Int.toNat w.nW) w.data)))<|ep (P2 (fun(x:ByteArray)=>st x) (List.set l (Int.toNat w.nW) w.data) 3)<|ep (GY (fun(x:ByteArray)=>st x) (List.set l (Int.toNat w.nW) w.data) 0)<|e0)
theorem ah4(d:Dk)(ks:List Bool)(l:List ByteArray)(i:Nat)(b:Bool)(hb:ks[i]?=some b)(k:Nat)(z0:(gL i d.ar.length)=true)(z1:(gL i ks.length)=true)(z2:(b)=false):bQ (EE (k+1)) (HH 81) NN (LB PP 81 3) 3 0 (W1 d ks l (↑i:Int)) (W1 d ks l (wrap .i64 ((↑i:Int)+1))):=
 nx2 [2] (ep (aG (Wr.cs) d.ar)<|eg (G.len d.ar.length)<|eb z0<|eb z0<|eb z0<|ep (aG (eB) (ks))<|eg (G.len ks.length)<|eb z0<|eb z0<|eb z1<|ep (rz i)<|ep (aT (f:=eB) hb)<|eg (G.fF i [bo b])<|eb z2<|ep (P2 (fun(x:ByteArray)=>st x) (l) 3)<|ep (GY (fun(x:ByteArray)=>st x) (l) 0)<|e0)
def JQ(d:Dk)(ks:List Bool)(l:List ByteArray)(i:Nat):St:=St.mk (T.bf::tc (sB ks)::T.k (K.v (V.fX 0 0))::T.bf::T.k (K.v (V.fX 1 0))::T.k (K.v (V.sC 2 0 1 ((List.map eS d.ax).length)))::tc (ii (↑i:Int))::hs 4 (tc (ii (↑i:Int))::T.k (K.v (V.fX 0 1))::tc (sW d.ar)::tc (ii (↑(d.ar.length):Int))::tc (bo (gL i d.ar.length))::tc (bo (gL i d.ar.length))::tc (ii (↑i:Int))::tc (sB ks)::tc (ii (↑(ks.length):Int))::tc (bo (gL i ks.length))::tc (bo (gL i ks.length))::hs 22 [])) [[V.c (sS d.ax),V.c (sW d.ar),V.c (ii d.kU),V.c (bo d.gN)],[vE,V.cX 2 [] Tk.exact,V.c (ii 0),vF],List.map (fun(x:ByteArray)=>V.c (st x)) l] []
theorem ah5(d:Dk)(ks:List Bool)(l:List ByteArray)(i:Nat)(k:Nat)(z0:(gL i d.ar.length)=true)(z1:(gL i ks.length)=false):dq (EE (k+1)) (HH 81) NN (LB PP 81 3) (W1 d ks l (↑i:Int)) (dJ.exit 0) (JQ d ks l i):=
 ou (ep (aG (Wr.cs) d.ar)<|eg (G.len d.ar.length)<|dO z0<|ep (aG (eB) (ks))<|eg (G.len ks.length)<|ci z0<|eb z1<|e0)
def JR(d:Dk)(ks:List Bool)(l:List ByteArray)(i:Nat):St:=St.mk (T.bf::tc (sB ks)::T.k (K.v (V.fX 0 0))::T.bf::T.k (K.v (V.fX 1 0))::T.k (K.v (V.sC 2 0 1 ((List.map eS d.ax).length)))::tc (ii (↑i:Int))::hs 4 (tc (ii (↑i:Int))::T.k (K.v (V.fX 0 1))::tc (sW d.ar)::tc (ii (↑(d.ar.length):Int))::tc (bo (gL i d.ar.length))::tc (bo (gL i d.ar.length))::Dm.ks 4 (tc (bo false)::hs 22 []))) [[V.c (sS d.ax),V.c (sW d.ar),V.c (ii d.kU),V.c (bo d.gN)],[vE,V.cX 2 [] Tk.exact,V.c (ii 0),vF],List.map (fun(x:ByteArray)=>V.c (st x)) l] []
theorem ah6(d:Dk)(ks:List Bool)(l:List ByteArray)(i:Nat)(k:Nat)(z0:(gL i d.ar.length)=false):dq (EE (k+1)) (HH 81) NN (LB PP 81 3) (W1 d ks l (↑i:Int)) (dJ.exit 0) (JR d ks l i):=
 ou (ep (aG (Wr.cs) d.ar)<|eg (G.len d.ar.length)<|sy z0<|ef<|e0)
abbrev wV(s:List ByteArray)(x:Wr×Bool):List ByteArray:=bif x.2 then s.set x.1.nW.toNat x.1.data else s
theorem Q7:∀(l:List (Wr×Bool)) (s:List ByteArray),(l.foldl wV s).length=s.length
 |[],_=>rfl
 |x::l,s=>by
  rw[jp,Q7 l]
  unfold wV
  cases x.2 with
  |true=>simp
  |false=>rfl
def JS(d:Dk):Prop:=∀w∈d.ar,0<=w.nW/\w.nW.toNat<d.ax.length
theorem Lrv(d:Dk)(ks:List Bool)(rT:JS d)(hc:d.ar.length<=1000000)(t:List ByteArray->St)(k:Nat)
 (aB:∀l:List ByteArray,l.length=d.ax.length->dq (EE (k+1)) (HH 81) NN (LB PP 81 3) (W1 d ks l ((d.ar.zip ks).length:Nat)) (.exit 0) (t l)):
 bT (EE (k+1)) (HH 81) NN (LB PP 81 3) (W1 d ks d.ax 0) (.exit 0) (t ((d.ar.zip ks).foldl wV d.ax)):=by
 refine ke (E:=EE (k+1)) (fun s i=>W1 d ks s (i:Nat)) (fun _ s=>s.length=d.ax.length) (d.ar.zip ks) wV d.ax (nv:=3) (nt:=0) rfl (by kernel_rfl) (by kernel_rfl) rfl (fun s i x hx hp=> ?_) (fun hp=>aB _ hp) (by unfold NN;rw[uS];omega)
 obtain⟨hw,hb⟩:=YM hx
 obtain⟨h1,h2⟩:=rT x.1 (jD hw)
 have h3:x.1.nW.toNat<s.length:=by omega
 unfold wV
 cases hq:x.2 with
 |true=>
  rw[hq] at hb
  refine⟨?_,by simpa using hp⟩
  have:=ah3 d ks s i x.1 true hw hb h1 h2 h3 k (sM hw) (sM hb) rfl
  rwa[p6 hw (by omega)] at this
 |false=>
  rw[hq] at hb
  refine⟨?_,hp⟩
  have:=ah4 d ks s i false hb k (sM hw) (sM hb) rfl
  rwa[p6 hw (by omega)] at this
theorem W2(d:Dk)(ks:List Bool)(l:List ByteArray)(i:Nat)(h1:(0:Nat)<d.ax.length)(h2:d.ax.length<=1000000)(h3:(List.map eS d.ax).length=l.length)(hL:∀k,bT (EE (k+1)) (HH 81) NN (LB PP 81 3) (W1 d ks d.ax 0) (dJ.exit 0) (JQ d ks l i))(k:Nat):EO (k+2) 81 [A.agg d.cs,A.c (sB ks)] []=some ([au.agg ((Dk.mk l ([]) 0 false).cs)],[]):=by
 exact rt (ep (j6 (f:=eS) (g:=fun(x:ByteArray)=>st x) (fun _=>rfl) d.ax)<|ep (j7 (eS) (l:=d.ax) h1)<|ep (bz (eS) (l:=d.ax) (n:=1073741824) (show d.ax.length<=1073741824 from by omega))<|eg (G.uX (List.map (fun(x:ByteArray)=>V.c (st x)) d.ax))<|eg (G.loop (dJ.exit 0) (JQ d ks l i))<|ep (hL k)<|ep (gH (fun(x:ByteArray)=>st x) (l) h3)<|eg (G.uY (List.map (fun(x:ByteArray)=>[st x]) l))<|e0) rfl
theorem W4(d:Dk)(ks:List Bool)(l:List ByteArray)(i:Nat)(h1:(0:Nat)<d.ax.length)(h2:d.ax.length<=1000000)(h3:(List.map eS d.ax).length=l.length)(hL:∀k,bT (EE (k+1)) (HH 81) NN (LB PP 81 3) (W1 d ks d.ax 0) (dJ.exit 0) (JR d ks l i))(k:Nat):EO (k+2) 81 [A.agg d.cs,A.c (sB ks)] []=some ([au.agg ((Dk.mk l ([]) 0 false).cs)],[]):=by
 exact rt (ep (j6 (f:=eS) (g:=fun(x:ByteArray)=>st x) (fun _=>rfl) d.ax)<|ep (j7 (eS) (l:=d.ax) h1)<|ep (bz (eS) (l:=d.ax) (n:=1073741824) (show d.ax.length<=1073741824 from by omega))<|eg (G.uX (List.map (fun(x:ByteArray)=>V.c (st x)) d.ax))<|eg (G.loop (dJ.exit 0) (JR d ks l i))<|ep (hL k)<|ep (gH (fun(x:ByteArray)=>st x) (l) h3)<|eg (G.uY (List.map (fun(x:ByteArray)=>[st x]) l))<|e0) rfl
theorem ZY(d:Dk)(ks:List Bool)(rT:JS d)(hc:d.ar.length<=1000000)(h1:0<d.ax.length)(h2:d.ax.length<=1000000)(k:Nat):EO (k+2) 81 [.agg d.cs, .c (.slice 1 (ks.map eB))] []=some ([.agg (ce d ks).cs],[]):=by
 have dK:(List.map eS d.ax).length=((d.ar.zip ks).foldl wV d.ax).length:=by rw[jq,Q7]
 by_cases hq:d.ar.length<=ks.length
 ·refine W4 d ks _ (d.ar.zip ks).length h1 h2 dK (fun k=>Lrv d ks rT hc (fun l=>JR d ks l (d.ar.zip ks).length) k (fun l _=>ah6 d ks l _ k (fN ?_))) k
  rw[uS];omega
 ·refine W2 d ks _ (d.ar.zip ks).length h1 h2 dK (fun k=>Lrv d ks rT hc (fun l=>JQ d ks l (d.ar.zip ks).length) k (fun l _=>ah5 d ks l _ k (cJ ?_) (fN ?_))) k
  ·rw[uS];omega
  ·rw[uS];omega
theorem W5(l:Lk)(to:Int)(x:ByteArray)(h0:l.lI.length+1<=1000000)(h1:l.lJ.length+1<=1000000)(k:Nat):EO (k+1) 84 [.agg l.cs, .c (ii to), .c (.slice 1 [[st x]])] []=some ([.agg (dQ l to [x]).1.cs, .c (ii (dQ l to [x]).2)],[]):=ZO l to [x] h0 h1 k
theorem al9(c:Cl)(cG:List Ou)(dK:cG.length<=1000)(ho0:(aF c.n0).2.length<=10)(ho1:(aF c.n1).2.length<=10)(hC:∀k,EO (k+10) 67 [A.agg c.ai.cs] []=some ([au.agg ((cO c.ai).cs)],[]))(hA:∀k,EO (k+10) 68 [A.agg c.n0.cs] []=some ([au.agg ((aF c.n0).1.cs),rO (aF c.n0).2],[]))(hB:∀k,EO (k+10) 68 [A.agg c.n1.cs] []=some ([au.agg ((aF c.n1).1.cs),rO (aF c.n1).2],[]))(k:Nat):EO (k+11) 36 [A.agg c.cs,A.top 5 (List.map Ou.cs cG)] []=some ([au.agg ((f9 c).1.cs),rO (cG++(f9 c).2)],[]):=by
 rcases be c.n0.up with z0|z0
 ·rcases be ((aF c.n0).1.up) with z1|z1
  ·rcases be c.n1.up with z2|z2
   ·rcases be ((aF c.n1).1.up) with z3|z3
    ·exact rt (ec (hC k)<|eg (G.un)<|et<|cP<|en z0<|cP<|ec (hA k)<|ep (dH (Ou.cs) (cG) (aF c.n0).2)<|ep (bz (Ou.cs) (l:=cG++(aF c.n0).2) (n:=1073741824) (by simp only[vr];omega))<|ep (eN ((List.map Ou.cs cG).length))<|eg (G.app (List.map Ou.cs (cG++(aF c.n0).2)))<|cP<|en z1<|et<|cQ<|en z2<|cQ<|ec (hB k)<|ep (dH (Ou.cs) (cG++(aF c.n0).2) (aF c.n1).2)<|ep (bz (Ou.cs) (l:=cG++(aF c.n0).2++(aF c.n1).2) (n:=1073741824) (by simp only[vr];omega))<|ep (eN ((List.map Ou.cs (cG++(aF c.n0).2)).length))<|eg (G.app (List.map Ou.cs (cG++(aF c.n0).2++(aF c.n1).2)))<|cQ<|en z3<|ef<|jg ((List.map Ou.cs (cG++(aF c.n0).2++(aF c.n1).2)).length)<|e0) (rs:=[au.agg ((Cl.mk (aF c.n0).1 (aF c.n1).1 (cO c.ai) c.w0 c.w1).cs),rO (cG++(aF c.n0).2++(aF c.n1).2)]) (by simp only[f9,eD,cO,fA,gp,dS,kF,z0,z1,z2,z3,vq]<;>rfl)
    ·exact rt (ec (hC k)<|eg (G.un)<|et<|cP<|en z0<|cP<|ec (hA k)<|ep (dH (Ou.cs) (cG) (aF c.n0).2)<|ep (bz (Ou.cs) (l:=cG++(aF c.n0).2) (n:=1073741824) (by simp only[vr];omega))<|ep (eN ((List.map Ou.cs cG).length))<|eg (G.app (List.map Ou.cs (cG++(aF c.n0).2)))<|cP<|en z1<|et<|cQ<|en z2<|cQ<|ec (hB k)<|ep (dH (Ou.cs) (cG++(aF c.n0).2) (aF c.n1).2)<|ep (bz (Ou.cs) (l:=cG++(aF c.n0).2++(aF c.n1).2) (n:=1073741824) (by simp only[vr];omega))<|ep (eN ((List.map Ou.cs (cG++(aF c.n0).2)).length))<|eg (G.app (List.map Ou.cs (cG++(aF c.n0).2++(aF c.n1).2)))<|cQ<|en z3<|cQ<|ef<|jg ((List.map Ou.cs (cG++(aF c.n0).2++(aF c.n1).2)).length)<|e0) (rs:=[au.agg ((Cl.mk (aF c.n0).1 (aF c.n1).1 (cO c.ai) c.w0 false).cs),rO (cG++(aF c.n0).2++(aF c.n1).2)]) (by simp only[f9,eD,cO,fA,gp,dS,kF,z0,z1,z2,z3,vq]<;>rfl)
   ·exact rt (ec (hC k)<|eg (G.un)<|et<|cP<|en z0<|cP<|ec (hA k)<|ep (dH (Ou.cs) (cG) (aF c.n0).2)<|ep (bz (Ou.cs) (l:=cG++(aF c.n0).2) (n:=1073741824) (by simp only[vr];omega))<|ep (eN ((List.map Ou.cs cG).length))<|eg (G.app (List.map Ou.cs (cG++(aF c.n0).2)))<|cP<|en z1<|et<|cQ<|en z2<|ef<|jg ((List.map Ou.cs (cG++(aF c.n0).2)).length)<|e0) (rs:=[au.agg (({c with n0:=(aF c.n0).1,ai:=cO c.ai}:Cl).cs),rO (cG++(aF c.n0).2)]) (by simp only[f9,eD,cO,fA,gp,dS,kF,z0,z1,z2,vq]<;>rfl)
  ·rcases be c.n1.up with z2|z2
   ·rcases be ((aF c.n1).1.up) with z3|z3
    ·exact rt (ec (hC k)<|eg (G.un)<|et<|cP<|en z0<|cP<|ec (hA k)<|ep (dH (Ou.cs) (cG) (aF c.n0).2)<|ep (bz (Ou.cs) (l:=cG++(aF c.n0).2) (n:=1073741824) (by simp only[vr];omega))<|ep (eN ((List.map Ou.cs cG).length))<|eg (G.app (List.map Ou.cs (cG++(aF c.n0).2)))<|cP<|en z1<|cP<|et<|cQ<|en z2<|cQ<|ec (hB k)<|ep (dH (Ou.cs) (cG++(aF c.n0).2) (aF c.n1).2)<|ep (bz (Ou.cs) (l:=cG++(aF c.n0).2++(aF c.n1).2) (n:=1073741824) (by simp only[vr];omega))<|ep (eN ((List.map Ou.cs (cG++(aF c.n0).2)).length))<|eg (G.app (List.map Ou.cs (cG++(aF c.n0).2++(aF c.n1).2)))<|cQ<|en z3<|ef<|jg ((List.map Ou.cs (cG++(aF c.n0).2++(aF c.n1).2)).length)<|e0) (rs:=[au.agg ((Cl.mk (aF c.n0).1 (aF c.n1).1 (cO c.ai) false c.w1).cs),rO (cG++(aF c.n0).2++(aF c.n1).2)]) (by simp only[f9,eD,cO,fA,gp,dS,kF,z0,z1,z2,z3,vq]<;>rfl)
    ·exact rt (ec (hC k)<|eg (G.un)<|et<|cP<|en z0<|cP<|ec (hA k)<|ep (dH (Ou.cs) (cG) (aF c.n0).2)<|ep (bz (Ou.cs) (l:=cG++(aF c.n0).2) (n:=1073741824) (by simp only[vr];omega))<|ep (eN ((List.map Ou.cs cG).length))<|eg (G.app (List.map Ou.cs (cG++(aF c.n0).2)))<|cP<|en z1<|cP<|et<|cQ<|en z2<|cQ<|ec (hB k)<|ep (dH (Ou.cs) (cG++(aF c.n0).2) (aF c.n1).2)<|ep (bz (Ou.cs) (l:=cG++(aF c.n0).2++(aF c.n1).2) (n:=1073741824) (by simp only[vr];omega))<|ep (eN ((List.map Ou.cs (cG++(aF c.n0).2)).length))<|eg (G.app (List.map Ou.cs (cG++(aF c.n0).2++(aF c.n1).2)))<|cQ<|en z3<|cQ<|ef<|jg ((List.map Ou.cs (cG++(aF c.n0).2++(aF c.n1).2)).length)<|e0) (rs:=[au.agg ((Cl.mk (aF c.n0).1 (aF c.n1).1 (cO c.ai) false false).cs),rO (cG++(aF c.n0).2++(aF c.n1).2)]) (by simp only[f9,eD,cO,fA,gp,dS,kF,z0,z1,z2,z3,vq]<;>rfl)
   ·exact rt (ec (hC k)<|eg (G.un)<|et<|cP<|en z0<|cP<|ec (hA k)<|ep (dH (Ou.cs) (cG) (aF c.n0).2)<|ep (bz (Ou.cs) (l:=cG++(aF c.n0).2) (n:=1073741824) (by simp only[vr];omega))<|ep (eN ((List.map Ou.cs cG).length))<|eg (G.app (List.map Ou.cs (cG++(aF c.n0).2)))<|cP<|en z1<|cP<|et<|cQ<|en z2<|ef<|jg ((List.map Ou.cs (cG++(aF c.n0).2)).length)<|e0) (rs:=[au.agg ((Cl.mk (aF c.n0).1 c.n1 (cO c.ai) false c.w1).cs),rO (cG++(aF c.n0).2)]) (by simp only[f9,eD,cO,fA,gp,dS,kF,z0,z1,z2,vq]<;>rfl)
 ·rcases be c.n1.up with z1|z1
  ·rcases be ((aF c.n1).1.up) with z2|z2
   ·exact rt (ec (hC k)<|eg (G.un)<|et<|cP<|en z0<|et<|cQ<|en z1<|cQ<|ec (hB k)<|ep (dH (Ou.cs) (cG) (aF c.n1).2)<|ep (bz (Ou.cs) (l:=cG++(aF c.n1).2) (n:=1073741824) (by simp only[vr];omega))<|ep (eN ((List.map Ou.cs cG).length))<|eg (G.app (List.map Ou.cs (cG++(aF c.n1).2)))<|cQ<|en z2<|ef<|jg ((List.map Ou.cs (cG++(aF c.n1).2)).length)<|e0) (rs:=[au.agg (({c with n1:=(aF c.n1).1,ai:=cO c.ai}:Cl).cs),rO (cG++(aF c.n1).2)]) (by simp only[f9,eD,cO,fA,gp,dS,kF,z0,z1,z2,vq]<;>rfl)
   ·exact rt (ec (hC k)<|eg (G.un)<|et<|cP<|en z0<|et<|cQ<|en z1<|cQ<|ec (hB k)<|ep (dH (Ou.cs) (cG) (aF c.n1).2)<|ep (bz (Ou.cs) (l:=cG++(aF c.n1).2) (n:=1073741824) (by simp only[vr];omega))<|ep (eN ((List.map Ou.cs cG).length))<|eg (G.app (List.map Ou.cs (cG++(aF c.n1).2)))<|cQ<|en z2<|cQ<|ef<|jg ((List.map Ou.cs (cG++(aF c.n1).2)).length)<|e0) (rs:=[au.agg ((Cl.mk c.n0 (aF c.n1).1 (cO c.ai) c.w0 false).cs),rO (cG++(aF c.n1).2)]) (by simp only[f9,eD,cO,fA,gp,dS,kF,z0,z1,z2,vq]<;>rfl)
  ·exact rt (ec (hC k)<|eg (G.un)<|et<|cP<|en z0<|et<|cQ<|en z1<|ef<|jg ((List.map Ou.cs cG).length)<|e0) (rs:=[au.agg (({c with ai:=cO c.ai}:Cl).cs),rO cG]) (by simp only[f9,eD,cO,fA,gp,dS,kF,z0,z1,vq]<;>rfl)
theorem HM(c:Cl)(cG:List Ou)(dK:cG.length<=1000)(Ee:c.n0.aQ.length<=1000000)(WZ:c.n0.bh.length<=1000000)(Q6:c.n0.store.ao.ax.length<=1000000)(Kc:c.n0.store.ao.ar.length<=880)(sr:c.n1.aQ.length<=1000000)(W0:c.n1.bh.length<=1000000)(xK:c.n1.store.ao.ax.length<=1000000)(ZX:c.n1.store.ao.ar.length<=880)(k:Nat):EO (k+11) 36 [.agg c.cs, .top 5 (cG.map Ou.cs)] []=some ([.agg (f9 c).1.cs, .top 5 ((cG++(f9 c).2).map Ou.cs)],[]):=
 al9 c cG dK (wU _) (wU _) (fun k=>My c.ai (k+9)) (fun k=>JP c.n0 Ee WZ Q6 (by omega) k) (fun k=>JP c.n1 sr W0 xK (by omega) k) k
def S_(n:Nd)(l:List Ou)(c0:List (List C))(c1:Bool)(c2:Int)(c3:Cl):St:=St.mk (T.bf::tc (ii 0)::T.bf::tc (sO l)::T.k (K.v (V.fX 0 0))::T.bf::T.k (K.v (V.fX 1 0))::T.bf::T.k (K.v (V.fX 2 0))::T.bf::T.k (K.v (V.cX 5 c0 (Tk.tok 0)))::tc (bo c1)::tc (ii c2)::hs 78 []) [List.map V.c c3.cs,(List.map V.c n.cs),[V.c (ii 0),vF,vE,V.cX 2 [] Tk.exact,V.c (ii 0),vF,V.c (ii 0),V.c (u 0),V.c (u 0),V.c (u 0),V.c (u 0),vF,vF,vF,V.c (w4 0),vF,V.c (ii 0),V.c (u 0),V.c (ii 0),V.c (u 0),V.c (u 0),V.c (u 0),V.c (u 0),vF,vF,vF,vF,V.c (w4 0),vF,vF,V.c (ii 0),V.c (ii 0),V.c (st ⟨#[]⟩),vF,V.c (ii 0),V.c (ii 0),vF,vE,V.cX 3 [] Tk.exact,V.c (ii 0),vF,vE,V.cX 2 [] Tk.exact,V.c (ii 0),vF,V.c (ii 0),V.c (u 0),V.c (u 0),V.c (u 0),V.c (u 0),vF,vF,vF,V.c (w4 0),vF,V.c (ii 0),V.c (u 0),V.c (ii 0),V.c (u 0),V.c (u 0),V.c (u 0),V.c (u 0),vF,vF,vF,vF,V.c (w4 0),vF,vF,V.c (ii 0),V.c (ii 0),V.c (st ⟨#[]⟩),vF,V.c (ii 0),V.c (ii 0),vF,vE,V.cX 3 [] Tk.exact,vF,V.c (u 0),vE,vE,vF,vF]] [c0.length]
theorem ah7(n:Nd)(l:List Ou)(cG:List Ou)(q:Bool)(i:Nat)(c:Cl)(x:Ou)(hx:l[i]?=some x)(h0:c.ai.lI.length+1<=1000000)(h1:c.ai.lJ.length+1<=1000000)(k:Nat)(z0:(gL i l.length)=true)(z1:(x.ae==1)=true)(z2:c.ai.up=true):bQ (EE (k+11)) (HH 44) NN (LB PP 44 5) 3 1 (S_ n l (List.map Ou.cs cG) q (↑i:Int) c) (S_ n l (List.map Ou.cs cG) q (wrap .i64 ((↑i:Int)+1)) ({c with ai:=(dQ c.ai 1 [x.data]).1}:Cl)):=
 nx (ep (aG (Ou.cs) (l))<|eg (G.len l.length)<|eb z0<|ep (rz i)<|ep (aT (f:=Ou.cs) hx)<|eg (G.fF i [ii x.ae,ii x.node,ii x.id,ii x.j2,st x.data])<|eb z1<|eb z2<|ep (rz i)<|ep (aT (f:=Ou.cs) hx)<|eg (G.fF i [ii x.ae,ii x.node,ii x.id,ii x.j2,st x.data])<|ec (W5 c.ai 1 x.data h0 h1 (k+10))<|e0)
theorem ah8(n:Nd)(l:List Ou)(cG:List Ou)(q:Bool)(i:Nat)(c:Cl)(x:Ou)(hx:l[i]?=some x)(k:Nat)(z0:(gL i l.length)=true)(z1:(x.ae==1)=true)(z2:c.ai.up=false):bQ (EE (k+11)) (HH 44) NN (LB PP 44 5) 3 1 (S_ n l (List.map Ou.cs cG) q (↑i:Int) c) (S_ n l (List.map Ou.cs cG) q (wrap .i64 ((↑i:Int)+1)) c):=
 nx (ep (aG (Ou.cs) (l))<|eg (G.len l.length)<|eb z0<|ep (rz i)<|ep (aT (f:=Ou.cs) hx)<|eg (G.fF i [ii x.ae,ii x.node,ii x.id,ii x.j2,st x.data])<|eb z1<|eb z2<|e0)
theorem ah9(n:Nd)(l:List Ou)(cG:List Ou)(q:Bool)(i:Nat)(c:Cl)(x:Ou)(hx:l[i]?=some x)(h0:c.ai.lI.length+1<=1000000)(h1:c.ai.lJ.length+1<=1000000)(ho:cG.length<=1000000)(k:Nat)(z0:(gL i l.length)=true)(z1:(x.ae==1)=false)(z2:(q)=true):bQ (EE (k+11)) (HH 44) NN (LB PP 44 5) 3 1 (S_ n l (List.map Ou.cs cG) q (↑i:Int) c) (S_ n l (List.map Ou.cs (cG++[x])) true (wrap .i64 ((↑i:Int)+1)) c):=
 nx (ep (aG (Ou.cs) (l))<|eg (G.len l.length)<|eb z0<|ep (rz i)<|ep (aT (f:=Ou.cs) hx)<|eg (G.fF i [ii x.ae,ii x.node,ii x.id,ii x.j2,st x.data])<|eb z1<|hO z2<|eb z2<|ep (rz i)<|ep (aT (f:=Ou.cs) hx)<|eg (G.fF i [ii x.ae,ii x.node,ii x.id,ii x.j2,st x.data])<|ep (dH (Ou.cs) (cG) ([x]))<|ep (bz (Ou.cs) (l:=cG++[x]) (n:=1073741824) (by simp only[vr];omega))<|ep (eN ((List.map Ou.cs cG).length))<|eg (G.app (List.map Ou.cs (cG++[x])))<|e0)
theorem aia(n:Nd)(l:List Ou)(cG:List Ou)(q:Bool)(i:Nat)(c:Cl)(x:Ou)(hx:l[i]?=some x)(h0:c.ai.lI.length+1<=1000000)(h1:c.ai.lJ.length+1<=1000000)(ho:cG.length<=1000000)(k:Nat)(z0:(gL i l.length)=true)(z1:(x.ae==1)=false)(z2:(q)=false):bQ (EE (k+11)) (HH 44) NN (LB PP 44 5) 3 1 (S_ n l (List.map Ou.cs cG) q (↑i:Int) c) (S_ n l (List.map Ou.cs (cG++[x])) (x.ae==3) (wrap .i64 ((↑i:Int)+1)) c):=
 nx (ep (aG (Ou.cs) (l))<|eg (G.len l.length)<|eb z0<|ep (rz i)<|ep (aT (f:=Ou.cs) hx)<|eg (G.fF i [ii x.ae,ii x.node,ii x.id,ii x.j2,st x.data])<|eb z1<|dO z2<|ep (rz i)<|ep (aT (f:=Ou.cs) hx)<|eg (G.fF i [ii x.ae,ii x.node,ii x.id,ii x.j2,st x.data])<|eo z2<|ep (rz i)<|ep (aT (f:=Ou.cs) hx)<|eg (G.fF i [ii x.ae,ii x.node,ii x.id,ii x.j2,st x.data])<|ep (dH (Ou.cs) (cG) ([x]))<|ep (bz (Ou.cs) (l:=cG++[x]) (n:=1073741824) (by simp only[vr];omega))<|ep (eN ((List.map Ou.cs cG).length))<|eg (G.app (List.map Ou.cs (cG++[x])))<|e0)
def sg(n:Nd)(l:List Ou)(cG:List Ou)(q:Bool)(i:Nat)(c:Cl):St:=St.mk (T.bf::tc (ii 0)::T.bf::tc (sO l)::T.k (K.v (V.fX 0 0))::T.bf::T.k (K.v (V.fX 1 0))::T.bf::T.k (K.v (V.fX 2 0))::T.bf::T.k (K.v (V.cX 5 (List.map Ou.cs cG) (Tk.tok 0)))::tc (bo q)::tc (ii (↑i:Int))::hs 4 (tc (ii (↑i:Int))::tc (sO l)::tc (ii (↑(l.length):Int))::tc (bo (gL i l.length))::hs 70 [])) [List.map V.c c.cs,(List.map V.c n.cs),[V.c (ii 0),vF,vE,V.cX 2 [] Tk.exact,V.c (ii 0),vF,V.c (ii 0),V.c (u 0),V.c (u 0),V.c (u 0),V.c (u 0),vF,vF,vF,V.c (w4 0),vF,V.c (ii 0),V.c (u 0),V.c (ii 0),V.c (u 0),V.c (u 0),V.c (u 0),V.c (u 0),vF,vF,vF,vF,V.c (w4 0),vF,vF,V.c (ii 0),V.c (ii 0),V.c (st ⟨#[]⟩),vF,V.c (ii 0),V.c (ii 0),vF,vE,V.cX 3 [] Tk.exact,V.c (ii 0),vF,vE,V.cX 2 [] Tk.exact,V.c (ii 0),vF,V.c (ii 0),V.c (u 0),V.c (u 0),V.c (u 0),V.c (u 0),vF,vF,vF,V.c (w4 0),vF,V.c (ii 0),V.c (u 0),V.c (ii 0),V.c (u 0),V.c (u 0),V.c (u 0),V.c (u 0),vF,vF,vF,vF,V.c (w4 0),vF,vF,V.c (ii 0),V.c (ii 0),V.c (st ⟨#[]⟩),vF,V.c (ii 0),V.c (ii 0),vF,vE,V.cX 3 [] Tk.exact,vF,V.c (u 0),vE,vE,vF,vF]] [(List.map Ou.cs cG).length]
theorem aib(n:Nd)(l:List Ou)(cG:List Ou)(q:Bool)(i:Nat)(c:Cl)(k:Nat)(z0:(gL i l.length)=false):dq (EE (k+11)) (HH 44) NN (LB PP 44 5) (S_ n l (List.map Ou.cs cG) q (↑i:Int) c) (dJ.exit 0) (sg n l cG q i c):=
 ou (ep (aG (Ou.cs) (l))<|eg (G.len l.length)<|eb z0<|e0)
theorem La0(c:Cl)(n:Nd)(l:List Ou)(hl:l.length<=1000)(h0:c.ai.lI.length<=900000)(h1:c.ai.lJ.length<=900000)(k:Nat):bT (EE (k+11)) (HH 44) NN (LB PP 44 5) (S_ n l [] false 0 (bB c 0 n)) (.exit 0) (sg n l (a_ l) (d6 l) l.length {bB c 0 n with ai:=cw 0 c.ai l}):=by
 have key:=ke (E:=EE (k+11)) (H:=HH 44) (n:=NN) (b:=LB PP 44 5) (s0:=S_ n l [] false 0 (bB c 0 n)) (fun(s:Cl×List Ou×Bool) (i:Nat)=>S_ n l (s.2.1.map Ou.cs) s.2.2 (i:Nat) s.1) (fun i s=>s.2.1.length<=i/\s.1.ai.lI.length<=c.ai.lI.length+i/\s.1.ai.lJ.length<=c.ai.lJ.length+i) l (zC 1) (bB c 0 n,[],false) (nv:=3) (nt:=1) (e:= .exit 0) (t:=fun s=>sg n l s.2.1 s.2.2 l.length s.1) rfl (by kernel_rfl) (by kernel_rfl) ⟨aL _,by rw[l7];exact aL _,by rw[l7];exact aL _⟩ (fun s i x hx hp=> ?_) (fun hp=>aib n l _ _ _ _ k Gf) (by unfold NN;omega)
 ·rw[Le 0 1 (by decide),l7] at key
  simpa only[jf,rM] using key
 ·obtain⟨c1,cG,q⟩:=s
  obtain⟨p1,p2,p3⟩:=hp
  simp only at p1 p2 p3
  have fO:=gJ hx
  have hw:=p6 hx (by omega)
  cases hk:x.ae==1 with
  |true=>
   cases hu:c1.ai.up with
   |true=>
    rw[x_ 1 c1 cG q x hk hu]
    refine⟨?_,by simp only;omega,?_,?_⟩
    ·have:=ah7 n l cG q i c1 x hx (by omega) (by omega) k (sM hx) hk hu
     rwa[hw] at this
    ·have:=(wC c1.ai 1 [x.data]).1
     simp only[cV,eO] at this
     simp only;omega
    ·have:=(wC c1.ai 1 [x.data]).2
     simp only[cV,eO] at this
     simp only;omega
   |false=>
    rw[yb 1 c1 cG q x hk hu]
    refine⟨?_,by simp only;omega,by simp only;omega,by simp only;omega⟩
    have:=ah8 n l cG q i c1 x hx k (sM hx) hk hu
    rwa[hw] at this
  |false=>
   rw[yc 1 c1 cG q x hk]
   refine⟨?_,by simp only[iq,cV,eO];omega,by simp only;omega,by simp only;omega⟩
   cases q with
   |true=>
    have:=ah9 n l cG true i c1 x hx (by omega) (by omega) (by omega) k (sM hx) hk rfl
    rwa[hw] at this
   |false=>
    have:=aia n l cG false i c1 x hx (by omega) (by omega) (by omega) k (sM hx) hk rfl
    rw[hw] at this
    simpa only[rM] using this
theorem ZZ(c:Cl)(n:Nd)(l:List Ou)(c3:Cl)(cG:List Ou)(q:Bool)(ho:cG.length<=1000)(Ee:c3.n0.aQ.length<=1000000)(WZ:c3.n0.bh.length<=1000000)(Q6:c3.n0.store.ao.ax.length<=1000000)(Kc:c3.n0.store.ao.ar.length<=880)(sr:c3.n1.aQ.length<=1000000)(W0:c3.n1.bh.length<=1000000)(xK:c3.n1.store.ao.ax.length<=1000000)(ZX:c3.n1.store.ao.ar.length<=880)(hL:∀k,bT (EE (k+11)) (HH 44) NN (LB PP 44 5) (S_ n l [] false 0 (bB c 0 n)) (dJ.exit 0) (sg n l cG q l.length c3))(k:Nat):EO (k+12) 44 [A.agg c.cs,A.c (ii 0),A.agg n.cs,A.c (sO l)] []=some ([au.agg ((lf 0 c3 n cG q).1.cs),rO (lf 0 c3 n cG q).2],[]):=by
 rcases be n.up with z0|z0
 ·rcases be c3.ai.up with z1|z1
  ·rcases be (q) with z2|z2
   ·exact rt (cP<|eg (G.loop (dJ.exit 0) (sg n l cG q l.length c3))<|ep (hL k)<|en z0<|ez z1<|ci z0<|en z1<|eb z0<|en z1<|en z2<|eb z2<|jg ((List.map Ou.cs cG).length)<|ec (HM (({c3 with w0:=false,w1:=false}:Cl)) cG ho Ee WZ Q6 Kc sr W0 xK ZX k)<|jg ((List.map Ou.cs (cG++(f9 ({c3 with w0:=false,w1:=false}:Cl)).2)).length)<|e0) (by simp only[lf,bq,z0,z1,z2,vq]<;>rfl)
   ·exact rt (cP<|eg (G.loop (dJ.exit 0) (sg n l cG q l.length c3))<|ep (hL k)<|en z0<|ez z1<|ci z0<|en z1<|eb z0<|en z1<|en z2<|jg ((List.map Ou.cs cG).length)<|e0) (by simp only[lf,bq,z0,z1,z2,vq]<;>rfl)
  ·exact rt (cP<|eg (G.loop (dJ.exit 0) (sg n l cG q l.length c3))<|ep (hL k)<|en z0<|CD z1<|et<|jg ((List.map Ou.cs cG).length)<|e0) (by simp only[lf,bq,z0,z1,vq]<;>rfl)
 ·rcases be c3.ai.up with z1|z1
  ·rcases be (q) with z2|z2
   ·exact rt (cP<|eg (G.loop (dJ.exit 0) (sg n l cG q l.length c3))<|ep (hL k)<|en z0<|cP<|ez z1<|ci z0<|en z1<|eb z0<|en z1<|ef<|eb z2<|jg ((List.map Ou.cs cG).length)<|ec (HM (({c3 with w0:=false,w1:=false}:Cl)) cG ho Ee WZ Q6 Kc sr W0 xK ZX k)<|jg ((List.map Ou.cs (cG++(f9 ({c3 with w0:=false,w1:=false}:Cl)).2)).length)<|e0) (by simp only[lf,bq,z0,z1,z2,vq]<;>rfl)
   ·exact rt (cP<|eg (G.loop (dJ.exit 0) (sg n l cG q l.length c3))<|ep (hL k)<|en z0<|cP<|ez z1<|ci z0<|en z1<|eb z0<|en z1<|ef<|eb z2<|jg ((List.map Ou.cs cG).length)<|ec (HM (({c3 with w0:=false}:Cl)) cG ho Ee WZ Q6 Kc sr W0 xK ZX k)<|jg ((List.map Ou.cs (cG++(f9 ({c3 with w0:=false}:Cl)).2)).length)<|e0) (by simp only[lf,bq,z0,z1,z2,vq]<;>rfl)
  ·exact rt (cP<|eg (G.loop (dJ.exit 0) (sg n l cG q l.length c3))<|ep (hL k)<|en z0<|cP<|CD z1<|et<|jg ((List.map Ou.cs cG).length)<|e0) (by simp only[lf,bq,z0,z1,vq]<;>rfl)
def S'(n:Nd)(l:List Ou)(c0:List (List C))(c1:Bool)(c2:Int)(c3:Cl):St:=St.mk (T.bf::tc (ii 1)::T.bf::tc (sO l)::T.k (K.v (V.fX 0 0))::T.bf::T.k (K.v (V.fX 1 0))::T.bf::T.k (K.v (V.fX 2 0))::T.bf::T.k (K.v (V.cX 5 c0 (Tk.tok 0)))::tc (bo c1)::tc (ii c2)::hs 78 []) [List.map V.c c3.cs,(List.map V.c n.cs),[V.c (ii 0),vF,vE,V.cX 2 [] Tk.exact,V.c (ii 0),vF,V.c (ii 0),V.c (u 0),V.c (u 0),V.c (u 0),V.c (u 0),vF,vF,vF,V.c (w4 0),vF,V.c (ii 0),V.c (u 0),V.c (ii 0),V.c (u 0),V.c (u 0),V.c (u 0),V.c (u 0),vF,vF,vF,vF,V.c (w4 0),vF,vF,V.c (ii 0),V.c (ii 0),V.c (st ⟨#[]⟩),vF,V.c (ii 0),V.c (ii 0),vF,vE,V.cX 3 [] Tk.exact,V.c (ii 0),vF,vE,V.cX 2 [] Tk.exact,V.c (ii 0),vF,V.c (ii 0),V.c (u 0),V.c (u 0),V.c (u 0),V.c (u 0),vF,vF,vF,V.c (w4 0),vF,V.c (ii 0),V.c (u 0),V.c (ii 0),V.c (u 0),V.c (u 0),V.c (u 0),V.c (u 0),vF,vF,vF,vF,V.c (w4 0),vF,vF,V.c (ii 0),V.c (ii 0),V.c (st ⟨#[]⟩),vF,V.c (ii 0),V.c (ii 0),vF,vE,V.cX 3 [] Tk.exact,vF,V.c (u 0),vE,vE,vF,vF]] [c0.length]
theorem aic(n:Nd)(l:List Ou)(cG:List Ou)(q:Bool)(i:Nat)(c:Cl)(x:Ou)(hx:l[i]?=some x)(h0:c.ai.lI.length+1<=1000000)(h1:c.ai.lJ.length+1<=1000000)(k:Nat)(z0:(gL i l.length)=true)(z1:(x.ae==1)=true)(z2:c.ai.up=true):bQ (EE (k+11)) (HH 44) NN (LB PP 44 5) 3 1 (S' n l (List.map Ou.cs cG) q (↑i:Int) c) (S' n l (List.map Ou.cs cG) q (wrap .i64 ((↑i:Int)+1)) ({c with ai:=(dQ c.ai 0 [x.data]).1}:Cl)):=
 nx (ep (aG (Ou.cs) (l))<|eg (G.len l.length)<|eb z0<|ep (rz i)<|ep (aT (f:=Ou.cs) hx)<|eg (G.fF i [ii x.ae,ii x.node,ii x.id,ii x.j2,st x.data])<|eb z1<|eb z2<|ep (rz i)<|ep (aT (f:=Ou.cs) hx)<|eg (G.fF i [ii x.ae,ii x.node,ii x.id,ii x.j2,st x.data])<|ec (W5 c.ai 0 x.data h0 h1 (k+10))<|e0)
theorem aid(n:Nd)(l:List Ou)(cG:List Ou)(q:Bool)(i:Nat)(c:Cl)(x:Ou)(hx:l[i]?=some x)(k:Nat)(z0:(gL i l.length)=true)(z1:(x.ae==1)=true)(z2:c.ai.up=false):bQ (EE (k+11)) (HH 44) NN (LB PP 44 5) 3 1 (S' n l (List.map Ou.cs cG) q (↑i:Int) c) (S' n l (List.map Ou.cs cG) q (wrap .i64 ((↑i:Int)+1)) c):=
 nx (ep (aG (Ou.cs) (l))<|eg (G.len l.length)<|eb z0<|ep (rz i)<|ep (aT (f:=Ou.cs) hx)<|eg (G.fF i [ii x.ae,ii x.node,ii x.id,ii x.j2,st x.data])<|eb z1<|eb z2<|e0)
theorem aie(n:Nd)(l:List Ou)(cG:List Ou)(q:Bool)(i:Nat)(c:Cl)(x:Ou)(hx:l[i]?=some x)(h0:c.ai.lI.length+1<=1000000)(h1:c.ai.lJ.length+1<=1000000)(ho:cG.length<=1000000)(k:Nat)(z0:(gL i l.length)=true)(z1:(x.ae==1)=false)(z2:(q)=true):bQ (EE (k+11)) (HH 44) NN (LB PP 44 5) 3 1 (S' n l (List.map Ou.cs cG) q (↑i:Int) c) (S' n l (List.map Ou.cs (cG++[x])) true (wrap .i64 ((↑i:Int)+1)) c):=
 nx (ep (aG (Ou.cs) (l))<|eg (G.len l.length)<|eb z0<|ep (rz i)<|ep (aT (f:=Ou.cs) hx)<|eg (G.fF i [ii x.ae,ii x.node,ii x.id,ii x.j2,st x.data])<|eb z1<|hO z2<|eb z2<|ep (rz i)<|ep (aT (f:=Ou.cs) hx)<|eg (G.fF i [ii x.ae,ii x.node,ii x.id,ii x.j2,st x.data])<|ep (dH (Ou.cs) (cG) ([x]))<|ep (bz (Ou.cs) (l:=cG++[x]) (n:=1073741824) (by simp only[vr];omega))<|ep (eN ((List.map Ou.cs cG).length))<|eg (G.app (List.map Ou.cs (cG++[x])))<|e0)
theorem aif(n:Nd)(l:List Ou)(cG:List Ou)(q:Bool)(i:Nat)(c:Cl)(x:Ou)(hx:l[i]?=some x)(h0:c.ai.lI.length+1<=1000000)(h1:c.ai.lJ.length+1<=1000000)(ho:cG.length<=1000000)(k:Nat)(z0:(gL i l.length)=true)(z1:(x.ae==1)=false)(z2:(q)=false):bQ (EE (k+11)) (HH 44) NN (LB PP 44 5) 3 1 (S' n l (List.map Ou.cs cG) q (↑i:Int) c) (S' n l (List.map Ou.cs (cG++[x])) (x.ae==3) (wrap .i64 ((↑i:Int)+1)) c):=
 nx (ep (aG (Ou.cs) (l))<|eg (G.len l.length)<|eb z0<|ep (rz i)<|ep (aT (f:=Ou.cs) hx)<|eg (G.fF i [ii x.ae,ii x.node,ii x.id,ii x.j2,st x.data])<|eb z1<|dO z2<|ep (rz i)<|ep (aT (f:=Ou.cs) hx)<|eg (G.fF i [ii x.ae,ii x.node,ii x.id,ii x.j2,st x.data])<|eo z2<|ep (rz i)<|ep (aT (f:=Ou.cs) hx)<|eg (G.fF i [ii x.ae,ii x.node,ii x.id,ii x.j2,st x.data])<|ep (dH (Ou.cs) (cG) ([x]))<|ep (bz (Ou.cs) (l:=cG++[x]) (n:=1073741824) (by simp only[vr];omega))<|ep (eN ((List.map Ou.cs cG).length))<|eg (G.app (List.map Ou.cs (cG++[x])))<|e0)
def sj(n:Nd)(l:List Ou)(cG:List Ou)(q:Bool)(i:Nat)(c:Cl):St:=St.mk (T.bf::tc (ii 1)::T.bf::tc (sO l)::T.k (K.v (V.fX 0 0))::T.bf::T.k (K.v (V.fX 1 0))::T.bf::T.k (K.v (V.fX 2 0))::T.bf::T.k (K.v (V.cX 5 (List.map Ou.cs cG) (Tk.tok 0)))::tc (bo q)::tc (ii (↑i:Int))::hs 4 (tc (ii (↑i:Int))::tc (sO l)::tc (ii (↑(l.length):Int))::tc (bo (gL i l.length))::hs 70 [])) [List.map V.c c.cs,(List.map V.c n.cs),[V.c (ii 0),vF,vE,V.cX 2 [] Tk.exact,V.c (ii 0),vF,V.c (ii 0),V.c (u 0),V.c (u 0),V.c (u 0),V.c (u 0),vF,vF,vF,V.c (w4 0),vF,V.c (ii 0),V.c (u 0),V.c (ii 0),V.c (u 0),V.c (u 0),V.c (u 0),V.c (u 0),vF,vF,vF,vF,V.c (w4 0),vF,vF,V.c (ii 0),V.c (ii 0),V.c (st ⟨#[]⟩),vF,V.c (ii 0),V.c (ii 0),vF,vE,V.cX 3 [] Tk.exact,V.c (ii 0),vF,vE,V.cX 2 [] Tk.exact,V.c (ii 0),vF,V.c (ii 0),V.c (u 0),V.c (u 0),V.c (u 0),V.c (u 0),vF,vF,vF,V.c (w4 0),vF,V.c (ii 0),V.c (u 0),V.c (ii 0),V.c (u 0),V.c (u 0),V.c (u 0),V.c (u 0),vF,vF,vF,vF,V.c (w4 0),vF,vF,V.c (ii 0),V.c (ii 0),V.c (st ⟨#[]⟩),vF,V.c (ii 0),V.c (ii 0),vF,vE,V.cX 3 [] Tk.exact,vF,V.c (u 0),vE,vE,vF,vF]] [(List.map Ou.cs cG).length]
theorem aig(n:Nd)(l:List Ou)(cG:List Ou)(q:Bool)(i:Nat)(c:Cl)(k:Nat)(z0:(gL i l.length)=false):dq (EE (k+11)) (HH 44) NN (LB PP 44 5) (S' n l (List.map Ou.cs cG) q (↑i:Int) c) (dJ.exit 0) (sj n l cG q i c):=
 ou (ep (aG (Ou.cs) (l))<|eg (G.len l.length)<|eb z0<|e0)
theorem La1(c:Cl)(n:Nd)(l:List Ou)(hl:l.length<=1000)(h0:c.ai.lI.length<=900000)(h1:c.ai.lJ.length<=900000)(k:Nat):bT (EE (k+11)) (HH 44) NN (LB PP 44 5) (S' n l [] false 0 (bB c 1 n)) (.exit 0) (sj n l (a_ l) (d6 l) l.length {bB c 1 n with ai:=cw 1 c.ai l}):=by
 have key:=ke (E:=EE (k+11)) (H:=HH 44) (n:=NN) (b:=LB PP 44 5) (s0:=S' n l [] false 0 (bB c 1 n)) (fun(s:Cl×List Ou×Bool) (i:Nat)=>S' n l (s.2.1.map Ou.cs) s.2.2 (i:Nat) s.1) (fun i s=>s.2.1.length<=i/\s.1.ai.lI.length<=c.ai.lI.length+i/\s.1.ai.lJ.length<=c.ai.lJ.length+i) l (zC 0) (bB c 1 n,[],false) (nv:=3) (nt:=1) (e:= .exit 0) (t:=fun s=>sj n l s.2.1 s.2.2 l.length s.1) rfl (by kernel_rfl) (by kernel_rfl) ⟨aL _,by rw[l7];exact aL _,by rw[l7];exact aL _⟩ (fun s i x hx hp=> ?_) (fun hp=>aig n l _ _ _ _ k Gf) (by unfold NN;omega)
 ·rw[Le 1 0 (by decide),l7] at key
  simpa only[jf,rM] using key
 ·obtain⟨c1,cG,q⟩:=s
  obtain⟨p1,p2,p3⟩:=hp
  simp only at p1 p2 p3
  have fO:=gJ hx
  have hw:=p6 hx (by omega)
  cases hk:x.ae==1 with
  |true=>
   cases hu:c1.ai.up with
   |true=>
    rw[x_ 0 c1 cG q x hk hu]
    refine⟨?_,by simp only;omega,?_,?_⟩
    ·have:=aic n l cG q i c1 x hx (by omega) (by omega) k (sM hx) hk hu
     rwa[hw] at this
    ·have:=(wC c1.ai 0 [x.data]).1
     simp only[cV,eO] at this
     simp only;omega
    ·have:=(wC c1.ai 0 [x.data]).2
     simp only[cV,eO] at this
     simp only;omega
   |false=>
    rw[yb 0 c1 cG q x hk hu]
    refine⟨?_,by simp only;omega,by simp only;omega,by simp only;omega⟩
    have:=aid n l cG q i c1 x hx k (sM hx) hk hu
    rwa[hw] at this
  |false=>
   rw[yc 0 c1 cG q x hk]
   refine⟨?_,by simp only[iq,cV,eO];omega,by simp only;omega,by simp only;omega⟩
   cases q with
   |true=>
    have:=aie n l cG true i c1 x hx (by omega) (by omega) (by omega) k (sM hx) hk rfl
    rwa[hw] at this
   |false=>
    have:=aif n l cG false i c1 x hx (by omega) (by omega) (by omega) k (sM hx) hk rfl
    rw[hw] at this
    simpa only[rM] using this
theorem Z0(c:Cl)(n:Nd)(l:List Ou)(c3:Cl)(cG:List Ou)(q:Bool)(ho:cG.length<=1000)(Ee:c3.n0.aQ.length<=1000000)(WZ:c3.n0.bh.length<=1000000)(Q6:c3.n0.store.ao.ax.length<=1000000)(Kc:c3.n0.store.ao.ar.length<=880)(sr:c3.n1.aQ.length<=1000000)(W0:c3.n1.bh.length<=1000000)(xK:c3.n1.store.ao.ax.length<=1000000)(ZX:c3.n1.store.ao.ar.length<=880)(hL:∀k,bT (EE (k+11)) (HH 44) NN (LB PP 44 5) (S' n l [] false 0 (bB c 1 n)) (dJ.exit 0) (sj n l cG q l.length c3))(k:Nat):EO (k+12) 44 [A.agg c.cs,A.c (ii 1),A.agg n.cs,A.c (sO l)] []=some ([au.agg ((lf 1 c3 n cG q).1.cs),rO (lf 1 c3 n cG q).2],[]):=by
 rcases be n.up with z0|z0
 ·rcases be c3.ai.up with z1|z1
  ·rcases be (q) with z2|z2
   ·exact rt (cQ<|eg (G.loop (dJ.exit 0) (sj n l cG q l.length c3))<|ep (hL k)<|en z0<|ez z1<|ci z0<|en z1<|eb z0<|en z1<|en z2<|eb z2<|jg ((List.map Ou.cs cG).length)<|ec (HM (({c3 with w0:=false,w1:=false}:Cl)) cG ho Ee WZ Q6 Kc sr W0 xK ZX k)<|jg ((List.map Ou.cs (cG++(f9 ({c3 with w0:=false,w1:=false}:Cl)).2)).length)<|e0) (by simp only[lf,bq,z0,z1,z2,vq]<;>rfl)
   ·exact rt (cQ<|eg (G.loop (dJ.exit 0) (sj n l cG q l.length c3))<|ep (hL k)<|en z0<|ez z1<|ci z0<|en z1<|eb z0<|en z1<|en z2<|jg ((List.map Ou.cs cG).length)<|e0) (by simp only[lf,bq,z0,z1,z2,vq]<;>rfl)
  ·exact rt (cQ<|eg (G.loop (dJ.exit 0) (sj n l cG q l.length c3))<|ep (hL k)<|en z0<|CD z1<|et<|jg ((List.map Ou.cs cG).length)<|e0) (by simp only[lf,bq,z0,z1,vq]<;>rfl)
 ·rcases be c3.ai.up with z1|z1
  ·rcases be (q) with z2|z2
   ·exact rt (cQ<|eg (G.loop (dJ.exit 0) (sj n l cG q l.length c3))<|ep (hL k)<|en z0<|cQ<|ez z1<|ci z0<|en z1<|eb z0<|en z1<|ef<|eb z2<|jg ((List.map Ou.cs cG).length)<|ec (HM (({c3 with w0:=false,w1:=false}:Cl)) cG ho Ee WZ Q6 Kc sr W0 xK ZX k)<|jg ((List.map Ou.cs (cG++(f9 ({c3 with w0:=false,w1:=false}:Cl)).2)).length)<|e0) (by simp only[lf,bq,z0,z1,z2,vq]<;>rfl)
   ·exact rt (cQ<|eg (G.loop (dJ.exit 0) (sj n l cG q l.length c3))<|ep (hL k)<|en z0<|cQ<|ez z1<|ci z0<|en z1<|eb z0<|en z1<|ef<|eb z2<|jg ((List.map Ou.cs cG).length)<|ec (HM (({c3 with w1:=false}:Cl)) cG ho Ee WZ Q6 Kc sr W0 xK ZX k)<|jg ((List.map Ou.cs (cG++(f9 ({c3 with w1:=false}:Cl)).2)).length)<|e0) (by simp only[lf,bq,z0,z1,z2,vq]<;>rfl)
  ·exact rt (cQ<|eg (G.loop (dJ.exit 0) (sj n l cG q l.length c3))<|ep (hL k)<|en z0<|cQ<|CD z1<|et<|jg ((List.map Ou.cs cG).length)<|e0) (by simp only[lf,bq,z0,z1,vq]<;>rfl)
theorem Z1(d:Dk)(h1:(0:Nat)<d.ax.length)(h2:d.ax.length<=1000000)(k:Nat):EO (k+2) 81 [A.agg d.cs,A.nil] []=some ([au.agg ((ce d []).cs)],[]):=by
 rcases be (decide (0<(↑(d.ar.length):Int))) with z0|z0
 ·exact rt (ep (j6 (f:=eS) (g:=fun(x:ByteArray)=>st x) (fun _=>rfl) d.ax)<|ep (j7 (eS) (l:=d.ax) h1)<|ep (bz (eS) (l:=d.ax) (n:=1073741824) (show d.ax.length<=1073741824 from by omega))<|eg (G.uX (List.map (fun(x:ByteArray)=>V.c (st x)) d.ax))<|eg (G.un)<|ep (aG (Wr.cs) d.ar)<|eg (G.len d.ar.length)<|dO z0<|ep (rfl:(0:Nat)=(0:Nat))<|eg (G.len 0)<|ci z0<|ef<|ep (gH (fun(x:ByteArray)=>st x) d.ax (show List.length (List.map eS d.ax)=d.ax.length from by first|simp|(simp;omega)))<|eg (G.uY (List.map (fun(x:ByteArray)=>[st x]) d.ax))<|e0) (by simp only[ce,List.zip_nil_right,Dl,z0,vq]<;>rfl)
 ·exact rt (ep (j6 (f:=eS) (g:=fun(x:ByteArray)=>st x) (fun _=>rfl) d.ax)<|ep (j7 (eS) (l:=d.ax) h1)<|ep (bz (eS) (l:=d.ax) (n:=1073741824) (show d.ax.length<=1073741824 from by omega))<|eg (G.uX (List.map (fun(x:ByteArray)=>V.c (st x)) d.ax))<|eg (G.un)<|ep (aG (Wr.cs) d.ar)<|eg (G.len d.ar.length)<|sy z0<|ef<|ep (gH (fun(x:ByteArray)=>st x) d.ax (show List.length (List.map eS d.ax)=d.ax.length from by first|simp|(simp;omega)))<|eg (G.uY (List.map (fun(x:ByteArray)=>[st x]) d.ax))<|e0) (by simp only[ce,List.zip_nil_right,Dl,z0,vq]<;>rfl)
def mL(n:Nd)(r:Dk):Nd×Int:=
 bif n.up then(n,7) else
 bif !((cd r).2==0) then({n with store:={n.store with ao:=r}},(cd r).2) else
 (⟨n.id,true,(cd r).1,false,0,0,fQ,false,iE,false,0,0,false,n.aQ,n.bh⟩,0)
theorem W6(n:Nd)(ks:List Bool)(r:Dk)(hs:r.ax.length<=1000000)(hc:r.ar.length<=900)(h0:(bR r 0).1.size<=1000000)(h1:(bR r 1).1.size<=1000000)(hR:∀k,EO (k+8) 81 [A.agg n.store.ao.cs,A.c (sB ks)] []=some ([au.agg r.cs],[]))(k:Nat):EO (k+9) 40 [A.agg n.cs,A.c (sB ks)] []=some ([au.agg ((mL n r).1.cs),au.c (ii (mL n r).2)],[]):=by
 rcases be n.up with z0|z0
 ·exact rt (eb z0<|e0) (rs:=[au.agg n.cs,au.c (ii 7)]) (by simp only[mL,fQ,iE,z0,vq]<;>rfl)
 ·rcases be ((cd r).2==0) with z1|z1
  ·exact rt (eb z0<|ec (hR k)<|ec (Aj r hs hc h0 h1 k)<|en z1<|e0) (rs:=[au.agg ((Nd.mk n.id true (cd r).1 false 0 0 fG false zw false 0 0 false n.aQ n.bh).cs),au.c (ii 0)]) (by simp only[mL,fQ,iE,z0,z1,vq]<;>rfl)
  ·exact rt (eb z0<|ec (hR k)<|ec (Aj r hs hc h0 h1 k)<|en z1<|e0) (rs:=[au.agg (({n with store:=({Nd.store n with ao:=r}:So)}:Nd).cs),au.c (ii (cd r).2)]) (by simp only[mL,fQ,iE,z0,z1,vq]<;>rfl)
theorem W7(n:Nd)(r:Dk)(hs:r.ax.length<=1000000)(hc:r.ar.length<=900)(h0:(bR r 0).1.size<=1000000)(h1:(bR r 1).1.size<=1000000)(hR:∀k,EO (k+8) 81 [A.agg n.store.ao.cs,A.nil] []=some ([au.agg r.cs],[]))(k:Nat):EO (k+9) 40 [A.agg n.cs,A.nil] []=some ([au.agg ((mL n r).1.cs),au.c (ii (mL n r).2)],[]):=by
 rcases be n.up with z0|z0
 ·exact rt (eb z0<|e0) (rs:=[au.agg n.cs,au.c (ii 7)]) (by simp only[mL,fQ,iE,z0,vq]<;>rfl)
 ·rcases be ((cd r).2==0) with z1|z1
  ·exact rt (eb z0<|ec (hR k)<|ec (Aj r hs hc h0 h1 k)<|en z1<|e0) (rs:=[au.agg ((Nd.mk n.id true (cd r).1 false 0 0 fG false zw false 0 0 false n.aQ n.bh).cs),au.c (ii 0)]) (by simp only[mL,fQ,iE,z0,z1,vq]<;>rfl)
  ·exact rt (eb z0<|ec (hR k)<|ec (Aj r hs hc h0 h1 k)<|en z1<|e0) (rs:=[au.agg (({n with store:=({Nd.store n with ao:=r}:So)}:Nd).cs),au.c (ii (cd r).2)]) (by simp only[mL,fQ,iE,z0,z1,vq]<;>rfl)
theorem Z2(g:Int)(h1:((bV (b_ 2 g)).2==0)=true)(hL:∀k,EO (k+5) 90 [A.agg [ii 2,u g,u 0,u 0,u 0,bo false,bo false,bo false]] []=some ([au.c (st (bV (b_ 2 g)).1),au.c (ii (bV (b_ 2 g)).2)],[]))(k:Nat):EO (k+6) 55 [A.c (ii 2),A.c (u g)] []=some ([au.agg ((dR 2 g).cs),au.c (ii 0)],[]):=by
 exact rt (ec (hL k)<|en h1<|ec (FC 0 (k+3))<|ec (Ad (ee 0) (show ByteArray.size (ee (0:Int))<=1000000 from by decide) (k+1))<|eg (G.un)<|et<|ec (oR (k+4))<|ep (rfl:[[st (bV (b_ (2:Int) g)).1],[st (cA (ee (0:Int)))],[st ku]]=[[st (bV (b_ (2:Int) g)).1],[st (cA (ee (0:Int)))],[st ku]])<|ep (show List.length [[st (bV (b_ (2:Int) g)).1],[st (cA (ee (0:Int)))],[st ku]]<=1073741824 from by simp only[vr];omega)<|ep ((rfl:(2:Nat)=(2:Nat))).symm<|eg (G.app [[st (bV (b_ 2 g)).1],[st (cA (ee 0))],[st ku]])<|et<|ec (oR (k+4))<|ep (rfl:[[st (bV (b_ (2:Int) g)).1],[st (cA (ee (0:Int)))],[st ku],[st ku]]=[[st (bV (b_ (2:Int) g)).1],[st (cA (ee (0:Int)))],[st ku],[st ku]])<|ep (show List.length [[st (bV (b_ (2:Int) g)).1],[st (cA (ee (0:Int)))],[st ku],[st ku]]<=1073741824 from by simp only[vr];omega)<|ep ((rfl:(3:Nat)=(3:Nat))).symm<|eg (G.app [[st (bV (b_ 2 g)).1],[st (cA (ee 0))],[st ku],[st ku]])<|ef<|e0) (by simp only[dR,vq]<;>rfl)
theorem Z3(g:Int)(h1:((bV (b_ 3 g)).2==0)=true)(hL:∀k,EO (k+5) 90 [A.agg [ii 3,u g,u 0,u 0,u 0,bo false,bo false,bo false]] []=some ([au.c (st (bV (b_ 3 g)).1),au.c (ii (bV (b_ 3 g)).2)],[]))(k:Nat):EO (k+6) 55 [A.c (ii 3),A.c (u g)] []=some ([au.agg ((dR 3 g).cs),au.c (ii 0)],[]):=by
 exact rt (ec (hL k)<|en h1<|ec (FC 0 (k+3))<|ec (Ad (ee 0) (show ByteArray.size (ee (0:Int))<=1000000 from by decide) (k+1))<|eg (G.un)<|et<|ec (oR (k+4))<|ep (rfl:[[st (bV (b_ (3:Int) g)).1],[st (cA (ee (0:Int)))],[st ku]]=[[st (bV (b_ (3:Int) g)).1],[st (cA (ee (0:Int)))],[st ku]])<|ep (show List.length [[st (bV (b_ (3:Int) g)).1],[st (cA (ee (0:Int)))],[st ku]]<=1073741824 from by simp only[vr];omega)<|ep ((rfl:(2:Nat)=(2:Nat))).symm<|eg (G.app [[st (bV (b_ 3 g)).1],[st (cA (ee 0))],[st ku]])<|et<|ec (oR (k+4))<|ep (rfl:[[st (bV (b_ (3:Int) g)).1],[st (cA (ee (0:Int)))],[st ku],[st ku]]=[[st (bV (b_ (3:Int) g)).1],[st (cA (ee (0:Int)))],[st ku],[st ku]])<|ep (show List.length [[st (bV (b_ (3:Int) g)).1],[st (cA (ee (0:Int)))],[st ku],[st ku]]<=1073741824 from by simp only[vr];omega)<|ep ((rfl:(3:Nat)=(3:Nat))).symm<|eg (G.app [[st (bV (b_ 3 g)).1],[st (cA (ee 0))],[st ku],[st ku]])<|et<|ec (oR (k+4))<|ep (rfl:[[st (bV (b_ (3:Int) g)).1],[st (cA (ee (0:Int)))],[st ku],[st ku],[st ku]]=[[st (bV (b_ (3:Int) g)).1],[st (cA (ee (0:Int)))],[st ku],[st ku],[st ku]])<|ep (show List.length [[st (bV (b_ (3:Int) g)).1],[st (cA (ee (0:Int)))],[st ku],[st ku],[st ku]]<=1073741824 from by simp only[vr];omega)<|ep ((rfl:(4:Nat)=(4:Nat))).symm<|eg (G.app [[st (bV (b_ 3 g)).1],[st (cA (ee 0))],[st ku],[st ku],[st ku]])<|ef<|e0) (by simp only[dR,vq]<;>rfl)
theorem Z4(g:Int)(h1:((bV (b_ 4 g)).2==0)=true)(hL:∀k,EO (k+5) 90 [A.agg [ii 4,u g,u 0,u 0,u 0,bo false,bo false,bo false]] []=some ([au.c (st (bV (b_ 4 g)).1),au.c (ii (bV (b_ 4 g)).2)],[]))(k:Nat):EO (k+6) 55 [A.c (ii 4),A.c (u g)] []=some ([au.agg ((dR 4 g).cs),au.c (ii 0)],[]):=by
 exact rt (ec (hL k)<|en h1<|ec (FC 0 (k+3))<|ec (Ad (ee 0) (show ByteArray.size (ee (0:Int))<=1000000 from by decide) (k+1))<|eg (G.un)<|et<|ec (oR (k+4))<|ep (rfl:[[st (bV (b_ (4:Int) g)).1],[st (cA (ee (0:Int)))],[st ku]]=[[st (bV (b_ (4:Int) g)).1],[st (cA (ee (0:Int)))],[st ku]])<|ep (show List.length [[st (bV (b_ (4:Int) g)).1],[st (cA (ee (0:Int)))],[st ku]]<=1073741824 from by simp only[vr];omega)<|ep ((rfl:(2:Nat)=(2:Nat))).symm<|eg (G.app [[st (bV (b_ 4 g)).1],[st (cA (ee 0))],[st ku]])<|et<|ec (oR (k+4))<|ep (rfl:[[st (bV (b_ (4:Int) g)).1],[st (cA (ee (0:Int)))],[st ku],[st ku]]=[[st (bV (b_ (4:Int) g)).1],[st (cA (ee (0:Int)))],[st ku],[st ku]])<|ep (show List.length [[st (bV (b_ (4:Int) g)).1],[st (cA (ee (0:Int)))],[st ku],[st ku]]<=1073741824 from by simp only[vr];omega)<|ep ((rfl:(3:Nat)=(3:Nat))).symm<|eg (G.app [[st (bV (b_ 4 g)).1],[st (cA (ee 0))],[st ku],[st ku]])<|et<|ec (oR (k+4))<|ep (rfl:[[st (bV (b_ (4:Int) g)).1],[st (cA (ee (0:Int)))],[st ku],[st ku],[st ku]]=[[st (bV (b_ (4:Int) g)).1],[st (cA (ee (0:Int)))],[st ku],[st ku],[st ku]])<|ep (show List.length [[st (bV (b_ (4:Int) g)).1],[st (cA (ee (0:Int)))],[st ku],[st ku],[st ku]]<=1073741824 from by simp only[vr];omega)<|ep ((rfl:(4:Nat)=(4:Nat))).symm<|eg (G.app [[st (bV (b_ 4 g)).1],[st (cA (ee 0))],[st ku],[st ku],[st ku]])<|et<|ec (oR (k+4))<|ep (rfl:[[st (bV (b_ (4:Int) g)).1],[st (cA (ee (0:Int)))],[st ku],[st ku],[st ku],[st ku]]=[[st (bV (b_ (4:Int) g)).1],[st (cA (ee (0:Int)))],[st ku],[st ku],[st ku],[st ku]])<|ep (show List.length [[st (bV (b_ (4:Int) g)).1],[st (cA (ee (0:Int)))],[st ku],[st ku],[st ku],[st ku]]<=1073741824 from by simp only[vr];omega)<|ep ((rfl:(5:Nat)=(5:Nat))).symm<|eg (G.app [[st (bV (b_ 4 g)).1],[st (cA (ee 0))],[st ku],[st ku],[st ku],[st ku]])<|ef<|e0) (by simp only[dR,vq]<;>rfl)
def kr(i:Int)(d:Dk):Nd:=⟨i,false,⟨d,Kg,0⟩,false,0,0,fQ,false,iE,false,0,0,false,[],[]⟩
abbrev FI(i:Int)(d:Dk):List C:=[ii i,bo false, .slice 1 (d.ax.map eS), .slice 2 (d.ar.map Wr.cs),ii d.kU,bo d.gN,ii 0,u 0,u 0,u 0,u 0,bo false,bo false,bo false,w4 0,bo false,ii 0,u 0,ii 0,u 0,u 0,u 0,u 0,bo false,bo false,bo false,bo false,w4 0,bo false,bo false,ii 0,ii 0,st ⟨#[]⟩,bo false,ii 0,ii 0,bo false, .slice 1 [], .slice 3 []]
theorem ME(i:Int)(d:Dk):(kr i d).cs=FI i d:=rfl
def lk0:Lk:=⟨false,0,[],[]⟩
theorem adZ(b:Int)(g:Int)(d:Dk)(x:Nd)(y:Nd)(e:Int)(f:Int)(hF:∀k,EO (k+9) 55 [A.c (ii b),A.c (u g)] []=some ([au.agg d.cs,au.c (ii 0)],[]))(hA:∀k,EO (k+9) 40 [A.agg (FI 0 d),A.nil] []=some ([au.agg x.cs,au.c (ii e)],[]))(hB:∀k,EO (k+9) 40 [A.agg (FI 1 d),A.nil] []=some ([au.agg y.cs,au.c (ii f)],[]))(k:Nat):EO (k+10) 27 [A.c (ii b),A.c (u g)] []=some ([au.agg ((Cl.mk x y lk0 false false).cs),au.c (ii 0)],[]):=by
 exact rt (eg (G.un)<|et<|ec (hF k)<|ef<|ec (hA k)<|cP<|et<|ec (hF k)<|ef<|ec (hB k)<|cQ<|ef<|e0) (by simp only[lk0,vq]<;>rfl)
def yy(c c2 c3:Cl)(o1 o2:List Ou):Cl×List Ou:=
 bif !c.n0.up then(c,[]) else bif !c.w1||!c.n1.up||c.ai.up then({c with w0:=true},[]) else(c3,o1++o2)
theorem Ta(c:Cl)(c2:Cl)(c3:Cl)(o1:List Ou)(o2:List Ou)(hl:o1.length+o2.length<=1000)(hA:∀k,EO (k+12) 44 [A.agg (({c with ai:=fU c.ai,w0:=true}:Cl).cs),A.c (ii 0),A.agg ((d7 c.n0 (fU c.ai).bd).1.cs),A.c (sO (d7 c.n0 (fU c.ai).bd).2)] []=some ([au.agg c2.cs,rO o1],[]))(hB:∀k,EO (k+12) 44 [A.agg c2.cs,A.c (ii 1),A.agg ((d7 c2.n1 c2.ai.bd).1.cs),A.c (sO (d7 c2.n1 c2.ai.bd).2)] []=some ([au.agg c3.cs,rO o2],[]))(k:Nat):EO (k+13) 35 [A.agg c.cs,A.c (ii 0)] []=some ([au.agg ((yy c c2 c3 o1 o2).1.cs),rO (yy c c2 c3 o1 o2).2],[]):=by
 rcases be c.n0.up with z0|z0
 ·rcases be c.w1 with z1|z1
  ·rcases be c.n1.up with z2|z2
   ·rcases be c.ai.up with z3|z3
    ·exact rt (cP<|en z0<|cP<|cQ<|eA z1<|cQ<|eA z1<|eA z2<|eb z3<|e0) (rs:=[au.agg (({c with w0:=true}:Cl).cs),rO []]) (by simp only[yy,z0,z1,z2,z3,vq]<;>rfl)
    ·exact rt (cP<|en z0<|cP<|cQ<|eA z1<|cQ<|eA z1<|eA z2<|eb z3<|ec (QV c.ai (k+11))<|ec (CU c.n0 (fU c.ai).bd (k+2))<|ec (hA k)<|ec (CU c2.n1 c2.ai.bd (k+2))<|ec (hB k)<|ep (dH (Ou.cs) (o1) (o2))<|ep (bz (Ou.cs) (l:=o1++o2) (n:=1073741824) (by simp only[vr];omega))<|ep (eN ((List.map Ou.cs o1).length))<|eg (G.app (List.map Ou.cs (o1++o2)))<|jg ((List.map Ou.cs (o1++o2)).length)<|e0) (rs:=[au.agg c3.cs,rO (o1++o2)]) (by simp only[yy,z0,z1,z2,z3,vq]<;>rfl)
   ·exact rt (cP<|en z0<|cP<|cQ<|eA z1<|cQ<|eA z1<|eA z2<|et<|e0) (rs:=[au.agg (({c with w0:=true}:Cl).cs),rO []]) (by simp only[yy,z0,z1,z2,vq]<;>rfl)
  ·exact rt (cP<|en z0<|cP<|cQ<|md z1<|iA z1<|RD<|e0) (rs:=[au.agg (({c with w0:=true}:Cl).cs),rO []]) (by simp only[yy,z0,z1,vq]<;>rfl)
 ·exact rt (cP<|en z0<|e0) (rs:=[au.agg c.cs,rO []]) (by simp only[yy,z0,vq]<;>rfl)
def yz(c c2 c3:Cl)(o1 o2:List Ou):Cl×List Ou:=
 bif !c.n1.up then(c,[]) else bif !c.w0||!c.n0.up||c.ai.up then({c with w1:=true},[]) else(c3,o1++o2)
theorem Tb(c:Cl)(c2:Cl)(c3:Cl)(o1:List Ou)(o2:List Ou)(hl:o1.length+o2.length<=1000)(hA:∀k,EO (k+12) 44 [A.agg (({c with ai:=fU c.ai,w1:=true}:Cl).cs),A.c (ii 0),A.agg ((d7 c.n0 (fU c.ai).bd).1.cs),A.c (sO (d7 c.n0 (fU c.ai).bd).2)] []=some ([au.agg c2.cs,rO o1],[]))(hB:∀k,EO (k+12) 44 [A.agg c2.cs,A.c (ii 1),A.agg ((d7 c2.n1 c2.ai.bd).1.cs),A.c (sO (d7 c2.n1 c2.ai.bd).2)] []=some ([au.agg c3.cs,rO o2],[]))(k:Nat):EO (k+13) 35 [A.agg c.cs,A.c (ii 1)] []=some ([au.agg ((yz c c2 c3 o1 o2).1.cs),rO (yz c c2 c3 o1 o2).2],[]):=by
 rcases be c.n1.up with z0|z0
 ·rcases be c.w0 with z1|z1
  ·rcases be c.n0.up with z2|z2
   ·rcases be c.ai.up with z3|z3
    ·exact rt (cQ<|en z0<|cQ<|cP<|eA z1<|cP<|eA z1<|eA z2<|eb z3<|e0) (rs:=[au.agg (({c with w1:=true}:Cl).cs),rO []]) (by simp only[yz,z0,z1,z2,z3,vq]<;>rfl)
    ·exact rt (cQ<|en z0<|cQ<|cP<|eA z1<|cP<|eA z1<|eA z2<|eb z3<|ec (QV c.ai (k+11))<|ec (CU c.n0 (fU c.ai).bd (k+2))<|ec (hA k)<|ec (CU c2.n1 c2.ai.bd (k+2))<|ec (hB k)<|ep (dH (Ou.cs) (o1) (o2))<|ep (bz (Ou.cs) (l:=o1++o2) (n:=1073741824) (by simp only[vr];omega))<|ep (eN ((List.map Ou.cs o1).length))<|eg (G.app (List.map Ou.cs (o1++o2)))<|jg ((List.map Ou.cs (o1++o2)).length)<|e0) (rs:=[au.agg c3.cs,rO (o1++o2)]) (by simp only[yz,z0,z1,z2,z3,vq]<;>rfl)
   ·exact rt (cQ<|en z0<|cQ<|cP<|eA z1<|cP<|eA z1<|eA z2<|et<|e0) (rs:=[au.agg (({c with w1:=true}:Cl).cs),rO []]) (by simp only[yz,z0,z1,z2,vq]<;>rfl)
  ·exact rt (cQ<|en z0<|cQ<|cP<|md z1<|iA z1<|RD<|e0) (rs:=[au.agg (({c with w1:=true}:Cl).cs),rO []]) (by simp only[yz,z0,z1,vq]<;>rfl)
 ·exact rt (cQ<|en z0<|e0) (rs:=[au.agg c.cs,rO []]) (by simp only[yz,z0,vq]<;>rfl)
abbrev B8(n:Nd)(k:Int):Nd:=⟨n.id,n.up,⟨UI n.store.ao (wrap .i64 (if 1000<k then 1000 else k)),n.store.aj,n.store.cr⟩,n.aN,n.ag,n.bd,n.eQ,n.cU,n.bL,n.cb,n.bM,n.wanted,n.bZ,n.aQ,n.bh⟩
abbrev drawn(n:Nd)(g:Int):Nd:=⟨n.id,n.up,n.store,n.aN,n.ag,n.bd,n.eQ,n.cU,n.bL,n.cb,n.bM,n.wanted,n.bZ,n.aQ++[g],n.bh⟩
theorem O2(c:Cl)(e:bg)(c2:Cl)(o2:List Ou)(x:Nd)(o:List Ou)(hP:∀k,EO (k+13) 30 [A.agg c.n0.cs,A.c (ii e.id)] []=some ([au.agg x.cs,rO o],[]))(hA:∀k,EO (k+13) 44 [A.agg c.cs,A.c (ii 0),A.agg x.cs,A.c (sO o)] []=some ([au.agg c2.cs,rO o2],[]))(k:Nat):EO (k+14) 18 [A.agg c.cs,A.agg [ii 1,ii 0,ii e.id,ii e.block,st e.data,u e.n,sB e.aU]] []=some ([au.agg c2.cs,rO o2],[]):=by
 exact rt (kT<|cP<|et<|ec (hP k)<|ec (hA k)<|jg ((List.map Ou.cs o2).length)<|e0) rfl
theorem Tc(c:Cl)(e:bg)(c2:Cl)(o2:List Ou)(x:Nd)(o:List Ou)(hP:∀k,EO (k+13) 31 [A.agg c.n0.cs,A.c (ii e.id)] []=some ([au.agg x.cs,rO o],[]))(hA:∀k,EO (k+13) 44 [A.agg c.cs,A.c (ii 0),A.agg x.cs,A.c (sO o)] []=some ([au.agg c2.cs,rO o2],[]))(k:Nat):EO (k+14) 18 [A.agg c.cs,A.agg [ii 2,ii 0,ii e.id,ii e.block,st e.data,u e.n,sB e.aU]] []=some ([au.agg c2.cs,rO o2],[]):=by
 exact rt (kT<|cP<|ef<|et<|ec (hP k)<|ec (hA k)<|jg ((List.map Ou.cs o2).length)<|e0) rfl
theorem O3(c:Cl)(e:bg)(c2:Cl)(o2:List Ou)(x:Nd)(o:List Ou)(hP:∀k,EO (k+13) 32 [A.agg c.n0.cs,A.c (ii e.id)] []=some ([au.agg x.cs,rO o],[]))(hA:∀k,EO (k+13) 44 [A.agg c.cs,A.c (ii 0),A.agg x.cs,A.c (sO o)] []=some ([au.agg c2.cs,rO o2],[]))(k:Nat):EO (k+14) 18 [A.agg c.cs,A.agg [ii 3,ii 0,ii e.id,ii e.block,st e.data,u e.n,sB e.aU]] []=some ([au.agg c2.cs,rO o2],[]):=by
 exact rt (kT<|cP<|mw<|et<|ec (hP k)<|ec (hA k)<|jg ((List.map Ou.cs o2).length)<|e0) rfl
theorem Z5(c:Cl)(e:bg)(c2:Cl)(o2:List Ou)(x:Nd)(o:List Ou)(hP:∀k,EO (k+13) 33 [A.agg c.n0.cs,A.c (ii e.id),A.c (ii e.block)] []=some ([au.agg x.cs,rO o],[]))(hA:∀k,EO (k+13) 44 [A.agg c.cs,A.c (ii 0),A.agg x.cs,A.c (sO o)] []=some ([au.agg c2.cs,rO o2],[]))(k:Nat):EO (k+14) 18 [A.agg c.cs,A.agg [ii 4,ii 0,ii e.id,ii e.block,st e.data,u e.n,sB e.aU]] []=some ([au.agg c2.cs,rO o2],[]):=by
 exact rt (kT<|cP<|lE<|et<|ec (hP k)<|ec (hA k)<|jg ((List.map Ou.cs o2).length)<|e0) rfl
theorem W8(c:Cl)(e:bg)(c2:Cl)(o2:List Ou)(x:Nd)(o:List Ou)(hP:∀k,EO (k+13) 34 [A.agg c.n0.cs,A.c (ii e.id),A.c (ii e.block),A.c (st e.data)] []=some ([au.agg x.cs,rO o],[]))(hA:∀k,EO (k+13) 44 [A.agg c.cs,A.c (ii 0),A.agg x.cs,A.c (sO o)] []=some ([au.agg c2.cs,rO o2],[]))(k:Nat):EO (k+14) 18 [A.agg c.cs,A.agg [ii 5,ii 0,ii e.id,ii e.block,st e.data,u e.n,sB e.aU]] []=some ([au.agg c2.cs,rO o2],[]):=by
 exact rt (kT<|cP<|kT<|et<|ec (hP k)<|ec (hA k)<|jg ((List.map Ou.cs o2).length)<|e0) rfl
theorem O4(c:Cl)(e:bg)(c2:Cl)(o2:List Ou)(hC:∀k,EO (k+13) 35 [A.agg c.cs,A.c (ii 0)] []=some ([au.agg c2.cs,rO o2],[]))(k:Nat):EO (k+14) 18 [A.agg c.cs,A.agg [ii 6,ii 0,ii e.id,ii e.block,st e.data,u e.n,sB e.aU]] []=some ([au.agg c2.cs,rO o2],[]):=by
 exact rt (kT<|cP<|Cg<|et<|ec (hC k)<|jg ((List.map Ou.cs o2).length)<|e0) rfl
def B9(c c2:Cl)(o2:List Ou):Cl×List Ou:=bif !c.ai.up then(c,[]) else(c2,o2)
theorem Gr(c:Cl)(e:bg)(c2:Cl)(o2:List Ou)(hE:∀k,EO (k+13) 36 [A.agg (({c with w0:=false}:Cl).cs),A.nil] []=some ([au.agg c2.cs,rO o2],[]))(k:Nat):EO (k+14) 18 [A.agg c.cs,A.agg [ii 7,ii 0,ii e.id,ii e.block,st e.data,u e.n,sB e.aU]] []=some ([au.agg ((B9 ({c with w0:=false}:Cl) c2 o2).1.cs),rO (B9 ({c with w0:=false}:Cl) c2 o2).2],[]):=by
 rcases be c.ai.up with z0|z0
 ·exact rt (kT<|cP<|fP<|mc<|cP<|en z0<|ec (hE k)<|jg ((List.map Ou.cs o2).length)<|e0) (by simp only[B9,z0,vq]<;>rfl)
 ·exact rt (kT<|cP<|fP<|mc<|cP<|en z0<|e0) (by simp only[B9,z0,vq]<;>rfl)
theorem Z6(c:Cl)(e:bg)(c2:Cl)(o2:List Ou)(hE:∀k,EO (k+13) 36 [A.agg c.cs,A.nil] []=some ([au.agg c2.cs,rO o2],[]))(k:Nat):EO (k+14) 18 [A.agg c.cs,A.agg [ii 8,ii 0,ii e.id,ii e.block,st e.data,u e.n,sB e.aU]] []=some ([au.agg ((B9 c c2 o2).1.cs),rO (B9 c c2 o2).2],[]):=by
 rcases be c.ai.up with z0|z0
 ·exact rt (kT<|cP<|fP<|ef<|et<|ef<|en z0<|ec (hE k)<|jg ((List.map Ou.cs o2).length)<|e0) (by simp only[B9,z0,vq]<;>rfl)
 ·exact rt (kT<|cP<|fP<|ef<|et<|ef<|en z0<|e0) (by simp only[B9,z0,vq]<;>rfl)
def JT(c c2:Cl)(o2:List Ou)(q:Bool):Cl×List Ou:=bif !q then(c,[]) else(c2,o2)
theorem O5(c:Cl)(e:bg)(c2:Cl)(o2:List Ou)(x:Nd)(o:List Ou)(b:ByteArray)(l:Lk)(q:Bool)(hT:∀k,EO (k+13) 37 [A.agg c.ai.cs,A.c (ii 0)] []=some ([au.c (st b),au.agg l.cs,au.c (bo q)],[]))(hP:∀k,EO (k+13) 38 [A.agg c.n0.cs,A.c (st b)] []=some ([au.agg x.cs,rO o],[]))(hA:∀k,EO (k+13) 44 [A.agg (({c with ai:=l}:Cl).cs),A.c (ii 0),A.agg x.cs,A.c (sO o)] []=some ([au.agg c2.cs,rO o2],[]))(k:Nat):EO (k+14) 18 [A.agg c.cs,A.agg [ii 9,ii 0,ii e.id,ii e.block,st e.data,u e.n,sB e.aU]] []=some ([au.agg ((JT c c2 o2 q).1.cs),rO (JT c c2 o2 q).2],[]):=by
 rcases be (q) with z0|z0
 ·exact rt (kT<|cP<|fP<|mw<|et<|ec (hT k)<|en z0<|ec (hP k)<|ec (hA k)<|jg ((List.map Ou.cs o2).length)<|e0) (by simp only[JT,z0,vq]<;>rfl)
 ·exact rt (kT<|cP<|fP<|mw<|et<|ec (hT k)<|en z0<|e0) (by simp only[JT,z0,vq]<;>rfl)
def CV(c c2:Cl)(o2:List Ou):Cl×List Ou:=bif !c.n0.up then(c,[]) else(c2,o2)
theorem W9(c:Cl)(e:bg)(c2:Cl)(o2:List Ou)(hA:∀k,EO (k+13) 44 [A.agg c.cs,A.c (ii 0),A.agg ((dz c.n0).cs),A.c (C.slice 5 [])] []=some ([au.agg c2.cs,rO o2],[]))(k:Nat):EO (k+14) 18 [A.agg c.cs,A.agg [ii 10,ii 0,ii e.id,ii e.block,st e.data,u e.n,sB e.aU]] []=some ([au.agg ((CV c c2 o2).1.cs),rO (CV c c2 o2).2],[]):=by
 rcases be c.n0.up with z0|z0
 ·exact rt (kT<|cP<|fP<|lE<|et<|en z0<|ec (JO c.n0 (k+11))<|ec (hA k)<|jg ((List.map Ou.cs o2).length)<|e0) (by simp only[CV,z0,vq]<;>rfl)
 ·exact rt (kT<|cP<|fP<|lE<|et<|en z0<|e0) (by simp only[CV,z0,vq]<;>rfl)
theorem O6(c:Cl)(e:bg)(x:Nd)(f:Int)(hP:∀k,EO (k+13) 40 [A.agg c.n0.cs,A.c (sB e.aU)] []=some ([au.agg x.cs,au.c (ii f)],[]))(k:Nat):EO (k+14) 18 [A.agg c.cs,A.agg [ii 11,ii 0,ii e.id,ii e.block,st e.data,u e.n,sB e.aU]] []=some ([au.agg (({c with n0:=x}:Cl).cs),rO [ap x e.id f ⟨#[]⟩]],[]):=by
 exact rt (kT<|cP<|fP<|kT<|et<|ec (hP k)<|cP<|ec (eK x e.id f ⟨#[]⟩ (k+12))<|e0) rfl
theorem W_(c:Cl)(e:bg)(c2:Cl)(o2:List Ou)(hu:c.n0.up=true)(hA:∀k,EO (k+13) 44 [A.agg c.cs,A.c (ii 0),A.agg ((B8 c.n0 e.n).cs),A.c (C.slice 5 [])] []=some ([au.agg c2.cs,rO o2],[]))(k:Nat):EO (k+14) 18 [A.agg c.cs,A.agg [ii 12,ii 0,ii e.id,ii e.block,st e.data,u e.n,sB e.aU]] []=some ([au.agg c2.cs,rO o2],[]):=by
 exact rt (kT<|cP<|fP<|Cg<|et<|eb hu<|ec (ahO c.n0.store.ao (wrap .i64 (if 1000<e.n then 1000 else bg.n e)) (k+12))<|ec (hA k)<|jg ((List.map Ou.cs o2).length)<|e0) rfl
theorem Xa(c:Cl)(e:bg)(c2:Cl)(o2:List Ou)(hu:c.n0.up=false)(hA:∀k,EO (k+13) 44 [A.agg c.cs,A.c (ii 0),A.agg c.n0.cs,A.c (C.slice 5 [])] []=some ([au.agg c2.cs,rO o2],[]))(k:Nat):EO (k+14) 18 [A.agg c.cs,A.agg [ii 12,ii 0,ii e.id,ii e.block,st e.data,u e.n,sB e.aU]] []=some ([au.agg c2.cs,rO o2],[]):=by
 exact rt (kT<|cP<|fP<|Cg<|et<|eb hu<|ec (hA k)<|jg ((List.map Ou.cs o2).length)<|e0) rfl
theorem Xb(c:Cl)(e:bg)(hr:c.n0.aQ.length<=1000000)(hd:decide ((↑(c.n0.aQ.length):Int)<1000)=true)(k:Nat):EO (k+14) 18 [A.agg c.cs,A.agg [ii 13,ii 0,ii e.id,ii e.block,st e.data,u e.n,sB e.aU]] []=some ([au.agg (({c with n0:=drawn c.n0 e.n}:Cl).cs),au.top 5 []],[]):=by
 exact rt (kT<|cP<|fP<|fP<|et<|ep (aG (eU) c.n0.aQ)<|eg (G.len c.n0.aQ.length)<|eb hd<|ep (eF (List.map eU c.n0.aQ))<|ep (bz (eU) (l:=c.n0.aQ) (n:=1073741824) (by omega))<|eg (G.app (List.map eU c.n0.aQ))<|ep (dH (eU) c.n0.aQ ([e.n]))<|ep (bz (eU) (l:=c.n0.aQ++[e.n]) (n:=1073741824) (by simp only[vr];omega))<|ep (eN ((List.map eU c.n0.aQ).length))<|eg (G.app (List.map eU (c.n0.aQ++[e.n])))<|cP<|e0) rfl
theorem Xc(c:Cl)(e:bg)(hd:decide ((↑(c.n0.aQ.length):Int)<1000)=false)(k:Nat):EO (k+14) 18 [A.agg c.cs,A.agg [ii 13,ii 0,ii e.id,ii e.block,st e.data,u e.n,sB e.aU]] []=some ([au.agg c.cs,au.top 5 []],[]):=by
 exact rt (kT<|cP<|fP<|fP<|et<|ep (aG (eU) c.n0.aQ)<|eg (G.len c.n0.aQ.length)<|eb hd<|cP<|e0) rfl
def CW(c c2:Cl)(o2:List Ou)(f:Int):Cl×List Ou:=bif f==0 then(c,[]) else(c2,o2)
theorem Xd(c:Cl)(e:bg)(c2:Cl)(o2:List Ou)(x:Nd)(o:List Ou)(p:Pk)(f:Int)(hR:∀k,EO (k+13) 43 [A.c (st e.data),A.c (u c.ai.bd)] []=some ([au.agg p.cs,au.c (ii f)],[]))(hP:∀k,EO (k+13) 38 [A.agg c.n0.cs,A.c (st e.data)] []=some ([au.agg x.cs,rO o],[]))(hA:∀k,EO (k+13) 44 [A.agg c.cs,A.c (ii 0),A.agg x.cs,A.c (sO o)] []=some ([au.agg c2.cs,rO o2],[]))(k:Nat):EO (k+14) 18 [A.agg c.cs,A.agg [ii 14,ii 0,ii e.id,ii e.block,st e.data,u e.n,sB e.aU]] []=some ([au.agg ((CW c c2 o2 f).1.cs),rO (CW c c2 o2 f).2],[]):=by
 rcases be (f==0) with z0|z0
 ·exact rt (kT<|cP<|fP<|fP<|ef<|et<|ec (hR k)<|eb z0<|e0) (by simp only[CW,z0,vq]<;>rfl)
 ·exact rt (kT<|cP<|fP<|fP<|ef<|et<|ec (hR k)<|eb z0<|ec (hP k)<|ec (hA k)<|jg ((List.map Ou.cs o2).length)<|e0) (by simp only[CW,z0,vq]<;>rfl)
theorem Xe(c:Cl)(e:bg)(h1:(e.ae==1)=false)(h2:(e.ae==2)=false)(h3:(e.ae==3)=false)(h4:(e.ae==4)=false)(h5:(e.ae==5)=false)(h6:(e.ae==6)=false)(h7:(e.ae==7)=false)(h8:(e.ae==8)=false)(h9:(e.ae==9)=false)(WE:(e.ae==10)=false)(h11:(e.ae==11)=false)(h12:(e.ae==12)=false)(Ar:(e.ae==13)=false)(h14:(e.ae==14)=false)(k:Nat):EO (k+14) 18 [A.agg c.cs,A.agg [ii e.ae,ii 0,ii e.id,ii e.block,st e.data,u e.n,sB e.aU]] []=some ([au.agg c.cs,au.top 5 []],[]):=by
 exact rt (kT<|cP<|eb h1<|eb h2<|eb h3<|eb h4<|eb h5<|eb h6<|eb h7<|eb h8<|eb h9<|eb WE<|eb h11<|eb h12<|eb Ar<|eb h14<|e0) rfl
theorem O7(c:Cl)(e:bg)(c2:Cl)(o2:List Ou)(x:Nd)(o:List Ou)(hP:∀k,EO (k+13) 30 [A.agg c.n1.cs,A.c (ii e.id)] []=some ([au.agg x.cs,rO o],[]))(hA:∀k,EO (k+13) 44 [A.agg c.cs,A.c (ii 1),A.agg x.cs,A.c (sO o)] []=some ([au.agg c2.cs,rO o2],[]))(k:Nat):EO (k+14) 18 [A.agg c.cs,A.agg [ii 1,ii 1,ii e.id,ii e.block,st e.data,u e.n,sB e.aU]] []=some ([au.agg c2.cs,rO o2],[]):=by
 exact rt (mc<|ef<|cQ<|et<|ec (hP k)<|ec (hA k)<|jg ((List.map Ou.cs o2).length)<|e0) rfl
theorem Td(c:Cl)(e:bg)(c2:Cl)(o2:List Ou)(x:Nd)(o:List Ou)(hP:∀k,EO (k+13) 31 [A.agg c.n1.cs,A.c (ii e.id)] []=some ([au.agg x.cs,rO o],[]))(hA:∀k,EO (k+13) 44 [A.agg c.cs,A.c (ii 1),A.agg x.cs,A.c (sO o)] []=some ([au.agg c2.cs,rO o2],[]))(k:Nat):EO (k+14) 18 [A.agg c.cs,A.agg [ii 2,ii 1,ii e.id,ii e.block,st e.data,u e.n,sB e.aU]] []=some ([au.agg c2.cs,rO o2],[]):=by
 exact rt (mc<|ef<|cQ<|ef<|et<|ec (hP k)<|ec (hA k)<|jg ((List.map Ou.cs o2).length)<|e0) rfl
theorem O8(c:Cl)(e:bg)(c2:Cl)(o2:List Ou)(x:Nd)(o:List Ou)(hP:∀k,EO (k+13) 32 [A.agg c.n1.cs,A.c (ii e.id)] []=some ([au.agg x.cs,rO o],[]))(hA:∀k,EO (k+13) 44 [A.agg c.cs,A.c (ii 1),A.agg x.cs,A.c (sO o)] []=some ([au.agg c2.cs,rO o2],[]))(k:Nat):EO (k+14) 18 [A.agg c.cs,A.agg [ii 3,ii 1,ii e.id,ii e.block,st e.data,u e.n,sB e.aU]] []=some ([au.agg c2.cs,rO o2],[]):=by
 exact rt (mc<|ef<|cQ<|mw<|et<|ec (hP k)<|ec (hA k)<|jg ((List.map Ou.cs o2).length)<|e0) rfl
theorem Z7(c:Cl)(e:bg)(c2:Cl)(o2:List Ou)(x:Nd)(o:List Ou)(hP:∀k,EO (k+13) 33 [A.agg c.n1.cs,A.c (ii e.id),A.c (ii e.block)] []=some ([au.agg x.cs,rO o],[]))(hA:∀k,EO (k+13) 44 [A.agg c.cs,A.c (ii 1),A.agg x.cs,A.c (sO o)] []=some ([au.agg c2.cs,rO o2],[]))(k:Nat):EO (k+14) 18 [A.agg c.cs,A.agg [ii 4,ii 1,ii e.id,ii e.block,st e.data,u e.n,sB e.aU]] []=some ([au.agg c2.cs,rO o2],[]):=by
 exact rt (mc<|ef<|cQ<|lE<|et<|ec (hP k)<|ec (hA k)<|jg ((List.map Ou.cs o2).length)<|e0) rfl
theorem Xf(c:Cl)(e:bg)(c2:Cl)(o2:List Ou)(x:Nd)(o:List Ou)(hP:∀k,EO (k+13) 34 [A.agg c.n1.cs,A.c (ii e.id),A.c (ii e.block),A.c (st e.data)] []=some ([au.agg x.cs,rO o],[]))(hA:∀k,EO (k+13) 44 [A.agg c.cs,A.c (ii 1),A.agg x.cs,A.c (sO o)] []=some ([au.agg c2.cs,rO o2],[]))(k:Nat):EO (k+14) 18 [A.agg c.cs,A.agg [ii 5,ii 1,ii e.id,ii e.block,st e.data,u e.n,sB e.aU]] []=some ([au.agg c2.cs,rO o2],[]):=by
 exact rt (mc<|ef<|cQ<|kT<|et<|ec (hP k)<|ec (hA k)<|jg ((List.map Ou.cs o2).length)<|e0) rfl
theorem O9(c:Cl)(e:bg)(c2:Cl)(o2:List Ou)(hC:∀k,EO (k+13) 35 [A.agg c.cs,A.c (ii 1)] []=some ([au.agg c2.cs,rO o2],[]))(k:Nat):EO (k+14) 18 [A.agg c.cs,A.agg [ii 6,ii 1,ii e.id,ii e.block,st e.data,u e.n,sB e.aU]] []=some ([au.agg c2.cs,rO o2],[]):=by
 exact rt (mc<|ef<|cQ<|Cg<|et<|ec (hC k)<|jg ((List.map Ou.cs o2).length)<|e0) rfl
def B_(c c2:Cl)(o2:List Ou):Cl×List Ou:=bif !c.ai.up then(c,[]) else(c2,o2)
theorem Gs(c:Cl)(e:bg)(c2:Cl)(o2:List Ou)(hE:∀k,EO (k+13) 36 [A.agg (({c with w1:=false}:Cl).cs),A.nil] []=some ([au.agg c2.cs,rO o2],[]))(k:Nat):EO (k+14) 18 [A.agg c.cs,A.agg [ii 7,ii 1,ii e.id,ii e.block,st e.data,u e.n,sB e.aU]] []=some ([au.agg ((B_ ({c with w1:=false}:Cl) c2 o2).1.cs),rO (B_ ({c with w1:=false}:Cl) c2 o2).2],[]):=by
 rcases be c.ai.up with z0|z0
 ·exact rt (mc<|ef<|cQ<|fP<|mc<|cQ<|en z0<|ec (hE k)<|jg ((List.map Ou.cs o2).length)<|e0) (by simp only[B_,z0,vq]<;>rfl)
 ·exact rt (mc<|ef<|cQ<|fP<|mc<|cQ<|en z0<|e0) (by simp only[B_,z0,vq]<;>rfl)
theorem Z8(c:Cl)(e:bg)(c2:Cl)(o2:List Ou)(hE:∀k,EO (k+13) 36 [A.agg c.cs,A.nil] []=some ([au.agg c2.cs,rO o2],[]))(k:Nat):EO (k+14) 18 [A.agg c.cs,A.agg [ii 8,ii 1,ii e.id,ii e.block,st e.data,u e.n,sB e.aU]] []=some ([au.agg ((B_ c c2 o2).1.cs),rO (B_ c c2 o2).2],[]):=by
 rcases be c.ai.up with z0|z0
 ·exact rt (mc<|ef<|cQ<|fP<|ef<|et<|ef<|en z0<|ec (hE k)<|jg ((List.map Ou.cs o2).length)<|e0) (by simp only[B_,z0,vq]<;>rfl)
 ·exact rt (mc<|ef<|cQ<|fP<|ef<|et<|ef<|en z0<|e0) (by simp only[B_,z0,vq]<;>rfl)
def JU(c c2:Cl)(o2:List Ou)(q:Bool):Cl×List Ou:=bif !q then(c,[]) else(c2,o2)
theorem O_(c:Cl)(e:bg)(c2:Cl)(o2:List Ou)(x:Nd)(o:List Ou)(b:ByteArray)(l:Lk)(q:Bool)(hT:∀k,EO (k+13) 37 [A.agg c.ai.cs,A.c (ii 1)] []=some ([au.c (st b),au.agg l.cs,au.c (bo q)],[]))(hP:∀k,EO (k+13) 38 [A.agg c.n1.cs,A.c (st b)] []=some ([au.agg x.cs,rO o],[]))(hA:∀k,EO (k+13) 44 [A.agg (({c with ai:=l}:Cl).cs),A.c (ii 1),A.agg x.cs,A.c (sO o)] []=some ([au.agg c2.cs,rO o2],[]))(k:Nat):EO (k+14) 18 [A.agg c.cs,A.agg [ii 9,ii 1,ii e.id,ii e.block,st e.data,u e.n,sB e.aU]] []=some ([au.agg ((JU c c2 o2 q).1.cs),rO (JU c c2 o2 q).2],[]):=by
 rcases be (q) with z0|z0
 ·exact rt (mc<|ef<|cQ<|fP<|mw<|et<|ec (hT k)<|en z0<|ec (hP k)<|ec (hA k)<|jg ((List.map Ou.cs o2).length)<|e0) (by simp only[JU,z0,vq]<;>rfl)
 ·exact rt (mc<|ef<|cQ<|fP<|mw<|et<|ec (hT k)<|en z0<|e0) (by simp only[JU,z0,vq]<;>rfl)
def CX(c c2:Cl)(o2:List Ou):Cl×List Ou:=bif !c.n1.up then(c,[]) else(c2,o2)
theorem Xg(c:Cl)(e:bg)(c2:Cl)(o2:List Ou)(hA:∀k,EO (k+13) 44 [A.agg c.cs,A.c (ii 1),A.agg ((dz c.n1).cs),A.c (C.slice 5 [])] []=some ([au.agg c2.cs,rO o2],[]))(k:Nat):EO (k+14) 18 [A.agg c.cs,A.agg [ii 10,ii 1,ii e.id,ii e.block,st e.data,u e.n,sB e.aU]] []=some ([au.agg ((CX c c2 o2).1.cs),rO (CX c c2 o2).2],[]):=by
 rcases be c.n1.up with z0|z0
 ·exact rt (mc<|ef<|cQ<|fP<|lE<|et<|en z0<|ec (JO c.n1 (k+11))<|ec (hA k)<|jg ((List.map Ou.cs o2).length)<|e0) (by simp only[CX,z0,vq]<;>rfl)
 ·exact rt (mc<|ef<|cQ<|fP<|lE<|et<|en z0<|e0) (by simp only[CX,z0,vq]<;>rfl)
theorem O'(c:Cl)(e:bg)(x:Nd)(f:Int)(hP:∀k,EO (k+13) 40 [A.agg c.n1.cs,A.c (sB e.aU)] []=some ([au.agg x.cs,au.c (ii f)],[]))(k:Nat):EO (k+14) 18 [A.agg c.cs,A.agg [ii 11,ii 1,ii e.id,ii e.block,st e.data,u e.n,sB e.aU]] []=some ([au.agg (({c with n1:=x}:Cl).cs),rO [ap x e.id f ⟨#[]⟩]],[]):=by
 exact rt (mc<|ef<|cQ<|fP<|kT<|et<|ec (hP k)<|cQ<|ec (eK x e.id f ⟨#[]⟩ (k+12))<|e0) rfl
theorem Xh(c:Cl)(e:bg)(c2:Cl)(o2:List Ou)(hu:c.n1.up=true)(hA:∀k,EO (k+13) 44 [A.agg c.cs,A.c (ii 1),A.agg ((B8 c.n1 e.n).cs),A.c (C.slice 5 [])] []=some ([au.agg c2.cs,rO o2],[]))(k:Nat):EO (k+14) 18 [A.agg c.cs,A.agg [ii 12,ii 1,ii e.id,ii e.block,st e.data,u e.n,sB e.aU]] []=some ([au.agg c2.cs,rO o2],[]):=by
 exact rt (mc<|ef<|cQ<|fP<|Cg<|et<|eb hu<|ec (ahO c.n1.store.ao (wrap .i64 (if 1000<e.n then 1000 else bg.n e)) (k+12))<|ec (hA k)<|jg ((List.map Ou.cs o2).length)<|e0) rfl
theorem Xi(c:Cl)(e:bg)(c2:Cl)(o2:List Ou)(hu:c.n1.up=false)(hA:∀k,EO (k+13) 44 [A.agg c.cs,A.c (ii 1),A.agg c.n1.cs,A.c (C.slice 5 [])] []=some ([au.agg c2.cs,rO o2],[]))(k:Nat):EO (k+14) 18 [A.agg c.cs,A.agg [ii 12,ii 1,ii e.id,ii e.block,st e.data,u e.n,sB e.aU]] []=some ([au.agg c2.cs,rO o2],[]):=by
 exact rt (mc<|ef<|cQ<|fP<|Cg<|et<|eb hu<|ec (hA k)<|jg ((List.map Ou.cs o2).length)<|e0) rfl
theorem Xj(c:Cl)(e:bg)(hr:c.n1.aQ.length<=1000000)(hd:decide ((↑(c.n1.aQ.length):Int)<1000)=true)(k:Nat):EO (k+14) 18 [A.agg c.cs,A.agg [ii 13,ii 1,ii e.id,ii e.block,st e.data,u e.n,sB e.aU]] []=some ([au.agg (({c with n1:=drawn c.n1 e.n}:Cl).cs),au.top 5 []],[]):=by
 exact rt (mc<|ef<|cQ<|fP<|fP<|et<|ep (aG (eU) c.n1.aQ)<|eg (G.len c.n1.aQ.length)<|eb hd<|ep (eF (List.map eU c.n1.aQ))<|ep (bz (eU) (l:=c.n1.aQ) (n:=1073741824) (by omega))<|eg (G.app (List.map eU c.n1.aQ))<|ep (dH (eU) c.n1.aQ ([e.n]))<|ep (bz (eU) (l:=c.n1.aQ++[e.n]) (n:=1073741824) (by simp only[vr];omega))<|ep (eN ((List.map eU c.n1.aQ).length))<|eg (G.app (List.map eU (c.n1.aQ++[e.n])))<|cQ<|e0) rfl
theorem Xk(c:Cl)(e:bg)(hd:decide ((↑(c.n1.aQ.length):Int)<1000)=false)(k:Nat):EO (k+14) 18 [A.agg c.cs,A.agg [ii 13,ii 1,ii e.id,ii e.block,st e.data,u e.n,sB e.aU]] []=some ([au.agg c.cs,au.top 5 []],[]):=by
 exact rt (mc<|ef<|cQ<|fP<|fP<|et<|ep (aG (eU) c.n1.aQ)<|eg (G.len c.n1.aQ.length)<|eb hd<|cQ<|e0) rfl
def CY(c c2:Cl)(o2:List Ou)(f:Int):Cl×List Ou:=bif f==0 then(c,[]) else(c2,o2)
theorem Xl(c:Cl)(e:bg)(c2:Cl)(o2:List Ou)(x:Nd)(o:List Ou)(p:Pk)(f:Int)(hR:∀k,EO (k+13) 43 [A.c (st e.data),A.c (u c.ai.bd)] []=some ([au.agg p.cs,au.c (ii f)],[]))(hP:∀k,EO (k+13) 38 [A.agg c.n1.cs,A.c (st e.data)] []=some ([au.agg x.cs,rO o],[]))(hA:∀k,EO (k+13) 44 [A.agg c.cs,A.c (ii 1),A.agg x.cs,A.c (sO o)] []=some ([au.agg c2.cs,rO o2],[]))(k:Nat):EO (k+14) 18 [A.agg c.cs,A.agg [ii 14,ii 1,ii e.id,ii e.block,st e.data,u e.n,sB e.aU]] []=some ([au.agg ((CY c c2 o2 f).1.cs),rO (CY c c2 o2 f).2],[]):=by
 rcases be (f==0) with z0|z0
 ·exact rt (mc<|ef<|cQ<|fP<|fP<|ef<|et<|ec (hR k)<|eb z0<|e0) (by simp only[CY,z0,vq]<;>rfl)
 ·exact rt (mc<|ef<|cQ<|fP<|fP<|ef<|et<|ec (hR k)<|eb z0<|ec (hP k)<|ec (hA k)<|jg ((List.map Ou.cs o2).length)<|e0) (by simp only[CY,z0,vq]<;>rfl)
theorem Xm(c:Cl)(e:bg)(h1:(e.ae==1)=false)(h2:(e.ae==2)=false)(h3:(e.ae==3)=false)(h4:(e.ae==4)=false)(h5:(e.ae==5)=false)(h6:(e.ae==6)=false)(h7:(e.ae==7)=false)(h8:(e.ae==8)=false)(h9:(e.ae==9)=false)(WE:(e.ae==10)=false)(h11:(e.ae==11)=false)(h12:(e.ae==12)=false)(Ar:(e.ae==13)=false)(h14:(e.ae==14)=false)(k:Nat):EO (k+14) 18 [A.agg c.cs,A.agg [ii e.ae,ii 1,ii e.id,ii e.block,st e.data,u e.n,sB e.aU]] []=some ([au.agg c.cs,au.top 5 []],[]):=by
 exact rt (mc<|ef<|cQ<|eb h1<|eb h2<|eb h3<|eb h4<|eb h5<|eb h6<|eb h7<|eb h8<|eb h9<|eb WE<|eb h11<|eb h12<|eb Ar<|eb h14<|e0) rfl
abbrev Rc(x:Cl×List Ou):List au×List (List C):=([.agg x.1.cs, .top 5 (x.2.map Ou.cs)],[])
theorem vC.ax{N a m:Nat}{n:Nd}(h:vC N a m n):n.store.ao.ax.length=N:=h.1.1
theorem vC.aQ{N a m:Nat}{n:Nd}(h:vC N a m n):n.aQ.length<=m:=by have:=h.2.2;omega
theorem vC.bh{N a m:Nat}{n:Nd}(h:vC N a m n):n.bh.length<=m:=by have:=h.2.2;omega
theorem IY.Z9{N:Nat}{d:Dk}(h:IY N d):JS d:=fun w hw=>by
 have:=h.2.2 w hw
 exact⟨this.1,by rw[h.1];exact this.2.1⟩
theorem HN{N a m:Nat}(n:Nd)(ks:List Bool)(h:vC N a m n)(hN:0<N)(qR:N<=1000)(ha:a<=870)(k:Nat):EO (k+9) 40 [.agg n.cs, .c (.slice 1 (ks.map eB))] []=some ([.agg (bS n ks).1.cs, .c (ii (bS n ks).2)],[]):=by
 have h0:=h.1.1
 have h1:=(wD n.store.ao ks).1 N h.1
 have h2:=h.2.1
 exact W6 n ks (ce n.store.ao ks) (by rw[h1.1];omega) (dh _) (aZ (rD h1 0) (by decide)) (aZ (rD h1 1) (by decide)) (fun k=>ZY n.store.ao ks h.1.Z9 (by omega) (by omega) (by omega) (k+6)) k
theorem FJ{N a m:Nat}(n:Nd)(h:vC N a m n)(hN:0<N)(qR:N<=1000)(ha:a<=870)(k:Nat):EO (k+9) 40 [.agg n.cs, .nil] []=some ([.agg (bS n []).1.cs, .c (ii (bS n []).2)],[]):=by
 have h0:=h.1.1
 have h1:=(wD n.store.ao []).1 N h.1
 exact W7 n (ce n.store.ao []) (by rw[h1.1];omega) (dh _) (aZ (rD h1 0) (by decide)) (aZ (rD h1 1) (by decide)) (fun k=>Z1 n.store.ao (by omega) (by omega) (k+6)) k
theorem Z_{N a m s:Nat}(c:Cl)(h:m5 N a m s c)(qR:N<=1000)(ha:a<=870)(hm:m<=100000)(k:Nat):EO (k+11) 36 [.agg c.cs, .nil] []=some (Rc (f9 c)):=by
 have a0:=h.n0.ax
 have a1:=h.n1.ax
 have b0:=h.n0.2.1
 have b1:=h.n1.2.1
 have d0:=h.n0.aQ
 have d1:=h.n1.aQ
 have e0:=h.n0.bh
 have e1:=h.n1.bh
 exact adY c (by omega) (by omega) (by omega) (by omega) (by omega) (by omega) (by omega) (by omega) k
theorem jB{N a m s:Nat}(c:Cl)(n:Nd)(l:List Ou)(h:m5 N a m s c)(hn:vC N a m n)(hl:bI 3 l)(qR:N<=1000)(ha:a<=870)(hm:m<=100000)(hs:s<=100000)(k:Nat):EO (k+12) 44 [.agg c.cs, .c (ii 0), .agg n.cs, .c (.slice 5 (l.map Ou.cs))] []=some (Rc (aW c 0 n l)):=by
 have a0:=hn.ax
 have a1:=h.n1.ax
 have b0:=hn.2.1
 have b1:=h.n1.2.1
 have d0:=hn.aQ
 have d1:=h.n1.aQ
 have e0:=hn.bh
 have e1:=h.n1.bh
 have f0:=h.ai.1
 have f1:=h.ai.2.1
 have g:=hl.1
 have g2:=Ez l
 have:=ZZ c n l {bB c 0 n with ai:=cw 0 c.ai l} (a_ l) (d6 l) (by omega) (show n.aQ.length<=1000000 by omega) (show n.bh.length<=1000000 by omega) (show n.store.ao.ax.length<=1000000 by omega) (show n.store.ao.ar.length<=880 by omega) (show c.n1.aQ.length<=1000000 by omega) (show c.n1.bh.length<=1000000 by omega) (show c.n1.store.ao.ax.length<=1000000 by omega) (show c.n1.store.ao.ar.length<=880 by omega) (fun k=>La0 c n l (by omega) (by omega) (by omega) k) k
 rw[G7] at this
 exact this
theorem jC{N a m s:Nat}(c:Cl)(n:Nd)(l:List Ou)(h:m5 N a m s c)(hn:vC N a m n)(hl:bI 3 l)(qR:N<=1000)(ha:a<=870)(hm:m<=100000)(hs:s<=100000)(k:Nat):EO (k+12) 44 [.agg c.cs, .c (ii 1), .agg n.cs, .c (.slice 5 (l.map Ou.cs))] []=some (Rc (aW c 1 n l)):=by
 have a0:=hn.ax
 have a1:=h.n0.ax
 have b0:=hn.2.1
 have b1:=h.n0.2.1
 have d0:=hn.aQ
 have d1:=h.n0.aQ
 have e0:=hn.bh
 have e1:=h.n0.bh
 have f0:=h.ai.1
 have f1:=h.ai.2.1
 have g:=hl.1
 have g2:=Ez l
 have:=Z0 c n l {bB c 1 n with ai:=cw 1 c.ai l} (a_ l) (d6 l) (by omega) (show c.n0.aQ.length<=1000000 by omega) (show c.n0.bh.length<=1000000 by omega) (show c.n0.store.ao.ax.length<=1000000 by omega) (show c.n0.store.ao.ar.length<=880 by omega) (show n.aQ.length<=1000000 by omega) (show n.bh.length<=1000000 by omega) (show n.store.ao.ax.length<=1000000 by omega) (show n.store.ao.ar.length<=880 by omega) (fun k=>La1 c n l (by omega) (by omega) (by omega) k) k
 rw[G7] at this
 exact this
theorem MF{N a m s:Nat}(c:Cl)(h:m5 N a m s c)(qR:N<=1000)(ha:a<=860)(hm:m<=90000)(hs:s<=90000)(k:Nat):EO (k+13) 35 [.agg c.cs, .c (ii 0)] []=some (Rc (ir c 0)):=by
 have h0:=I0 h 0
 have h1:=EG h0
 have h2:=EH h1.1
 have l1:=h1.2.1
 have l2:=h2.2.1
 exact Ta c (cZ {bq c 0 true with ai:=fU c.ai}).1 (gz (cZ {bq c 0 true with ai:=fU c.ai}).1).1 (cZ {bq c 0 true with ai:=fU c.ai}).2 (gz (cZ {bq c 0 true with ai:=fU c.ai}).1).2 (by omega) (fun k=>jB {bq c 0 true with ai:=fU c.ai} _ _ h0 (qg h.n0 _) (oB _ _).2 qR (by omega) (by omega) (by omega) k) (fun k=>jC _ _ _ h1.1 (qg h1.1.n1 _) (oB _ _).2 qR (by omega) (by omega) (by omega) k) k
theorem ad0{N a m s:Nat}(c:Cl)(h:m5 N a m s c)(hN:0<N)(qR:N<=1000)(ha:a<=860)(hm:m<=90000)(hs:s<=90000)(ae id block g:Int)(data:ByteArray)(aU:List Bool)(hd:data.size<=300)(k:Nat):EO (k+14) 18 [.agg c.cs, .agg (bg.mk ae 0 id block data g aU).cs] []=some (Rc (jv c ⟨ae,0,id,block,data,g,aU⟩ 0 c.n0)):=by
 have hn:=h.n0
 have h3:=h.le (show a<=a+3 by omega) (aL m) (aL s)
 have a0:=hn.ax
 have b0:=hn.2.1
 have d0:=hn.aQ
 have e0:=hn.bh
 by_cases k1:ae=1
 ·subst k1
  have hr:=vz c.n0 id
  exact O2 c ⟨1,0,id,block,data,g,aU⟩ _ _ _ _ (fun k=>HK c.n0 id (by omega) (by omega) (k+3)) (fun k=>jB c _ _ h3 (hn.nw hr.1) hr.2 qR (by omega) (by omega) (by omega) (k+1)) k
 by_cases k2:ae=2
 ·subst k2
  have hr:=ye c.n0 id
  exact Tc c ⟨2,0,id,block,data,g,aU⟩ _ _ _ _ (fun k=>MC c.n0 id (by omega) (by omega) (k+3)) (fun k=>jB c _ _ h3 (hn.nw hr.1) hr.2 qR (by omega) (by omega) (by omega) (k+1)) k
 by_cases k3:ae=3
 ·subst k3
  have hr:=vA c.n0 id
  exact O3 c ⟨3,0,id,block,data,g,aU⟩ _ _ _ _ (fun k=>HL c.n0 id (by omega) (by omega) (k+3)) (fun k=>jB c _ _ h3 (hn.nw hr.1) hr.2 qR (by omega) (by omega) (by omega) (k+1)) k
 by_cases k4:ae=4
 ·subst k4
  have hr:=AZ c.n0 id block
  exact Z5 c ⟨4,0,id,block,data,g,aU⟩ _ _ _ _ (fun k=>QZ c.n0 id block (by omega) (k+7)) (fun k=>jB c _ _ h3 (hn.nw hr.1) hr.2 qR (by omega) (by omega) (by omega) (k+1)) k
 by_cases k5:ae=5
 ·subst k5
  have hr:=A0 c.n0 id block data
  exact W8 c ⟨5,0,id,block,data,g,aU⟩ _ _ _ _ (fun k=>Q2 c.n0 id block data (by omega) (by omega) (by omega) (by omega) (by omega) (k+3)) (fun k=>jB c _ _ h3 (hn.nw hr.1) hr.2 qR (by omega) (by omega) (by omega) (k+1)) k
 by_cases k6:ae=6
 ·subst k6
  exact O4 c ⟨6,0,id,block,data,g,aU⟩ _ _ (fun k=>MF c h qR ha hm hs k) k
 by_cases k7:ae=7
 ·subst k7
  exact Gr c ⟨7,0,id,block,data,g,aU⟩ _ _ (fun k=>Z_ (bq c 0 false) (qe h 0 false) qR (by omega) (by omega) (k+2)) k
 by_cases k8:ae=8
 ·subst k8
  exact Z6 c ⟨8,0,id,block,data,g,aU⟩ _ _ (fun k=>Z_ c h qR (by omega) (by omega) (k+2)) k
 by_cases k9:ae=9
 ·subst k9
  have ht:=I1 h.ai 0
  have f0:=h.ai.1
  have f1:=h.ai.2.1
  have hr:=m4 c.n0 (ge c.ai 0).1
  exact O5 c ⟨9,0,id,block,data,g,aU⟩ _ _ _ _ _ _ _ (fun k=>QW c.ai 0 (by omega) (by omega) (k+11)) (fun k=>wT c.n0 _ (aZ ht.2 (by decide)) (by omega) (by omega) k) (fun k=>jB {c with ai:=(ge c.ai 0).2.1} _ _ ⟨h3.n0,h3.n1,ht.1⟩ (hn.nw hr.1) hr.2 qR (by omega) (by omega) (by omega) (k+1)) k
 by_cases X':ae=10
 ·subst X'
  exact W9 c ⟨10,0,id,block,data,g,aU⟩ _ _ (fun k=>jB c _ [] h3 (hn.nw (Nw.down (a:=3) (Nw.refl _ _))) (bI.nil _) qR (by omega) (by omega) (by omega) (k+1)) k
 by_cases Ya:ae=11
 ·subst Ya
  exact O6 c ⟨11,0,id,block,data,g,aU⟩ _ _ (fun k=>HN c.n0 aU hn hN qR (by omega) (k+4)) k
 by_cases Yb:ae=12
 ·subst Yb
  cases hu:c.n0.up with
  |true=>
   have:=W_ c ⟨12,0,id,block,data,g,aU⟩ _ _ hu (fun k=>jB c (B8 c.n0 g) [] h3 (hn.nw (b:=3) ⟨(N9 _ _).le (by omega),aL _,rfl⟩) (bI.nil _) qR (by omega) (by omega) (by omega) (k+1)) k
   have e:iF c.n0 g=B8 c.n0 g:=by simp only[iF,B8,hu,bA]
   show _=some (Rc (aW c 0 (iF c.n0 g) []))
   rw[e]
   exact this
  |false=>
   have:=Xa c ⟨12,0,id,block,data,g,aU⟩ _ _ hu (fun k=>jB c c.n0 [] h3 (hn.nw (b:=3) (Nw.refl _ _)) (bI.nil _) qR (by omega) (by omega) (by omega) (k+1)) k
   have e:iF c.n0 g=c.n0:=by unfold iF;rw[hu];rfl
   show _=some (Rc (aW c 0 (iF c.n0 g) []))
   rw[e]
   exact this
 by_cases Yc:ae=13
 ·subst Yc
  show _=some (Rc (bB c 0 (fd c.n0 g),[]))
  cases hq:decide ((c.n0.aQ.length:Int)<1000) with
  |true=>
   have e:bB c 0 (fd c.n0 g)=Cl.mk (drawn c.n0 g) c.n1 c.ai c.w0 c.w1:=by
    have e1:fd c.n0 g=drawn c.n0 g:=by unfold fd;rw[hq];rfl
    rw[e1];rfl
   rw[e]
   exact Xb c ⟨13,0,id,block,data,g,aU⟩ (by omega) hq k
  |false=>
   have e:bB c 0 (fd c.n0 g)=c:=by
    have e1:fd c.n0 g=c.n0:=by unfold fd;rw[hq];rfl
    rw[e1];rfl
   rw[e]
   exact Xc c ⟨13,0,id,block,data,g,aU⟩ hq k
 by_cases k14:ae=14
 ·subst k14
  have hr:=m4 c.n0 data
  exact Xd c ⟨14,0,id,block,data,g,aU⟩ _ _ _ _ _ _ (fun k=>je data c.ai.bd (by omega) (k+4)) (fun k=>wT c.n0 data (by omega) (by omega) (by omega) k) (fun k=>jB c _ _ h3 (hn.nw hr.1) hr.2 qR (by omega) (by omega) (by omega) (k+1)) k
 have hk:∀j:Int,ae≠j->(ae==j)=false:=fun j hj=>jE hj
 have e:jv c ⟨ae,0,id,block,data,g,aU⟩ 0 c.n0=(c,[]):=by
  unfold jv
  simp only[hk _ k1,hk _ k2,hk _ k3,hk _ k4,hk _ k5,hk _ k6,hk _ k7,hk _ k8,hk _ k9,hk _ X',hk _ Ya,hk _ Yb,hk _ Yc,hk _ k14,aJ]
 rw[e]
 exact Xe c ⟨ae,0,id,block,data,g,aU⟩ (hk _ k1) (hk _ k2) (hk _ k3) (hk _ k4) (hk _ k5) (hk _ k6) (hk _ k7) (hk _ k8) (hk _ k9) (hk _ X') (hk _ Ya) (hk _ Yb) (hk _ Yc) (hk _ k14) k
theorem MG{N a m s:Nat}(c:Cl)(h:m5 N a m s c)(qR:N<=1000)(ha:a<=860)(hm:m<=90000)(hs:s<=90000)(k:Nat):EO (k+13) 35 [.agg c.cs, .c (ii 1)] []=some (Rc (ir c 1)):=by
 have h0:=I0 h 1
 have h1:=EG h0
 have h2:=EH h1.1
 have l1:=h1.2.1
 have l2:=h2.2.1
 exact Tb c (cZ {bq c 1 true with ai:=fU c.ai}).1 (gz (cZ {bq c 1 true with ai:=fU c.ai}).1).1 (cZ {bq c 1 true with ai:=fU c.ai}).2 (gz (cZ {bq c 1 true with ai:=fU c.ai}).1).2 (by omega) (fun k=>jB {bq c 1 true with ai:=fU c.ai} _ _ h0 (qg h.n0 _) (oB _ _).2 qR (by omega) (by omega) (by omega) k) (fun k=>jC _ _ _ h1.1 (qg h1.1.n1 _) (oB _ _).2 qR (by omega) (by omega) (by omega) k) k
theorem ad2{N a m s:Nat}(c:Cl)(h:m5 N a m s c)(hN:0<N)(qR:N<=1000)(ha:a<=860)(hm:m<=90000)(hs:s<=90000)(ae id block g:Int)(data:ByteArray)(aU:List Bool)(hd:data.size<=300)(k:Nat):EO (k+14) 18 [.agg c.cs, .agg (bg.mk ae 1 id block data g aU).cs] []=some (Rc (jv c ⟨ae,1,id,block,data,g,aU⟩ 1 c.n1)):=by
 have hn:=h.n1
 have h3:=h.le (show a<=a+3 by omega) (aL m) (aL s)
 have a0:=hn.ax
 have b0:=hn.2.1
 have d0:=hn.aQ
 have e0:=hn.bh
 by_cases k1:ae=1
 ·subst k1
  have hr:=vz c.n1 id
  exact O7 c ⟨1,1,id,block,data,g,aU⟩ _ _ _ _ (fun k=>HK c.n1 id (by omega) (by omega) (k+3)) (fun k=>jC c _ _ h3 (hn.nw hr.1) hr.2 qR (by omega) (by omega) (by omega) (k+1)) k
 by_cases k2:ae=2
 ·subst k2
  have hr:=ye c.n1 id
  exact Td c ⟨2,1,id,block,data,g,aU⟩ _ _ _ _ (fun k=>MC c.n1 id (by omega) (by omega) (k+3)) (fun k=>jC c _ _ h3 (hn.nw hr.1) hr.2 qR (by omega) (by omega) (by omega) (k+1)) k
 by_cases k3:ae=3
 ·subst k3
  have hr:=vA c.n1 id
  exact O8 c ⟨3,1,id,block,data,g,aU⟩ _ _ _ _ (fun k=>HL c.n1 id (by omega) (by omega) (k+3)) (fun k=>jC c _ _ h3 (hn.nw hr.1) hr.2 qR (by omega) (by omega) (by omega) (k+1)) k
 by_cases k4:ae=4
 ·subst k4
  have hr:=AZ c.n1 id block
  exact Z7 c ⟨4,1,id,block,data,g,aU⟩ _ _ _ _ (fun k=>QZ c.n1 id block (by omega) (k+7)) (fun k=>jC c _ _ h3 (hn.nw hr.1) hr.2 qR (by omega) (by omega) (by omega) (k+1)) k
 by_cases k5:ae=5
 ·subst k5
  have hr:=A0 c.n1 id block data
  exact Xf c ⟨5,1,id,block,data,g,aU⟩ _ _ _ _ (fun k=>Q2 c.n1 id block data (by omega) (by omega) (by omega) (by omega) (by omega) (k+3)) (fun k=>jC c _ _ h3 (hn.nw hr.1) hr.2 qR (by omega) (by omega) (by omega) (k+1)) k
 by_cases k6:ae=6
 ·subst k6
  exact O9 c ⟨6,1,id,block,data,g,aU⟩ _ _ (fun k=>MG c h qR ha hm hs k) k
 by_cases k7:ae=7
 ·subst k7
  exact Gs c ⟨7,1,id,block,data,g,aU⟩ _ _ (fun k=>Z_ (bq c 1 false) (qe h 1 false) qR (by omega) (by omega) (k+2)) k
 by_cases k8:ae=8
 ·subst k8
  exact Z8 c ⟨8,1,id,block,data,g,aU⟩ _ _ (fun k=>Z_ c h qR (by omega) (by omega) (k+2)) k
 by_cases k9:ae=9
 ·subst k9
  have ht:=I1 h.ai 1
  have f0:=h.ai.1
  have f1:=h.ai.2.1
  have hr:=m4 c.n1 (ge c.ai 1).1
  exact O_ c ⟨9,1,id,block,data,g,aU⟩ _ _ _ _ _ _ _ (fun k=>QW c.ai 1 (by omega) (by omega) (k+11)) (fun k=>wT c.n1 _ (aZ ht.2 (by decide)) (by omega) (by omega) k) (fun k=>jC {c with ai:=(ge c.ai 1).2.1} _ _ ⟨h3.n0,h3.n1,ht.1⟩ (hn.nw hr.1) hr.2 qR (by omega) (by omega) (by omega) (k+1)) k
 by_cases X':ae=10
 ·subst X'
  exact Xg c ⟨10,1,id,block,data,g,aU⟩ _ _ (fun k=>jC c _ [] h3 (hn.nw (Nw.down (a:=3) (Nw.refl _ _))) (bI.nil _) qR (by omega) (by omega) (by omega) (k+1)) k
 by_cases Ya:ae=11
 ·subst Ya
  exact O' c ⟨11,1,id,block,data,g,aU⟩ _ _ (fun k=>HN c.n1 aU hn hN qR (by omega) (k+4)) k
 by_cases Yb:ae=12
 ·subst Yb
  cases hu:c.n1.up with
  |true=>
   have:=Xh c ⟨12,1,id,block,data,g,aU⟩ _ _ hu (fun k=>jC c (B8 c.n1 g) [] h3 (hn.nw (b:=3) ⟨(N9 _ _).le (by omega),aL _,rfl⟩) (bI.nil _) qR (by omega) (by omega) (by omega) (k+1)) k
   have e:iF c.n1 g=B8 c.n1 g:=by simp only[iF,B8,hu,bA]
   show _=some (Rc (aW c 1 (iF c.n1 g) []))
   rw[e]
   exact this
  |false=>
   have:=Xi c ⟨12,1,id,block,data,g,aU⟩ _ _ hu (fun k=>jC c c.n1 [] h3 (hn.nw (b:=3) (Nw.refl _ _)) (bI.nil _) qR (by omega) (by omega) (by omega) (k+1)) k
   have e:iF c.n1 g=c.n1:=by unfold iF;rw[hu];rfl
   show _=some (Rc (aW c 1 (iF c.n1 g) []))
   rw[e]
   exact this
 by_cases Yc:ae=13
 ·subst Yc
  show _=some (Rc (bB c 1 (fd c.n1 g),[]))
  cases hq:decide ((c.n1.aQ.length:Int)<1000) with
  |true=>
   have e:bB c 1 (fd c.n1 g)=Cl.mk c.n0 (drawn c.n1 g) c.ai c.w0 c.w1:=by
    have e1:fd c.n1 g=drawn c.n1 g:=by unfold fd;rw[hq];rfl
    rw[e1];rfl
   rw[e]
   exact Xj c ⟨13,1,id,block,data,g,aU⟩ (by omega) hq k
  |false=>
   have e:bB c 1 (fd c.n1 g)=c:=by
    have e1:fd c.n1 g=c.n1:=by unfold fd;rw[hq];rfl
    rw[e1];rfl
   rw[e]
   exact Xk c ⟨13,1,id,block,data,g,aU⟩ hq k
 by_cases k14:ae=14
 ·subst k14
  have hr:=m4 c.n1 data
  exact Xl c ⟨14,1,id,block,data,g,aU⟩ _ _ _ _ _ _ (fun k=>je data c.ai.bd (by omega) (k+4)) (fun k=>wT c.n1 data (by omega) (by omega) (by omega) k) (fun k=>jC c _ _ h3 (hn.nw hr.1) hr.2 qR (by omega) (by omega) (by omega) (k+1)) k
 have hk:∀j:Int,ae≠j->(ae==j)=false:=fun j hj=>jE hj
 have e:jv c ⟨ae,1,id,block,data,g,aU⟩ 1 c.n1=(c,[]):=by
  unfold jv
  simp only[hk _ k1,hk _ k2,hk _ k3,hk _ k4,hk _ k5,hk _ k6,hk _ k7,hk _ k8,hk _ k9,hk _ X',hk _ Ya,hk _ Yb,hk _ Yc,hk _ k14,aJ]
 rw[e]
 exact Xm c ⟨ae,1,id,block,data,g,aU⟩ (hk _ k1) (hk _ k2) (hk _ k3) (hk _ k4) (hk _ k5) (hk _ k6) (hk _ k7) (hk _ k8) (hk _ k9) (hk _ X') (hk _ Ya) (hk _ Yb) (hk _ Yc) (hk _ k14) k
theorem ad3(c:Cl)(e:bg)(h0:(e.node==0)=false)(h1:(e.node==1)=false)(k:Nat):EO (k+14) 18 [A.agg c.cs,A.agg e.cs] []=some ([au.agg c.cs,au.top 5 []],[]):=by
 exact rt (ez h0<|en h1<|e0) rfl
theorem ad4{N a m s:Nat}(c:Cl)(e:bg)(h:m5 N a m s c)(hN:0<N)(qR:N<=1000)(ha:a<=860)(hm:m<=90000)(hs:s<=90000)(hd:e.data.size<=300)(k:Nat):EO (k+14) 18 [.agg c.cs, .agg e.cs] []=some (Rc (iI c e)):=by
 obtain⟨ae,node,id,block,data,g,aU⟩:=e
 rcases HJ node with rfl|rfl|⟨h0,h1⟩
 ·exact ad0 c h hN qR ha hm hs ae id block g data aU hd k
 ·exact ad2 c h hN qR ha hm hs ae id block g data aU hd k
 ·have e:iI c ⟨ae,node,id,block,data,g,aU⟩=(c,[]):=by
   unfold iI
   simp only[h0,h1,pa,HR,bA]
  rw[e]
  exact ad3 c ⟨ae,node,id,block,data,g,aU⟩ h0 h1 k
def Spl(l:List bg)(c0:List (List C))(c1:Int)(c2:Cl):St:=St.mk (T.bf::tc (sE l)::T.k (K.v (V.fX 0 0))::T.bf::T.k (K.v (V.fX 1 0))::T.bf::T.k (K.v (V.cX 5 c0 (Tk.tok 0)))::tc (ii c1)::hs 23 []) [List.map V.c c2.cs,[V.c (ii 0),vF,vE,V.cX 2 [] Tk.exact,V.c (ii 0),vF,V.c (ii 0),V.c (u 0),V.c (u 0),V.c (u 0),V.c (u 0),vF,vF,vF,V.c (w4 0),vF,V.c (ii 0),V.c (u 0),V.c (ii 0),V.c (u 0),V.c (u 0),V.c (u 0),V.c (u 0),vF,vF,vF,vF,V.c (w4 0),vF,vF,V.c (ii 0),V.c (ii 0),V.c (st ⟨#[]⟩),vF,V.c (ii 0),V.c (ii 0),vF,vE,V.cX 3 [] Tk.exact,V.c (ii 0),vF,vE,V.cX 2 [] Tk.exact,V.c (ii 0),vF,V.c (ii 0),V.c (u 0),V.c (u 0),V.c (u 0),V.c (u 0),vF,vF,vF,V.c (w4 0),vF,V.c (ii 0),V.c (u 0),V.c (ii 0),V.c (u 0),V.c (u 0),V.c (u 0),V.c (u 0),vF,vF,vF,vF,V.c (w4 0),vF,vF,V.c (ii 0),V.c (ii 0),V.c (st ⟨#[]⟩),vF,V.c (ii 0),V.c (ii 0),vF,vE,V.cX 3 [] Tk.exact,vF,V.c (u 0),vE,vE,vF,vF]] [c0.length]
theorem aih(l:List bg)(cG:List Ou)(i:Nat)(c:Cl)(x:bg)(c2:Cl)(o2:List Ou)(hx:l[i]?=some x)(ho:cG.length<=100000)(ho2:o2.length<=100)(hD:∀k,EO (k+15) 18 [A.agg c.cs,A.agg x.cs] []=some ([au.agg c2.cs,rO o2],[]))(k:Nat)(z0:(gL i l.length)=true):bQ (EE (k+15)) (HH 28) NN (LB PP 28 3) 2 1 (Spl l (List.map Ou.cs cG) (↑i:Int) c) (Spl l (List.map Ou.cs (cG++o2)) (wrap .i64 ((↑i:Int)+1)) c2):=
 nx (ep (aG (bg.cs) (l))<|eg (G.len l.length)<|eb z0<|ep (rz i)<|ep (aT (f:=bg.cs) hx)<|eg (G.fF i [ii x.ae,ii x.node,ii x.id,ii x.block,st x.data,u x.n,sB x.aU])<|ec (hD k)<|ep (dH (Ou.cs) (cG) (o2))<|ep (bz (Ou.cs) (l:=cG++o2) (n:=1073741824) (by simp only[vr];omega))<|ep (eN ((List.map Ou.cs cG).length))<|eg (G.app (List.map Ou.cs (cG++o2)))<|e0)
def FK(l:List bg)(cG:List Ou)(i:Nat)(c:Cl):St:=St.mk (T.bf::tc (sE l)::T.k (K.v (V.fX 0 0))::T.bf::T.k (K.v (V.fX 1 0))::T.bf::T.k (K.v (V.cX 5 (List.map Ou.cs cG) (Tk.tok 0)))::tc (ii (↑i:Int))::T.bf::T.bf::tc (ii (↑i:Int))::tc (sE l)::tc (ii (↑(l.length):Int))::tc (bo (gL i l.length))::hs 17 []) [List.map V.c c.cs,[V.c (ii 0),vF,vE,V.cX 2 [] Tk.exact,V.c (ii 0),vF,V.c (ii 0),V.c (u 0),V.c (u 0),V.c (u 0),V.c (u 0),vF,vF,vF,V.c (w4 0),vF,V.c (ii 0),V.c (u 0),V.c (ii 0),V.c (u 0),V.c (u 0),V.c (u 0),V.c (u 0),vF,vF,vF,vF,V.c (w4 0),vF,vF,V.c (ii 0),V.c (ii 0),V.c (st ⟨#[]⟩),vF,V.c (ii 0),V.c (ii 0),vF,vE,V.cX 3 [] Tk.exact,V.c (ii 0),vF,vE,V.cX 2 [] Tk.exact,V.c (ii 0),vF,V.c (ii 0),V.c (u 0),V.c (u 0),V.c (u 0),V.c (u 0),vF,vF,vF,V.c (w4 0),vF,V.c (ii 0),V.c (u 0),V.c (ii 0),V.c (u 0),V.c (u 0),V.c (u 0),V.c (u 0),vF,vF,vF,vF,V.c (w4 0),vF,vF,V.c (ii 0),V.c (ii 0),V.c (st ⟨#[]⟩),vF,V.c (ii 0),V.c (ii 0),vF,vE,V.cX 3 [] Tk.exact,vF,V.c (u 0),vE,vE,vF,vF]] [(List.map Ou.cs cG).length]
theorem aii(l:List bg)(cG:List Ou)(i:Nat)(c:Cl)(k:Nat)(z0:(gL i l.length)=false):dq (EE (k+15)) (HH 28) NN (LB PP 28 3) (Spl l (List.map Ou.cs cG) (↑i:Int) c) (dJ.exit 0) (FK l cG i c):=
 ou (ep (aG (bg.cs) (l))<|eg (G.len l.length)<|eb z0<|e0)
abbrev Pa(x:Cl×List Ou)(e:bg):Cl×List Ou:=((iI x.1 e).1,x.2++(iI x.1 e).2)
theorem Lpl{N a m s:Nat}(c:Cl)(l:List bg)(h:m5 N a m s c)(hN:0<N)(qR:N<=1000)(ha:a+4*l.length<=860)(hm:m+l.length<=90000)(hs:s+6*l.length<=90000)(hd:∀e∈l,e.data.size<=300)(k:Nat):bT (EE (k+15)) (HH 28) NN (LB PP 28 3) (Spl l [] 0 c) (.exit 0) (FK l (BO c l).2 l.length (BO c l).1):=by
 refine ke (E:=EE (k+15)) (fun(x:Cl×List Ou) (i:Nat)=>Spl l (x.2.map Ou.cs) (i:Nat) x.1) (fun i x=>m5 N (a+4*i) (m+i) (s+6*i) x.1/\x.2.length<=18*i) l Pa (c,[]) (nv:=2) (nt:=1) (e:= .exit 0) (t:=fun x=>FK l x.2 l.length x.1) rfl (by kernel_rfl) (by kernel_rfl) ⟨h,aL _⟩ (fun x i e hx hp=> ?_) (fun hp=>aii l _ _ _ k Gf) (by unfold NN;omega)
 obtain⟨c1,cG⟩:=x
 obtain⟨p1,p2⟩:=hp
 simp only at p1 p2
 have fO:=gJ hx
 have hw:=p6 hx (by omega)
 have hb:=G' p1 e
 have hl:=hb.2.1
 refine⟨?_,hb.1,?_⟩
 ·have:=aih l cG i c1 e (iI c1 e).1 (iI c1 e).2 hx (by omega) (by omega) (fun k=>ad4 c1 e p1 hN qR (by omega) (by omega) (by omega) (hd e (jD hx)) (k+1)) k (sM hx)
  rwa[hw] at this
 ·simp only[iq];omega
theorem aij(c:Cl)(l:List bg)(c3:Cl)(cG:List Ou)(ho:cG.length<=100000)(hL:∀k,bT (EE (k+15)) (HH 28) NN (LB PP 28 3) (Spl l [] 0 c) (dJ.exit 0) (FK l cG l.length c3))(k:Nat):EO (k+16) 28 [A.agg c.cs,A.c (sE l)] []=some ([au.agg c3.cs,rO cG],[]):=by
 exact rt (eg (G.loop (dJ.exit 0) (FK l cG l.length c3))<|ep (hL k)<|jg ((List.map Ou.cs cG).length)<|e0) rfl
theorem Z'(c:Cl)(k:Nat):EO (k+16) 28 [A.agg c.cs,A.nil] []=some ([au.agg c.cs,au.top 5 []],[]):=by
 exact rt (eg (G.un)<|ep (rfl:(0:Nat)=(0:Nat))<|eg (G.len 0)<|ef<|ep ((rfl:(0:Nat)=(0:Nat))).symm<|e0) rfl
theorem Te{N:Nat}:∀(l:List bg) {a m s:Nat} {c:Cl},m5 N a m s c->(BO c l).2.length<=18*l.length
 |l,a,m,s,c,h=>by
  have key:∀(l:List bg) {a m s:Nat} (x:Cl×List Ou),m5 N a m s x.1->(l.foldl Pa x).2.length<=x.2.length+18*l.length:=by
   intro l
   induction l with
   |nil=>intro a m s x h;exact aL _
   |cons e l ih=>
    intro a m s x h
    rw[jp]
    have hb:=G' h e
    have:=ih (Pa x e) hb.1
    have h2:=hb.2.1
    simp only[iq,cV] at this ⊢
    omega
  have:=key l (c,[]) h
  simp only[eO,gt] at this
  exact this
theorem ad5{N a m s:Nat}(c:Cl)(l:List bg)(h:m5 N a m s c)(hN:0<N)(qR:N<=1000)(ha:a+4*l.length<=860)(hm:m+l.length<=90000)(hs:s+6*l.length<=90000)(hd:∀e∈l,e.data.size<=300)(k:Nat):EO (k+16) 28 [.agg c.cs, .c (.slice 7 (l.map bg.cs))] []=some (Rc (BO c l)):=by
 have ho:=Te l h
 exact aij c l _ _ (by omega) (fun k=>Lpl c l h hN qR ha hm hs hd k) k
def kw(n:Nat):Cl:=⟨(bS (kr 0 (dR n 7)) []).1,(bS (kr 1 (dR n 7)) []).1,lk0,false,false⟩
theorem Tf(n:Nat)(h1:dI (b_ n 7)=true):IY (n+2) (dR n 7):=by
 refine⟨by simp[dR],fun s hs=> ?_,fun w hw=>by cases hw⟩
 simp only[dR,df,cM,List.not_mem_nil,lV,List.mem_replicate] at hs
 rcases hs with(rfl|rfl)|⟨_,rfl⟩
 ·have:(bV (b_ n 7)).1=cA (dD (b_ n 7)):=by unfold bV;rw[h1];rfl
  rw[this,i_,ub]
  decide
 ·rw[i_,mY];decide
 ·decide
theorem CZ(n:Nat)(i:Int)(h1:dI (b_ n 7)=true):vC (n+2) 0 0 (kr i (dR n 7)):=⟨Tf n h1,dh _,dh _⟩
theorem Xn(n:Nat)(h1:dI (b_ n 7)=true):m5 (n+2) 0 0 0 (kw n):=⟨(CZ n 0 h1).nw (vB _ _),(CZ n 1 h1).nw (vB _ _),FX.none _ _ _⟩
theorem aik(n:Nat)(h1:dI (b_ n 7)=true)(hn:n<=900)(hF:∀k,EO (k+9) 55 [.c (ii (n:Int)), .c (u 7)] []=some ([.agg (dR n 7).cs, .c (ii 0)],[]))(k:Nat):EO (k+10) 27 [.c (ii (n:Int)), .c (u 7)] []=some ([.agg (kw n).cs, .c (ii 0)],[]):=
 adZ n 7 (dR n 7) _ _ _ _ hF (fun k=>by
  have:=FJ (kr 0 (dR n 7)) (CZ n 0 h1) (by omega) (by omega) (by omega) k
  rw[ME] at this
  exact this) (fun k=>by
  have:=FJ (kr 1 (dR n 7)) (CZ n 1 h1) (by omega) (by omega) (by omega) k
  rw[ME] at this
  exact this) k
theorem Tg(n:Nat)(h:n=1\/n=2\/n=3\/n=4):dI (b_ n 7)=true:=by
 rcases h with rfl|rfl|rfl|rfl<;>decide
theorem ail(n:Nat)(h:n=1\/n=2\/n=3\/n=4):((bV (b_ n 7)).2==0)=true:=by
 unfold bV
 rw[Tg n h]
 rfl
theorem Xo(n:Nat)(h:n=1\/n=2\/n=3\/n=4)(k:Nat):EO (k+10) 27 [.c (ii (n:Int)), .c (u 7)] []=some ([.agg (kw n).cs, .c (ii 0)],[]):=by
 refine aik n (Tg n h) (by omega) (fun k=> ?_) k
 have h2:=ail n h
 rcases h with rfl|rfl|rfl|rfl
 ·exact ZW 7 h2 (fun k=>vZ (b_ 1 7) k) (k+3)
 ·exact Z2 7 h2 (fun k=>vZ (b_ 2 7) k) (k+3)
 ·exact Z3 7 h2 (fun k=>vZ (b_ 3 7) k) (k+3)
 ·exact Z4 7 h2 (fun k=>vZ (b_ 4 7) k) (k+3)
abbrev Al(b:Int):Int:=wrap .i64 (1+wrap .i64 (b.tmod 4))
theorem ad6(b:Int)(l:List bg)(c:Cl)(c2:Cl)(o:List Ou)(hN:∀k,EO (k+16) 27 [A.c (ii (Al b)),A.c (u 7)] []=some ([au.agg c.cs,au.c (ii 0)],[]))(hP:∀k,EO (k+16) 28 [A.agg c.cs,A.c (sE l)] []=some ([au.agg c2.cs,rO o],[]))(k:Nat):EO (k+17) 16 [A.c (CC b),A.c (sE l)] []=some ([au.agg c2.cs],[]):=by
 exact rt (ep (show(4:Int)≠(0:Int) from by decide)<|eg (G.ok)<|ec (Ak (k+15))<|ec (hN k)<|ec (hP k)<|e0) rfl
theorem ad7(b:Int)(c:Cl)(hN:∀k,EO (k+16) 27 [A.c (ii (Al b)),A.c (u 7)] []=some ([au.agg c.cs,au.c (ii 0)],[]))(k:Nat):EO (k+17) 16 [A.c (CC b),A.nil] []=some ([au.agg c.cs],[]):=by
 exact rt (ep (show(4:Int)≠(0:Int) from by decide)<|eg (G.ok)<|ec (Ak (k+15))<|ec (hN k)<|ec (Z' c k)<|e0) rfl
def l'(b:Int):Nat:=(b.tmod 4).toNat+1
theorem rK(b:Int)(h:0<=b):l' b=1\/l' b=2\/l' b=3\/l' b=4:=by
 unfold l'
 have h1:=Int.tmod_nonneg 4 h
 have h2:=Int.tmod_lt_of_pos b (show(0:Int)<4 by decide)
 omega
theorem HO(b:Int)(h:0<=b):Al b=(l' b:Int):=by
 unfold Al l'
 have h1:=Int.tmod_nonneg 4 h
 have h2:=Int.tmod_lt_of_pos b (show(0:Int)<4 by decide)
 rw[dG (x:=b.tmod 4) (by omega) (by omega),dG (by omega) (by omega)]
 omega
def Bh(b:Int)(l:List bg):Cl:=(BO (kw (l' b)) l).1
theorem aaa(b:Int)(hb:0<=b)(l:List bg)(hl:l.length<=200)(hd:∀e∈l,e.data.size<=300)(k:Nat):EO (k+17) 16 [.c (CC b), .c (.slice 7 (l.map bg.cs))] []=some ([.agg (Bh b l).cs],[]):=by
 have h4:=rK b hb
 exact ad6 b l _ _ (BO (kw (l' b)) l).2 (fun k=>by rw[HO b hb];exact Xo _ h4 (k+6)) (fun k=>ad5 (kw (l' b)) l (Xn _ (Tg _ h4)) (by omega) (by omega) (by omega) (by omega) (by omega) hd k) k
theorem Xp(b:Int)(hb:0<=b)(k:Nat):EO (k+17) 16 [.c (CC b), .nil] []=some ([.agg (Bh b []).cs],[]):=by
 have h4:=rK b hb
 exact ad7 b _ (fun k=>by rw[HO b hb];exact Xo _ h4 (k+6)) k
theorem aab(b:Int)(hb:0<=b)(l:List bg):m5 (l' b+2) (4*l.length) l.length (6*l.length) (Bh b l):=by
 have:=YW l (Xn _ (Tg _ (rK b hb)))
 exact this.le (by omega) (by omega) (by omega)
end Go.Dm
namespace Go.Proofs
open Go.RowKit Go.Shelf Go.Dm
attribute [local go_sem] Oper.semAt_some
def wk(l:List Wr)(k:Nat):List (Nat×Wr):=(List.range k).map fun j=>(l.length-1-j,l[l.length-1-j]?.getD default)
theorem JV(l:List Wr)(k:Nat):wk l (k+1)=wk l k++[(l.length-1-k,l[l.length-1-k]?.getD default)]:=by simp[wk,qW]
theorem Th(l:List Wr)(k:Nat):(wk l k).length=k:=by simp[wk]
abbrev ad8(x:Nat×Wr):Array Value:= #[.int .i64 (x.1:Int), .agg #[.int .i64 x.2.nW, .string x.2.data]]
def Q8(n₀ Bs:Nat)(A B:World):Prop:=Below n₀ A B/\B.heap[Bs]?=A.heap[Bs]?
theorem Q8.refl(n₀ Bs:Nat)(A:World):Q8 n₀ Bs A A:=⟨Below.refl _ _,rfl⟩
theorem Q8.trans{n₀ Bs:Nat}{A B C:World}(h:Q8 n₀ Bs A B)(k:Q8 n₀ Bs B C):Q8 n₀ Bs A C:=⟨h.1.trans k.1,k.2.trans h.2⟩
theorem Q8.putObj{n₀ Bs:Nat}{w:World}(hn:n₀<=w.heap.size)(hB:Bs<w.heap.size)(W:World)(l:Nat)(o o':Obj)(hl:w.heap.size<=l)(h:W.heap[l]?=some o)(h1:o.isCells=false)(h2:o.isWalk=false):Q8 n₀ Bs W (W.putObj l o'):=
 ⟨belowK_b hn W l o o' hl h h1 h2,World.putObj_heap_other (by omega)⟩
theorem Dr.Pb(F:Fence)(n:Nat)(h24:F.fn 126)(Gt:F.round=none)(hn:1<=n)(l Bs n₀ b off cap:Nat)(zs:List Wr)(Xq:zs.length<=1000000)(hb:b<n₀)(J Jx:List (Nat×Wr)->World->Prop)
 (hY:∀MY x W,J MY W->MY.length<zs.length->YieldAt F (n-1) Tryz.prog l (ad8 x) W fun e W'=>
   (e= .returned (.bool true)/\J (MY++[x]) W'/\Q8 n₀ Bs W W')\/(e= .returned (.bool false)/\Jx (MY++[x]) W'))
 (W:World)(hBs:W.cell? ⟨Bs,0,none⟩=some (.slice (some ⟨b,off,none⟩) zs.length cap))
 (hc:∀j,j<zs.length->W.rangeAt b (off+j*2) [.int .i64 (zs[j]?.getD default).nW, .string (zs[j]?.getD default).data])(h0:J [] W):
 CallsIn F n Tryz.prog 126 #[.func (.yield l) #[] #[], .pointer (some ⟨Bs,0,none⟩)] W fun e W'=>(∃v,e= .returned v)/\
  ((∃ys,ys=wk zs zs.length/\J ys W')\/(∃MY,(∃k,k<=zs.length/\MY=wk zs k)/\Jx MY W')):=by
 refine callsIn_of_wp Tryz.func126 rfl h24 ?_ Gt
 simp only[Tryz.ntmps126,lg,cV,eO,Nat.reduceAdd,Nat.reduceSub,uP,uQ,nu,qo,jf,nk]
 gi_wp2
 gi_loopw [3] (fun i wr=>∃k:Nat,k<=zs.length/\i= .int .i64 ((zs.length:Int)-1-k)/\J (wk zs k) wr/\Q8 n₀ Bs W wr)
  (fun i _=>(intOf i+1).toNat)
 case atStart=>exact⟨0,dh _,by simp,h0,Q8.refl _ _ _⟩
 case round=>
  obtain⟨k,hk,rfl,hJs,hnx⟩:=hrel
  by_cases fO:k<zs.length
  ·obtain⟨fn,tmps,assign,body,hy,hR⟩:=hY _ (zs.length-1-k,zs[zs.length-1-k]?.getD default) wr hJs (by rw[Th];exact fO)
   obtain⟨q,hq⟩:∃q,zs.length-1-k=q:=⟨_,rfl⟩
   have hqi:(zs.length:Int)-1-k=(q:Int):=by omega
   have GM:q<zs.length:=by omega
   simp only[ad8,hq] at hy
   rw[hqi]
   have hBx:wr.cell? ⟨Bs,0,none⟩=some (.slice (some ⟨b,off,none⟩) zs.length cap):=(World.cell?_of_block (w:=W) hnx.2).trans hBs
   have hr:=hc q GM
   have hx0:wr.cell? ⟨b,off+q*2,none⟩=_:=(hnx.1.cell (p:=⟨b,off+q*2,none⟩) hb).trans (hr 0 _ rfl)
   have Ce:wr.cell? ⟨b,off+q*2+1,none⟩=_:=(hnx.1.cell (p:=⟨b,off+q*2+1,none⟩) hb).trans (hr 1 _ rfl)
   clear hc
   simp only[cm GM,q_] at hy hx0 Ce
   gi_wp2
   refine hR.mono ?_
   rintro e W3 (⟨rfl,hJ3,hk3⟩|⟨rfl,amb⟩)
   ·gi_wp2
    go_roundw
    case rel=>exact⟨k+1,by omega,by simp;omega,by rw[JV];exact hJ3,hnx.trans hk3⟩
    case measure=>simp[intOf]
   ·gi_wp2
    refine bodyPost_ret (results_none rfl _ _ _) rfl ?_
    exact⟨⟨_,rfl⟩, .inr ⟨_,⟨k+1,by omega,(JV _ _).symm⟩,amb⟩⟩
  ·obtain rfl:k=zs.length:=by omega
   gi_wp2
   go_end0
   exact⟨⟨_,rfl⟩, .inl ⟨_,rfl,hJs⟩⟩
theorem Dr.FL(F:Fence)(n:Nat)(h24:F.fn 126)(Gt:F.round=none)(l Bs cap:Nat)(a:Option Addr)(J:List (Nat×Wr)->World->Prop)(W:World)(hBs:W.cell? ⟨Bs,0,none⟩=some (.slice a 0 cap))(h0:J [] W):
 CallsIn F n Tryz.prog 126 #[.func (.yield l) #[] #[], .pointer (some ⟨Bs,0,none⟩)] W fun e W'=>(∃v,e= .returned v)/\J [] W':=by
 refine callsIn_of_wp Tryz.func126 rfl h24 ?_ Gt
 simp only[Tryz.ntmps126,lg,cV,eO,Nat.reduceAdd,Nat.reduceSub,uP,uQ,nu,qo,jf,nk]
 gi_wp2
 gi_loopw [3] (fun i wr=>i= .int .i64 (-1)/\J [] wr) (fun _ _=>0)
 case atStart=>exact⟨by simp,h0⟩
 case round=>
  obtain⟨rfl,hJs⟩:=hrel
  gi_wp2
  go_end0
  exact⟨⟨_,rfl⟩,hJs⟩
theorem Dr.MH(F:Fence)(n:Nat)(h22:F.fn 95)(Gt:F.round=none)(a:Option Addr)(len cap:Nat)(w:World):
 CallsIn F n Tryz.prog 95 #[.slice a len cap] w fun e w'=>e= .returned (.func (.func 126) #[] #[.pointer (some ⟨w.heap.size,0,none⟩)])/\w'=w.alloc (.cells #[.slice a len cap] 27):=by
 refine callsIn_of_wp Tryz.func95 rfl h22 ?_ Gt
 simp only[Tryz.ntmps95,lg,cV,eO,Nat.reduceAdd,Nat.reduceSub,uP,uQ,nu,qo,jf,nk]
 gi_wp2
 go_ret
 exact⟨rfl,rfl⟩
def tj(n₀:Nat)(W:World)(sv:Value)(zs:List Wr):Prop:=
 (∃a cap,sv= .slice a 0 cap/\zs=[])\/∃b off cap,sv= .slice (some ⟨b,off,none⟩) zs.length cap/\b<n₀/\
   ∀j,j<zs.length->W.rangeAt b (off+j*2) [.int .i64 (zs[j]?.getD default).nW, .string (zs[j]?.getD default).data]
theorem tj.below{n₀:Nat}{A B:World}(h:Below n₀ A B){sv:Value}{zs:List Wr}:tj n₀ A sv zs->tj n₀ B sv zs
 | .inl e=> .inl e
 | .inr ⟨b,off,cap,e,hb,hc⟩=> .inr ⟨b,off,cap,e,hb,fun j hj i v hv=>(h.cell (p:=⟨b,off+j*2+i,none⟩) hb).trans (hc j hj i v hv)⟩
theorem Dr.aim(F:Fence)(n:Nat)(h24:F.fn 126)(Gt:F.round=none)(hn:1<=n)(Bs n₀:Nat)(sv:Value)(zs:List Wr)(Xq:zs.length<=1000000)(w:World)(hBs:Bs<w.heap.size)(hn₀:n₀<=w.heap.size)
 (hc:w.cell? ⟨Bs,0,none⟩=some sv)(hI:tj n₀ w sv zs):
 SeqStopsK F n Tryz.prog 126 #[.pointer (some ⟨Bs,0,none⟩)] ad8 (Q8 n₀ Bs) (fun ys=>ys=wk zs zs.length) (fun MY=>∃k,k<=zs.length/\MY=wk zs k) zs.length w:=fun l J Jx W hW _ _ hY h0=>by
 have hc':=(hW.cell (p:=⟨Bs,0,none⟩) hBs).trans hc
 rcases hI.below (hW.mono hn₀) with⟨a,cap,rfl,rfl⟩|⟨b,off,cap,rfl,hb,mv⟩
 ·exact(Dr.FL F n h24 Gt l Bs cap a J W hc' h0).mono fun e W' ⟨he,hj⟩=>⟨he, .inl ⟨_,rfl,hj⟩⟩
 ·exact Dr.Pb F n h24 Gt hn l Bs n₀ b off cap zs Xq hb J Jx hY W hc' mv h0
def Am(l:List (Nat×Wr))(i:Int):Option Wr:=(l.find? fun x=>x.2.nW==i).map (·.2)
theorem ad9(l:List Wr):(wk l l.length).map (·.2)=l.reverse:=by
 apply Dj
 ·simp[wk]
 ·intro i h1 h2
  have hi:i<l.length:=by simpa using h2
  have:l.length-1-i<l.length:=by omega
  simp[wk,this]
end Go.Proofs
namespace Go.Proofs
open Go.RowKit Go.Shelf Go.Dm
attribute [local go_sem] Oper.semAt_some
theorem Dr.MI(F:Fence)(n:Nat)(h22:F.fn 94)(Gt:F.round=none)(a c:Option Addr)(len cap lc cc:Nat)(fu:Int)(de:Bool)(i:Int)(w:World):
 CallsIn F n Tryz.prog 94 #[.agg #[.slice a len cap, .slice c lc cc, .int .i64 fu, .bool de], .int .i64 i] w fun e w'=>e= .returned (.bool (decide (i>=0)&&decide (i<(len:Int))))/\w'=w.alloc (.cells #[.slice a len cap, .slice c lc cc, .int .i64 fu, .bool de] 29):=by
 refine callsIn_of_wp Tryz.func94 rfl h22 ?_ Gt
 simp only[Tryz.ntmps94,lg,cV,eO,Nat.reduceAdd,Nat.reduceSub,uP,uQ,nu,qo,jf,nk]
 gi_wp2
 ·go_ret
  rename_i hx
  exact⟨by simp_all,rfl⟩
 ·go_ret
  rename_i hx
  exact⟨by simp;omega,rfl⟩
def TT(W:World)(B:Nat)(o:Obj):Prop:=W.heap[B]?=some o
theorem TT.lt{W:World}{B:Nat}{o:Obj}(h:TT W B o):B<W.heap.size:=(Array.getElem?_eq_some_iff.1 h).1
theorem TT.kept{W W':World}{row:Option Nat}{B:Nat}{o:Obj}(h:TT W B o)(hg:W.grownBy W' row)(jV:some B≠row):TT W' B o:=(hg.block B h.lt jV).trans h
theorem TT.new(W:World)(o:Obj):TT (W.alloc o) W.heap.size o:=World.alloc_heap_new W o
theorem TT.alloc{W:World}{B:Nat}{o:Obj}(h:TT W B o)(o':Obj):TT (W.alloc o') B o:=(Below.heap_alloc _ _ B h.lt).trans h
def Xs(n₀:Nat)(W:World)(a:Option Addr)(len:Nat)(ss:List ByteArray):Prop:=
 len=ss.length/\(ss=[]\/∃b off,a=some ⟨b,off,none⟩/\b<n₀/\∀j,j<ss.length->W.cell? ⟨b,off+j,none⟩=some (.string (ss[j]?.getD default)))
theorem Dr.aaf(F:Fence)(n:Nat)(h57:F.fn 57)(Gt:F.round=none)(aS aC:Option Addr)(lS cS lC cC:Nat)(fu i:Int)(w:World):
 CallsIn F n Tryz.prog 57 #[.agg #[.slice aS lS cS, .slice aC lC cC, .int .i64 fu, .bool true], .int .i64 i] w fun e W'=>e= .returned (.tuple #[.string ⟨#[]⟩, .int .i64 6])/\Below w.heap.size w W':=by
 refine callsIn_of_wp Tryz.func57 rfl h57 ?_ Gt
 simp only[Tryz.ntmps57,lg,cV,eO,Nat.reduceAdd,Nat.reduceSub,uP,uQ,nu,qo,jf,nk]
 gi_wp2
 refine bodyPost_ret (v:= .tuple #[.string ⟨#[]⟩, .int .i64 6]) (by simp[results,Tryz.f57,go_sem]) rfl ?_
 exact⟨rfl,((((Below.refl _ w).alloc (aL _) _).alloc (by simp) _).alloc (by simp;omega) _).alloc (by simp;omega) _⟩
theorem Dr.Jd(F:Fence)(n:Nat)(h57:F.fn 57)(h94:F.fn 94)(Gt:F.round=none)(hn:1<=n)(aS aC:Option Addr)(lS cS lC cC:Nat)(fu i:Int)(w:World)(hi:(decide (i>=0)&&decide (i<(lS:Int)))=false):
 CallsIn F n Tryz.prog 57 #[.agg #[.slice aS lS cS, .slice aC lC cC, .int .i64 fu, .bool false], .int .i64 i] w fun e W'=>e= .returned (.tuple #[.string ⟨#[]⟩, .int .i64 4])/\Below w.heap.size w W':=by
 refine callsIn_of_wp Tryz.func57 rfl h57 ?_ Gt
 simp only[Tryz.ntmps57,lg,cV,eO,Nat.reduceAdd,Nat.reduceSub,uP,uQ,nu,qo,jf,nk]
 gi_wp2_with (gi_at_call 94;refine(Dr.MI F (n-1) h94 Gt _ _ _ _ _ _ _ _ _ _).mono ?_;rintro e w' ⟨rfl,rfl⟩;rw[hi])
 refine bodyPost_ret (v:= .tuple #[.string ⟨#[]⟩, .int .i64 4]) (by simp[results,Tryz.f57,go_sem]) rfl ?_
 refine⟨rfl,?_⟩
 exact((((((Below.refl _ w).alloc (aL _) _).alloc (by simp) _).alloc (by simp;omega) _).alloc (by simp;omega) _).alloc (by simp;omega) _)
theorem Xt(l:List Wr){k n:Nat}(h:k<=n):∃r,wk l n=wk l k++r:=by
 induction n with
 |zero=>obtain rfl:k=0:=by omega
        exact⟨[],by simp⟩
 |succ n ih=>
  by_cases hk:k=n+1
  ·subst hk;exact⟨[],by simp⟩
  ·obtain⟨r,hr⟩:=ih (by omega)
   exact⟨_,by rw[JV,hr,kF]⟩
theorem Dr.aag(F:Fence)(n:Nat)(h57:F.fn 57)(h94:F.fn 94)(h95:F.fn 95)(h24:F.fn 126)(Gt:F.round=none)(hn:3<=n)(aS aC:Option Addr)(lS cS lC cC q:Nat)(fu:Int)(ss:List ByteArray)(zs:List Wr)(dK:zs.length<=1000000)(w:World)
 (hS:Xs w.heap.size w aS lS ss)(hL:tj w.heap.size w (.slice aC lC cC) zs)(hq:q<ss.length):
 CallsIn F n Tryz.prog 57 #[.agg #[.slice aS lS cS, .slice aC lC cC, .int .i64 fu, .bool false], .int .i64 (q:Int)] w fun e W'=>
  e= .returned (.tuple #[.string (((Am (wk zs zs.length) q).map (·.data)).getD (ss[q]?.getD default)), .int .i64 0])/\Below w.heap.size w W':=by
 have h1:1<=n:=by omega
 obtain⟨rfl,hS⟩:=hS
 have rT:(decide ((q:Int)>=0)&&decide ((q:Int)<(ss.length:Int)))=true:=by simp;omega
 refine callsIn_of_wp_marks Tryz.func57 rfl h57 ?_ Gt
 simp only[Tryz.ntmps57,lg,cV,eO,Nat.reduceAdd,Nat.reduceSub,uP,uQ,nu,qo,jf,nk]
 gi_wp2_with (first|(gi_at_call 94;refine(Dr.MI F (n-1) h94 Gt _ _ _ _ _ _ _ _ _ _).mono ?_;rintro e w' ⟨rfl,rfl⟩;rw[rT])|(gi_at_call 95;refine(Dr.MH F (n-1) h95 Gt _ _ _ _).mono ?_;rintro e w' ⟨rfl,rfl⟩))
 have b0:=TT.new w (.cells #[.slice aS ss.length cS, .slice aC lC cC, .int .i64 fu, .bool false] 29)
 obtain⟨w1,Qy⟩:∃w1,w.alloc (.cells #[.slice aS ss.length cS, .slice aC lC cC, .int .i64 fu, .bool false] 29)=w1:=⟨_,rfl⟩
 have z1:w1.heap.size=w.heap.size+1:=by rw[<-Qy];simp
 have l1:Below w.heap.size w w1:=by rw[<-Qy];exact(Below.refl _ w).alloc (aL _) _
 rw[Qy] at b0 ⊢
 have b1:=Boxed.new w1 3 (.int .i64 (q:Int))
 obtain⟨w2,hw2⟩:∃w2,w1.alloc (.cells #[.int .i64 (q:Int)] 3)=w2:=⟨_,rfl⟩
 have z2:w2.heap.size=w.heap.size+1+1:=by rw[<-hw2];simp[z1]
 have l2:Below w.heap.size w w2:=by rw[<-hw2];exact l1.alloc (by omega) _
 have b0:=b0.alloc (.cells #[.int .i64 (q:Int)] 3)
 rw[hw2] at b0 b1 ⊢
 have b2:=Boxed.new w2 9 (.string ⟨#[]⟩)
 obtain⟨w3,hw3⟩:∃w3,w2.alloc (.cells #[.string ⟨#[]⟩] 9)=w3:=⟨_,rfl⟩
 have z3:w3.heap.size=w.heap.size+1+1+1:=by rw[<-hw3];simp[z2]
 have l3:Below w.heap.size w w3:=by rw[<-hw3];exact l2.alloc (by omega) _
 have b0:=b0.alloc (.cells #[.string ⟨#[]⟩] 9)
 have b1:=b1.alloc (.cells #[.string ⟨#[]⟩] 9)
 rw[hw3] at b0 b1 b2 ⊢
 have b3:=Boxed.new w3 74 (.int .i64 0)
 obtain⟨w4,hw4⟩:∃w4,w3.alloc (.cells #[.int .i64 0] 74)=w4:=⟨_,rfl⟩
 have z4:w4.heap.size=w.heap.size+1+1+1+1:=by rw[<-hw4];simp[z3]
 have l4:Below w.heap.size w w4:=by rw[<-hw4];exact l3.alloc (by omega) _
 have b0:=b0.alloc (.cells #[.int .i64 0] 74)
 have b1:=b1.alloc (.cells #[.int .i64 0] 74)
 have b2:=b2.alloc (.cells #[.int .i64 0] 74)
 rw[hw4] at b0 b1 b2 b3 ⊢
 obtain⟨w5,hw5⟩:∃w5,w4.alloc (.cells #[.slice aS ss.length cS, .slice aC lC cC, .int .i64 fu, .bool false] 29)=w5:=⟨_,rfl⟩
 have z5:w5.heap.size=w.heap.size+1+1+1+1+1:=by rw[<-hw5];simp[z4]
 have l5:Below w.heap.size w w5:=by rw[<-hw5];exact l4.alloc (by omega) _
 have b0:=b0.alloc (.cells #[.slice aS ss.length cS, .slice aC lC cC, .int .i64 fu, .bool false] 29)
 have b1:=b1.alloc (.cells #[.slice aS ss.length cS, .slice aC lC cC, .int .i64 fu, .bool false] 29)
 have b2:=b2.alloc (.cells #[.slice aS ss.length cS, .slice aC lC cC, .int .i64 fu, .bool false] 29)
 have b3:=b3.alloc (.cells #[.slice aS ss.length cS, .slice aC lC cC, .int .i64 fu, .bool false] 29)
 rw[hw5] at b0 b1 b2 b3 ⊢
 have b5:=Boxed.new w5 27 (.slice aC lC cC)
 obtain⟨w6,hw6⟩:∃w6,w5.alloc (.cells #[.slice aC lC cC] 27)=w6:=⟨_,rfl⟩
 have z6:w6.heap.size=w.heap.size+1+1+1+1+1+1:=by rw[<-hw6];simp[z5]
 have l6:Below w.heap.size w w6:=by rw[<-hw6];exact l5.alloc (by omega) _
 have b0:=b0.alloc (.cells #[.slice aC lC cC] 27)
 have b1:=b1.alloc (.cells #[.slice aC lC cC] 27)
 have b2:=b2.alloc (.cells #[.slice aC lC cC] 27)
 have b3:=b3.alloc (.cells #[.slice aC lC cC] 27)
 rw[hw6] at b0 b1 b2 b3 b5 ⊢
 rw[z1] at b1
 rw[z2] at b2
 rw[z3] at b3
 rw[z5] at b5
 clear Qy hw2 hw3 hw4 hw5 hw6 l1 l2 l3 l4 l5
 refine wpIn_rangeFunc_ownH Gt h1 (gf:=126) (lb:= #[.pointer (some ⟨w.heap.size+1+1+1+1+1,0,none⟩)]) rfl h24 (enters_of Tryz.func126 (by kernel_rfl) rfl)
  (Dr.aim F (n-1) h24 Gt (by omega) (w.heap.size+1+1+1+1+1) w.heap.size _ zs dK _ (by omega) (by omega) b5.cell (hL.below l6)) (fun h k=>h.trans k) (Q8.putObj (by omega) (by omega)) (Below.refl _ _) (fun _=>rfl)
  (fun MY W=>(TT W w.heap.size (.cells #[.slice aS ss.length cS, .slice aC lC cC, .int .i64 fu, .bool false] 29)/\Boxed W (w.heap.size+1) 3 (.int .i64 (q:Int))/\Boxed W (w.heap.size+1+1) 9 (.string ⟨#[]⟩)/\Boxed W (w.heap.size+1+1+1) 74 (.int .i64 0)/\Boxed W (w.heap.size+1+1+1+1+1) 27 (.slice aC lC cC)/\Am MY q=none)/\Below w.heap.size w W)
  (fun c MY W=>(c= .ret/\∃x,Am MY q=some x/\Boxed W (w.heap.size+1+1) 9 (.string x.data)/\Boxed W (w.heap.size+1+1+1) 74 (.int .i64 0))/\Below w.heap.size w W)
  (OwnFrom.and (fun s A B row hs hg hr=>⟨hs.1.kept hg (fun e=>by have:=(hr _ e.symm).1;omega),hs.2.1.kept hg (fun e=>by have:=(hr _ e.symm).1;omega),hs.2.2.1.kept hg (fun e=>by have:=(hr _ e.symm).1;omega),hs.2.2.2.1.kept hg (fun e=>by have:=(hr _ e.symm).1;omega),hs.2.2.2.2.1.kept hg (fun e=>by have:=(hr _ e.symm).1;omega),hs.2.2.2.2.2⟩) (ownFrom_below (aL _) (by omega)))
  (fun c=>OwnFrom.and (fun s A B row hs hg hr=>by
    obtain⟨h1,x,h2,h3,h4⟩:=hs
    exact⟨h1,x,h2,h3.kept hg (fun e=>by have:=(hr _ e.symm).1;omega),h4.kept hg (fun e=>by have:=(hr _ e.symm).1;omega)⟩) (ownFrom_below (aL _) (by omega)))
  ⟨⟨b0,b1,b2,b3,b5,rfl⟩,l6⟩
  (fun x a' W=>∃bx,w.heap.size+6<=bx/\W.heap[bx]?=some (.cells #[.int .i64 x.2.nW, .string x.2.data] 158 (0,0))/\a'={tmps:= #[.agg #[.slice aS ss.length cS, .slice aC lC cC, .int .i64 fu, .bool false], .int .i64 (q:Int), .pointer (some ⟨w.heap.size,0,none⟩), .pointer (some ⟨w.heap.size+1,0,none⟩), .pointer (some ⟨w.heap.size+1+1,0,none⟩), .pointer (some ⟨w.heap.size+1+1+1,0,none⟩),undef, .pointer (some ⟨bx,0,none⟩), .bool false, .pointer (some ⟨w.heap.size,3,none⟩), .bool false, .bool false,
    .agg #[.slice aS ss.length cS, .slice aC lC cC, .int .i64 fu, .bool false], .int .i64 (q:Int), .bool true, .bool false, .pointer (some ⟨w.heap.size,1,none⟩), .slice aC lC cC, .func (.func 126) #[] #[.pointer (some ⟨w.heap.size+1+1+1+1+1,0,none⟩)], .int .i64 (x.1:Int), .agg #[.int .i64 x.2.nW, .string x.2.data],undef,undef,undef,undef,undef,undef,undef,undef,undef,undef,undef],defers:=[]})
  ?Ax ?assign ?body ?done ?stop
 case Ax=>
  rintro x a' _ A B row ⟨bx,h1,h2,h3⟩ hg hr
  exact⟨bx,h1,(hg.block bx (Array.getElem?_eq_some_iff.1 h2).1 (fun e=>by obtain⟨_,o,ho,hc⟩:=hr bx e.symm;rw[h2] at ho;cases ho;cases hc)).trans h2,h3⟩
 case assign=>
  rintro l MY x W K ⟨⟨c0,c1,c2,c3,c5,hp⟩,hB⟩ hK
  gi_wp2
  have fO:=c5.lt
  exact hK _ _ (KeepsFrom.of_grownBy (World.grownBy_alloc W _ none) (fun j e=>by cases e)) ⟨(Below.refl _ W).alloc hB.size _,Below.heap_alloc _ _ _ fO⟩ ⟨⟨c0.alloc _,c1.alloc _,c2.alloc _,c3.alloc _,c5.alloc _,hp⟩,hB.alloc hB.size _⟩
   ⟨W.heap.size,by omega,World.alloc_heap_new W _,rfl⟩
 case body=>
  rintro l MY x a' W hl anM ⟨⟨c0,c1,c2,c3,c5,hp⟩,hB⟩ ⟨bx,hbx,hx,rfl⟩ fO
  have d1:=c1.cell
  have d2:=c2.cell
  have d3:=c3.cell
  have f2:=c2.frozen
  have f3:=c3.frozen
  have hx0:W.cell? ⟨bx,0,none⟩=some (.int .i64 x.2.nW):=by simp[World.cell?,hx]
  have Ce:W.cell? ⟨bx,1,none⟩=some (.string x.2.data):=by simp[World.cell?,hx]
  gi_wp2
  ·rename_i he
   have B':x.2.nW=(q:Int):=by simpa using he
   refine⟨((KeepsOthers.setCell _ _ _).trans (KeepsOthers.setCell _ _ _)).from _,⟨rfl,x.2,?_,?_,?_⟩,?_⟩
   ·unfold Am at hp ⊢
    rw[List.find?_append]
    simp only[H_] at hp
    rw[hp]
    simp[B']
   ·exact(c2.set _).other (by omega) _
   ·exact(c3.other (by omega) _).set _
   ·exact(hB.grown (grownBy_setCell' W _ _) hB.size (fun k e=>by cases e;omega)).grown (grownBy_setCell' _ _ _) (aZ hB.size (KeepsOthers.setCell W _ _).size) (fun k e=>by cases e;omega)
  ·rename_i he
   have B':¬x.2.nW=(q:Int):=by simpa using he
   refine⟨KeepsFrom.refl _ _,Q8.refl _ _ _,⟨c0,c1,c2,c3,c5,?_⟩,hB⟩
   unfold Am at hp ⊢
   rw[List.find?_append]
   simp only[H_] at hp
   rw[hp]
   simp[B']
 case done=>
  rintro D ys W hD rfl ⟨⟨c0,c1,c2,c3,c5,hp⟩,hB⟩ hK
  have d1:=c1.cell
  have d2:=c2.cell
  have d3:=c3.cell
  have f2:=c2.frozen
  have f3:=c3.frozen
  have d0:W.cell? ⟨w.heap.size,0,none⟩=some (.slice aS ss.length cS):=by simp[World.cell?,show W.heap[w.heap.size]?=_ from c0]
  obtain⟨s,hs⟩:∃s,ss[q]?.getD default=s:=⟨_,rfl⟩
  rcases hS with rfl|⟨b,off,rfl,hb,hS⟩
  ·exact absurd hq (by simp)
  have hcq:W.cell? ⟨b,off+q,none⟩=some (.string s):=by rw[<-hs];exact(hB.cell (p:=⟨b,off+q,none⟩) hb).trans (hS q hq)
  clear hS
  gi_wp2
  have hK':=((KeepsOthers.setCell W ⟨w.heap.size+1+1,0,none⟩ (.string s)).trans (KeepsOthers.setCell _ ⟨w.heap.size+1+1+1,0,none⟩ (.int .i64 0))).same D _ hK rfl
  have e2:=(((c2.set (.string s)).other (show w.heap.size+1+1≠w.heap.size+1+1+1 by omega) (.int .i64 0)).kept (grownBy_putObj' _ D (.deferred none)) (fun e=>by cases e;omega)).cell
  have e3:=(((c3.other (show w.heap.size+1+1+1≠w.heap.size+1+1 by omega) (.string s)).set (.int .i64 0)).kept (grownBy_putObj' _ D (.deferred none)) (fun e=>by cases e;omega)).cell
  refine⟨by simp, .inl ⟨_,_,rfl,run_takeDeferred hK',?_⟩⟩
  have hz:=(KeepsOthers.setCell W ⟨w.heap.size+1+1,0,none⟩ (.string s)).size
  have hB2:=(hB.grown (grownBy_setCell' W (w.heap.size+1+1) (.string s)) hB.size (fun k e=>by cases e;omega)).grown (grownBy_setCell' _ (w.heap.size+1+1+1) (.int .i64 0)) (aZ hB.size hz) (fun k e=>by cases e;omega)
  refine⟨.tuple #[.string s, .int .i64 0],by simp[results,Tryz.f57,go_sem,e2,e3],?_,hB2.trans (belowK_b (w:=w) (aL _) _ D _ _ (by omega) hK' rfl rfl)⟩
  rw[hp,hs]
  rfl
 case stop=>
  rintro D c MY W hD ⟨k,hk,rfl⟩ ⟨⟨rfl,x,hx,c2,c3⟩,hB⟩ hK
  gi_wp2
  refine⟨by simp, .inl ⟨_,_,rfl,run_takeDeferred hK,?_⟩⟩
  have e2:=(c2.kept (grownBy_putObj' _ D (.deferred none)) (fun e=>by cases e;omega)).cell
  have e3:=(c3.kept (grownBy_putObj' _ D (.deferred none)) (fun e=>by cases e;omega)).cell
  refine⟨.tuple #[.string x.data, .int .i64 0],by simp[results,Tryz.f57,go_sem,e2,e3],?_,hB.trans (belowK_b (w:=w) (aL _) W D _ _ (by omega) hK rfl rfl)⟩
  have:Am (wk zs zs.length) q=some x:=by
   obtain⟨r,hr⟩:=Xt zs hk
   unfold Am at hx ⊢
   rw[hr,List.find?_append]
   rw[aV] at hx
   obtain⟨y,hy,rfl⟩:=hx
   rw[hy]
   rfl
  rw[this]
  rfl
end Go.Proofs
namespace Go.Proofs
open Go.RowKit Go.Shelf Go.Lib Go.Dm
theorem aea{P:Program}(w:World)(t e:TypeId)(a:Option Addr)(l c:Nat)(h:P.underlying t=some (.slice e)):(binOp .eql t (.slice a l c) (.slice none 0 0)).run P w= .ok (.bool a.isNone) w:=by
 have h1:∀d:Nat,(Op.equalIn (d+1) t (.slice a l c) (.slice none 0 0)).run P w= .ok a.isNone w:=fun d=>by
  cases a<;>simp[Op.equalIn,run_underlying h]
 have h2:(Op.equal t (.slice a l c) (.slice none 0 0)).run P w= .ok a.isNone w:=h1 9999
 simp only[binOp]
 simp[h2]
attribute [local go_sem] aea
theorem ClS.nil(n cap:Nat)(w:World):
 Calls Tryz.prog 88 #[.slice none n cap] w fun e w'=>e= .returned (.slice none 0 0)/\w'=w:=by
 refine calls_of_wp Tryz.func88 rfl ?_
 simp only[Tryz.ntmps88,lg,cV,eO,Nat.reduceAdd,Nat.reduceSub,uP,uQ,nu,qo,jf,nk]
 go_wp2
 go_ret
 exact⟨rfl,rfl⟩
theorem ClS.some(a:Addr)(n cap:Nat)(w:World)(v':Value)(w':World)
 (hr:∀ty,(Builtin.append_ #[26,26] ty #[.slice (some ⟨w.heap.size,0,none⟩) 0 0, .slice (some a) n cap]).run Tryz.prog (w.alloc (.cells #[] 9))= .ok v' w'):
 Calls Tryz.prog 88 #[.slice (some a) n cap] w fun e w2=>e= .returned v'/\w2=w':=by
 obtain⟨b,o,sp⟩:=a
 refine calls_of_wp Tryz.func88 rfl ?_
 simp only[Tryz.ntmps88,lg,cV,eO,Nat.reduceAdd,Nat.reduceSub,uP,uQ,nu,qo,jf,nk]
 go_wp2_with (at_builtin;refine Lib.wpList_append_run _ rfl _ _ _ _ rfl _ _ rfl rfl _ _ (hr _) ?_)
 all_goals(go_ret;exact⟨rfl,rfl⟩)
theorem ClL.some(a:Addr)(n cap:Nat)(w:World)(v':Value)(w':World)
 (hr:∀ty,(Builtin.append_ #[55,55] ty #[.slice (some ⟨w.heap.size,0,none⟩) 0 0, .slice (some a) n cap]).run Tryz.prog (w.alloc (.cells #[] 26))= .ok v' w'):
 Calls Tryz.prog 120 #[.slice (some a) n cap] w fun e w2=>e= .returned v'/\w2=w':=by
 obtain⟨b,o,sp⟩:=a
 refine calls_of_wp Tryz.func120 rfl ?_
 simp only[Tryz.ntmps120,lg,cV,eO,Nat.reduceAdd,Nat.reduceSub,uP,uQ,nu,qo,jf,nk]
 go_wp2_with (at_builtin;refine Lib.wpList_append_run _ rfl _ _ _ _ rfl _ _ rfl rfl _ _ (hr _) ?_)
 all_goals(go_ret;exact⟨rfl,rfl⟩)
theorem ClI.some(a:Addr)(n cap:Nat)(w:World)(v':Value)(w':World)
 (hr:∀ty,(Builtin.append_ #[56,56] ty #[.slice (some ⟨w.heap.size,0,none⟩) 0 0, .slice (some a) n cap]).run Tryz.prog (w.alloc (.cells #[] 3))= .ok v' w'):
 Calls Tryz.prog 121 #[.slice (some a) n cap] w fun e w2=>e= .returned v'/\w2=w':=by
 obtain⟨b,o,sp⟩:=a
 refine calls_of_wp Tryz.func121 rfl ?_
 simp only[Tryz.ntmps121,lg,cV,eO,Nat.reduceAdd,Nat.reduceSub,uP,uQ,nu,qo,jf,nk]
 go_wp2_with (at_builtin;refine Lib.wpList_append_run _ rfl _ _ _ _ rfl _ _ rfl rfl _ _ (hr _) ?_)
 all_goals(go_ret;exact⟨rfl,rfl⟩)
end Go.Proofs
namespace Go.Dm
open Go Go.RowKit Go.Proofs
open Go.IntKind (wrap)
theorem Ti{Fr:Nat->Nat->Prop}{w:World}(hf:∀b o,Fr b o->b<w.heap.size){l:List ByteArray}{a:Option Addr}{len cap:Nat}(h:(C.slice 1 (l.map eS)).aE Fr w (.slice a len cap)):Xs w.heap.size w a len l:=by
 simp only[C.aE] at h
 obtain⟨a',apI,abR,he,dK,oS,h4⟩:=h
 cases he
 rw[jq] at dK
 refine⟨dK,?_⟩
 by_cases hl:l=[]
 ·exact .inl hl
 ·have h0:0<l.length:=List.length_pos_iff.2 hl
  rcases h4 with⟨h4,_⟩|⟨b,o,rfl,hr⟩
  ·omega
  ·have hg:∀j (hj:j<l.length),dp Fr w b (eS l[j]) (o+j*1):=fun j hj=>(ob hr j _ (by simp[hj])).2
   refine .inr ⟨b,o,rfl,hf _ _ (jH (hg 0 h0) 0 _ rfl).1,fun j hj=> ?_⟩
   obtain⟨v,h1,h2⟩:=(jH (hg j hj) 0 _ rfl).2
   simp only[C.aE] at h2
   rw[cm hj,q_]
   rw[Nat.mul_one] at h1
   rw[<-h2.1]
   exact h1
theorem MK{Fr:Nat->Nat->Prop}{w:World}(hf:∀b o,Fr b o->b<w.heap.size){l:List Wr}{v:Value}(h:(C.slice 2 (l.map Wr.cs)).aE Fr w v):tj w.heap.size w v l:=by
 simp only[C.aE] at h
 obtain⟨a,len,cap,rfl,dK,oS,h4⟩:=h
 rw[jq] at dK
 by_cases hl:l=[]
 ·subst hl
  simp at dK
  subst dK
  exact .inl ⟨a,cap,rfl,rfl⟩
 ·have h0:0<l.length:=List.length_pos_iff.2 hl
  rcases h4 with⟨h4,_⟩|⟨b,o,rfl,hr⟩
  ·omega
  ·have hg:∀j (hj:j<l.length),dp Fr w b (l[j]).cs (o+j*2):=fun j hj=>(ob hr j _ (by simp[hj])).2
   refine .inr ⟨b,o,cap,by rw[dK],hf _ _ (jH (hg 0 h0) 0 _ rfl).1,fun j hj=> ?_⟩
   have hc:=hg j hj
   rw[cm hj,q_]
   intro i x hx
   match i,hx with
   |0,hx=>simp at hx;subst hx;obtain⟨v,h1,h2⟩:=(jH hc 0 _ rfl).2;simp only[C.aE] at h2;rw[h1,h2.1]
   |1,hx=>simp at hx;subst hx;obtain⟨v,h1,h2⟩:=(jH hc 1 _ rfl).2;simp only[C.aE] at h2;rw[h1,h2.1]
   |i+2,hx=>simp at hx
theorem Pc{Fr:Nat->Nat->Prop}{w:World}(hf:∀b o,Fr b o->b<w.heap.size)(d:Dk)(hd:d.ar.length<=1000000)(i:Int){v:Value}(hv:∃vs:List Value,v= .agg vs.toArray/\bj (C.aE Fr w) d.cs vs):
 Calls PP 57 #[v, .int .i64 i] w fun e W'=>e= .returned (.tuple #[.string (bR d i).1, .int .i64 (bR d i).2])/\Below w.heap.size w W':=by
 obtain⟨vs,rfl,Rf⟩:=hv
 obtain⟨v0,v1,rfl,hs,hw⟩:∃v0 v1,vs=[v0,v1, .int .i64 d.kU, .bool d.gN]/\(C.slice 1 (d.ax.map eS)).aE Fr w v0/\(C.slice 2 (d.ar.map Wr.cs)).aE Fr w v1:=by
  match vs,Rf with
  |[v0,v1,v2,v3],⟨h0,h1,h2,h3,_⟩=>
   simp only[C.aE] at h2 h3
   obtain⟨rfl,_⟩:=h2
   obtain⟨rfl,_⟩:=h3
   exact⟨v0,v1,rfl,h0,h1⟩
  |[],h=>exact h.elim
  |[_],h=>exact h.2.elim
  |[_,_],h=>exact h.2.2.elim
  |[_,_,_],h=>exact h.2.2.2.elim
  |_::_::_::_::_::_,h=>exact h.2.2.2.2.elim
 have Q6:=hs
 have hw0:=hw
 simp only[C.aE] at Q6 hw0
 obtain⟨aS,lS,cS,rfl,hlS,_⟩:=Q6
 obtain⟨aC,lC,cC,rfl,_⟩:=hw0
 rw[jq] at hlS
 have hS:=Ti hf hs
 have hW:=MK hf hw
 unfold bR
 cases hde:d.gN with
 |true=>exact callsIn_wide.1 (Dr.aaf Fence.wide 3 trivial rfl aS aC lS cS lC cC d.kU i w)
 |false=>
  simp only[aJ]
  cases ho:(decide (i<0)||decide (i>=(d.ax.length:Int))) with
  |true=>exact callsIn_wide.1 (Dr.Jd Fence.wide 3 trivial trivial rfl (by omega) aS aC lS cS lC cC d.kU i w (by rw[hlS];simp at ho ⊢;omega))
  |false=>
   simp only[aJ]
   simp at ho
   obtain⟨q,rfl⟩:∃q:Nat,i=(q:Int):=⟨i.toNat,by omega⟩
   have h:=callsIn_wide.1 (Dr.aag Fence.wide 3 trivial trivial trivial trivial rfl (by omega) aS aC lS cS lC cC q d.kU d.ax d.ar hd w hS hW (by omega))
   have he:iD d (q:Int)=((Am (wk d.ar d.ar.length) q).map (·.data)).getD (d.ax[q]?.getD default):=by
    rw[Lf,<-ad9,List.find?_map,Option.map_map]
    unfold Am
    rw[Option.map_map]
    rfl
   rw[he]
   exact h
theorem aio:aa9 PP GL XX:=⟨fun f h xs ip rs cy hx hh=>by
 unfold XX at hx
 split at hx
 ·cases hx
  unfold IX at hh
  split at hh
  ·rename_i ss ws fu de i
   split at hh
   ·rename_i sl wl Ur hwl
    split at hh
    ·rename_i hc
     cases hh
     obtain rfl:=EA (g:=eS) (fun _ _=>YQ) Ur
     obtain rfl:=EA (g:=Wr.cs) (fun _ _=>YR) hwl
     refine⟨⟨_,Proofs.Tryz.func57,rfl,by kernel_rfl⟩,?_⟩
     refine Ig.ajZ ?_
     intro Fr w gK vs hf hgl him Kd DW
     have hl:gK=[]:=by
      cases gK with
      |nil=>rfl
      |cons _ _=>exact him.elim
     subst hl
     obtain⟨v,rfl,hv⟩:∃v,vs=[v, .int .i64 i]/\∃us:List Value,v= .agg us.toArray/\bj (C.aE Fr w) (Dk.mk sl wl fu de).cs us:=by
      match vs,DW with
      |[v1,v2],⟨h1,h2,_⟩=>exact⟨v1,by simp only[A.aE,C.aE] at h2;rw[h2.1],h1⟩
      |[],h=>exact h.elim
      |[_],h=>exact h.2.elim
      |_::_::_::_,h=>exact h.2.2.elim
     refine(Pc hf ⟨sl,wl,fu,de⟩ hc i hv).mono ?_
     rintro e w' ⟨rfl,hB⟩
     refine⟨[.string _, .int .i64 _],Fr,rfl,bX.j8 hB,fun b o h=>h,fun b o h=> .inl h,⟨?_,?_,trivial⟩,by simp[lX],trivial,rfl⟩
     ·simp[au.aE,C.aE,Value.oneCell']
     ·simp[au.aE,C.aE,Value.oneCell']
    ·cases hh
   ·cases hh
  ·cases hh
 ·cases hx
  unfold zE at hh
  split at hh
  ·rename_i z es
   split at hh
   ·rename_i hc
    obtain⟨hs,dK⟩:=hc
    cases hh
    obtain⟨i,hi⟩:∃i,PP.info? 9=some i:=Option.isSome_iff_exists.1 (by kernel_rfl)
    obtain⟨zz,hz⟩:∃z,i.zero=some z:=by
     have h:((PP.info? 9).bind (·.zero)).isSome=true:=by kernel_rfl
     rw[hi] at h
     exact Option.isSome_iff_exists.1 h
    have o9:i.size=1:=by
     have h:(PP.info? 9).map (·.size)=some 1:=by kernel_rfl
     rw[hi] at h
     simpa using h
    have hb:i.bytes=16:=by
     have h:(PP.info? 9).map (·.bytes)=some 16:=by kernel_rfl
     rw[hi] at h
     simpa using h
    have hzc:zz.cells.size=1:=by
     have h:((PP.info? 9).bind (·.zero)).map (·.cells.size)=some 1:=by kernel_rfl
     rw[hi] at h
     simp only[q9,hz,dw,av] at h
     exact h
    refine⟨⟨_,Proofs.Tryz.func88,rfl,by kernel_rfl⟩,?_⟩
    have:=K_ (P:=PP) (gl:=GL) (f:=88) (t:=26) (e:=9) Proofs.Tryz.underlying26 hi hz (by omega) (by omega) (by omega) ClS.nil ClS.some (sz:=z) (es:=es) (by rw[o9];exact hs) dK
    rwa[o9] at this
   ·cases hh
  ·cases hh
 ·cases hx⟩
theorem Pd:j_ PP 88/\va PP 88 1:=by
 obtain⟨i,hi⟩:∃i,PP.info? 9=some i:=Option.isSome_iff_exists.1 (by kernel_rfl)
 obtain⟨zz,hz⟩:∃z,i.zero=some z:=by
  have h:((PP.info? 9).bind (·.zero)).isSome=true:=by kernel_rfl
  rw[hi] at h
  exact Option.isSome_iff_exists.1 h
 have o9:i.size=1:=by
  have h:(PP.info? 9).map (·.size)=some 1:=by kernel_rfl
  rw[hi] at h
  simpa using h
 have hb:i.bytes=16:=by
  have h:(PP.info? 9).map (·.bytes)=some 16:=by kernel_rfl
  rw[hi] at h
  simpa using h
 have hzc:zz.cells.size=1:=by
  have h:((PP.info? 9).bind (·.zero)).map (·.cells.size)=some 1:=by kernel_rfl
  rw[hi] at h
  simp only[q9,hz,dw,av] at h
  exact h
 refine⟨⟨_,Proofs.Tryz.func88,rfl,by kernel_rfl⟩,?_⟩
 have:=AU (P:=PP) (f:=88) (t:=26) (e:=9) Proofs.Tryz.underlying26 hi hz (by omega) ClS.some
 rwa[o9] at this
theorem Pe:j_ PP 120/\va PP 120 1:=by
 obtain⟨i,hi⟩:∃i,PP.info? 26=some i:=Option.isSome_iff_exists.1 (by kernel_rfl)
 obtain⟨zz,hz⟩:∃z,i.zero=some z:=by
  have h:((PP.info? 26).bind (·.zero)).isSome=true:=by kernel_rfl
  rw[hi] at h
  exact Option.isSome_iff_exists.1 h
 have o9:i.size=1:=by
  have h:(PP.info? 26).map (·.size)=some 1:=by kernel_rfl
  rw[hi] at h
  simpa using h
 have hb:i.bytes=24:=by
  have h:(PP.info? 26).map (·.bytes)=some 24:=by kernel_rfl
  rw[hi] at h
  simpa using h
 have hzc:zz.cells.size=1:=by
  have h:((PP.info? 26).bind (·.zero)).map (·.cells.size)=some 1:=by kernel_rfl
  rw[hi] at h
  simp only[q9,hz,dw,av] at h
  exact h
 refine⟨⟨_,Proofs.Tryz.func120,rfl,by kernel_rfl⟩,?_⟩
 have:=AU (P:=PP) (f:=120) (t:=55) (e:=26) Proofs.Tryz.underlying55 hi hz (by omega) ClL.some
 rwa[o9] at this
theorem Pg:j_ PP 121/\va PP 121 1:=by
 obtain⟨i,hi⟩:∃i,PP.info? 3=some i:=Option.isSome_iff_exists.1 (by kernel_rfl)
 obtain⟨zz,hz⟩:∃z,i.zero=some z:=by
  have h:((PP.info? 3).bind (·.zero)).isSome=true:=by kernel_rfl
  rw[hi] at h
  exact Option.isSome_iff_exists.1 h
 have o9:i.size=1:=by
  have h:(PP.info? 3).map (·.size)=some 1:=by kernel_rfl
  rw[hi] at h
  simpa using h
 have hb:i.bytes=8:=by
  have h:(PP.info? 3).map (·.bytes)=some 8:=by kernel_rfl
  rw[hi] at h
  simpa using h
 have hzc:zz.cells.size=1:=by
  have h:((PP.info? 3).bind (·.zero)).map (·.cells.size)=some 1:=by kernel_rfl
  rw[hi] at h
  simp only[q9,hz,dw,av] at h
  exact h
 refine⟨⟨_,Proofs.Tryz.func121,rfl,by kernel_rfl⟩,?_⟩
 have:=AU (P:=PP) (f:=121) (t:=56) (e:=3) Proofs.Tryz.underlying56 hi hz (by omega) ClI.some
 rwa[o9] at this
theorem Xu(d:Dk)(i:Int)(hc:d.ar.length<=1000000)(k:Nat):EO (k+1) 57 [.agg d.cs, .c (ii i)] []=some ([.c (st (bR d i).1), .c (ii (bR d i).2)],[]):=by
 unfold EO
 rw[K4 (h:=IX) rfl]
 show((match(d.ax.map eS).mapM UO,(d.ar.map Wr.cs).mapM UN with
  |some sl,some wl=>if wl.length<=1000000 then some ([.c (st (bR ⟨sl,wl,d.kU,d.gN⟩ i).1), .c (ii (bR ⟨sl,wl,d.kU,d.gN⟩ i).2)],[]) else none
  |_,_=>none):Option (List au×List (List C)))=_
 rw[P_,P']
 simp only[hc,bu]
theorem JW(d:Dk)(i:Int)(k:Nat):EO (k+1) 56 [A.agg d.cs,A.c (ii i)] []=some ([au.c (bo (jS d i))],[]):=by
 rcases be (decide (i>=0)) with z0|z0
 ·exact rt (eo z0<|ep (aG (eS) d.ax)<|eg (G.len d.ax.length)<|dO z0<|e0) (rs:=[au.c (bo (decide (i<wrap .i64 ((↑(d.ax.length):Int)-2))))]) (by first|(simp only[jS,z0,vq]<;>rfl)|(simp_all only[jS,vq]<;>rfl))
 ·exact rt (hO z0<|eb z0<|e0) (rs:=[au.c (bo false)]) (by first|(simp only[jS,z0,vq]<;>rfl)|(simp_all only[jS,vq]<;>rfl))
theorem Ph(d:Dk)(i:Int)(hc:d.ar.length<=1000000)(k:Nat):EO (k+4) 29 [A.agg d.cs,A.c (ii i)] []=some ([au.c (st (aK d i).1),au.c (ii (aK d i).2)],[]):=by
 rcases be (jS d i) with z0|z0
 ·rcases be ((bR d (wrap .i64 (i+2))).2==0) with z1|z1
  ·rcases be ((↑((bR d (wrap .i64 (i+2))).1.size):Int)==8) with z2|z2
   ·exact rt (ec (JW d i (k+2))<|en z0<|ec (Xu d (wrap .i64 (i+2)) hc (k+2))<|en z1<|en z2<|e0) (rs:=[au.c (st (bR d (wrap .i64 (i+2))).1),au.c (ii 0)]) (by first|(simp only[aK,z0,z1,z2,vq]<;>rfl)|(simp_all only[aK,vq]<;>rfl))
   ·exact rt (ec (JW d i (k+2))<|en z0<|ec (Xu d (wrap .i64 (i+2)) hc (k+2))<|en z1<|en z2<|e0) (rs:=[au.c (st ⟨#[]⟩),au.c (ii 2)]) (by first|(simp only[aK,z0,z1,z2,vq]<;>rfl)|(simp_all only[aK,vq]<;>rfl))
  ·exact rt (ec (JW d i (k+2))<|en z0<|ec (Xu d (wrap .i64 (i+2)) hc (k+2))<|en z1<|e0) (rs:=[au.c (st ⟨#[]⟩),au.c (ii (bR d (wrap .i64 (i+2))).2)]) (by first|(simp only[aK,z0,z1,vq]<;>rfl)|(simp_all only[aK,vq]<;>rfl))
 ·exact rt (ec (JW d i (k+2))<|en z0<|e0) (rs:=[au.c (st ⟨#[]⟩),au.c (ii 4)]) (by first|(simp only[aK,z0,vq]<;>rfl)|(simp_all only[aK,vq]<;>rfl))
theorem JX(s:So)(i:Int)(hc:s.ao.ar.length<=1000000)(k:Nat):EO (k+5) 49 [A.agg s.cs,A.c (ii i)] []=some ([au.c (st (aK s.ao i).1),au.c (ii (aK s.ao i).2)],[]):=by
 exact rt (ec (Ph s.ao i hc k)<|e0) (rs:=[au.c (st (aK s.ao i).1),au.c (ii (aK s.ao i).2)]) rfl
def An(d:Dk)(c0:List (List C))(c1:Int):St:=St.mk (T.bf::T.k (K.v (V.fX 0 0))::T.bf::T.bf::T.k (K.v (V.cX 1 c0 (Tk.tok 0)))::hs 7 (tc (ii (if 0>wrap .i64 ((↑(d.ax.length):Int)-2) then 0 else wrap .i64 ((↑(d.ax.length):Int)-2)))::tc (ii c1)::hs 17 [])) [[V.c (sS d.ax),V.c (sW d.ar),V.c (ii d.kU),V.c (bo d.gN)]] [c0.length]
theorem aah(d:Dk)(l:List ByteArray)(i:Nat)(hc:d.ar.length<=1000000)(hl:l.length<=1000000)(k:Nat)(z0:(decide ((↑i:Int)<if 0>wrap .i64 ((↑(d.ax.length):Int)-2) then 0 else wrap .i64 ((↑(d.ax.length):Int)-2)))=true)(z1:((aK d (↑i:Int)).2==0)=true):bQ (EE (k+4)) (HH 17) NN (LB PP 17 3) 1 1 (An d (List.map eS l) (↑i:Int)) (An d (List.map eS (l++[(aK d (↑i:Int)).1])) (wrap .i64 ((↑i:Int)+1))):=
 nx (eb z0<|ec (Ph d ((↑i:Int)) hc k)<|en z1<|ep (dH (eS) (l) ([(aK d (↑i:Int)).1]))<|ep (bz (eS) (l:=l++[(aK d (↑i:Int)).1]) (n:=1073741824) (by simp only[vr];omega))<|ep (eN ((List.map eS l).length))<|eg (G.app (List.map eS (l++[(aK d (↑i:Int)).1])))<|e0)
def v_(d:Dk)(l:List ByteArray)(i:Nat):St:=St.mk (T.bf::T.k (K.v (V.fX 0 0))::T.k (K.v (vE))::tc (ii (aK d (↑i:Int)).2)::T.k (K.v (V.cX 1 (List.map eS l) (Tk.tok 0)))::tc (ii (↑i:Int))::tc (st (aK d (↑i:Int)).1)::tc (ii (aK d (↑i:Int)).2)::hs 4 (tc (ii (if 0>wrap .i64 ((↑(d.ax.length):Int)-2) then 0 else wrap .i64 ((↑(d.ax.length):Int)-2)))::tc (ii (↑i:Int))::tc (bo (decide ((↑i:Int)<if 0>wrap .i64 ((↑(d.ax.length):Int)-2) then 0 else wrap .i64 ((↑(d.ax.length):Int)-2))))::tc (ii (↑i:Int))::T.Kk [K.v (V.c (st (aK d (↑i:Int)).1)),K.v (V.c (ii (aK d (↑i:Int)).2))]::T.k (K.agg [V.c (sS d.ax),V.c (sW d.ar),V.c (ii d.kU),V.c (bo d.gN)])::tc (ii (↑i:Int))::T.Kk [K.v (V.c (st (aK d (↑i:Int)).1)),K.v (V.c (ii (aK d (↑i:Int)).2))]::tc (st (aK d (↑i:Int)).1)::tc (ii (aK d (↑i:Int)).2)::tc (ii (aK d (↑i:Int)).2)::tc (bo ((aK d (↑i:Int)).2 !=0))::tc (ii (aK d (↑i:Int)).2)::hs 6 [])) [[V.c (sS d.ax),V.c (sW d.ar),V.c (ii d.kU),V.c (bo d.gN)]] [(List.map eS l).length]
theorem aai(d:Dk)(l:List ByteArray)(i:Nat)(hc:d.ar.length<=1000000)(k:Nat)(z0:(decide ((↑i:Int)<if 0>wrap .i64 ((↑(d.ax.length):Int)-2) then 0 else wrap .i64 ((↑(d.ax.length):Int)-2)))=true)(z1:((aK d (↑i:Int)).2==0)=false):dq (EE (k+4)) (HH 17) NN (LB PP 17 3) (An d (List.map eS l) (↑i:Int)) (dJ.ret) (v_ d l i):=
 ou (eb z0<|ec (Ph d ((↑i:Int)) hc k)<|en z1<|e0)
def wa(d:Dk)(l:List ByteArray)(i:Nat):St:=St.mk (T.bf::T.k (K.v (V.fX 0 0))::T.bf::T.bf::T.k (K.v (V.cX 1 (List.map eS l) (Tk.tok 0)))::hs 7 (tc (ii (if 0>wrap .i64 ((↑(d.ax.length):Int)-2) then 0 else wrap .i64 ((↑(d.ax.length):Int)-2)))::tc (ii (↑i:Int))::tc (bo (decide ((↑i:Int)<if 0>wrap .i64 ((↑(d.ax.length):Int)-2) then 0 else wrap .i64 ((↑(d.ax.length):Int)-2))))::hs 16 [])) [[V.c (sS d.ax),V.c (sW d.ar),V.c (ii d.kU),V.c (bo d.gN)]] [(List.map eS l).length]
theorem aaj(d:Dk)(l:List ByteArray)(i:Nat)(k:Nat)(z0:(decide ((↑i:Int)<if 0>wrap .i64 ((↑(d.ax.length):Int)-2) then 0 else wrap .i64 ((↑(d.ax.length):Int)-2)))=false):dq (EE (k+4)) (HH 17) NN (LB PP 17 3) (An d (List.map eS l) (↑i:Int)) (dJ.exit 0) (wa d l i):=
 ou (eb z0<|e0)
def aak(d:Dk):Int:=if(0:Int)>wrap .i64 ((d.ax.length:Int)-2) then 0 else wrap .i64 ((d.ax.length:Int)-2)
theorem Q9(d:Dk)(hs:d.ax.length<=1000000):aak d=((d.ax.length-2:Nat):Int):=by
 unfold aak
 rw[dG (by omega) (by omega)]
 split<;>omega
theorem aip(d:Dk)(hs:d.ax.length<=1000000)(hc:d.ar.length<=1000000):
 ((ld d=((List.range (d.ax.length-2)).map fun(i:Nat)=>(aK d (i:Int)).1,0))/\∀k,bT (EE (k+4)) (HH 17) NN (LB PP 17 3) (An d [] 0) (.exit 0) (wa d ((List.range (d.ax.length-2)).map fun(i:Nat)=>(aK d (i:Int)).1) (d.ax.length-2:Nat)))\/
 ∃(l:List ByteArray) (i:Nat),ld d=([],(aK d (i:Int)).2)/\∀k,bT (EE (k+4)) (HH 17) NN (LB PP 17 3) (An d [] 0) .ret (v_ d l i):=by
 have hn:∀i:Nat,i<d.ax.length-2->decide ((i:Int)<aak d)=true:=fun i hi=>cJ (by rw[Q9 d hs];omega)
 have hn2:decide (((d.ax.length-2:Nat):Int)<aak d)=false:=fN (by rw[Q9 d hs];omega)
 rcases pA (E:=fun k=>EE (k+4)) (H:=HH 17) (n:=NN) (b:=LB PP 17 3) (fun i=>An d (((List.range i).map fun(i:Nat)=>(aK d (i:Int)).1).map eS) (i:Nat)) (List.range (d.ax.length-2)) (fun(i:Nat)=>!((aK d (i:Int)).2==0)) (fun i x=>v_ d ((List.range i).map fun(i:Nat)=>(aK d (i:Int)).1) i) (wa d ((List.range (d.ax.length-2)).map fun(i:Nat)=>(aK d (i:Int)).1) (d.ax.length-2:Nat)) (nv:=1) (nt:=1) (e:= .ret) (e':= .exit 0) (by kernel_rfl) (by kernel_rfl)
  (fun k i x hx hp=>by
    have hi:=gJ hx
    rw[iM] at hi
    have Wz:x=i:=by have:=(List.getElem?_eq_some_iff.1 hx).2;simpa using this.symm
    subst Wz
    have:=aah d ((List.range x).map fun(i:Nat)=>(aK d (i:Int)).1) x hc (by simp;omega) k (hn x hi) (by simpa using hp)
    rw[RA hi (by omega)] at this
    rw[qW,fA,eY,gp]
    exact this)
  (fun k i x hx hp=>by
    have hi:=gJ hx
    rw[iM] at hi
    have Wz:x=i:=by have:=(List.getElem?_eq_some_iff.1 hx).2;simpa using this.symm
    subst Wz
    exact aai d _ x hc k (hn x hi) (by simpa using hp))
  (fun k=>by rw[iM];exact aaj d _ _ k hn2) (by rw[iM];unfold NN;omega) with⟨h1,h2⟩|⟨h1,i,x,hx,hp,hf,_,h2⟩
 ·refine .inl ⟨?_,h2⟩
  unfold ld
  have:(List.range (d.ax.length-2)).find? (fun(i:Nat)=>!((aK d (i:Int)).2==0))=none:=by
   rw[xB]
   rw[pf] at h1
   exact h1
  rw[this]
 ·have Wz:x=i:=by have:=(List.getElem?_eq_some_iff.1 hx).2;simpa using this.symm
  subst Wz
  refine .inr ⟨_,x,?_,h2⟩
  unfold ld
  rw[hf]
theorem aiq(d:Dk)(l:List ByteArray)(i:Nat)(hL:∀k,bT (EE (k+4)) (HH 17) NN (LB PP 17 3) (An d [] 0) dJ.ret (v_ d l i))(k:Nat):EO (k+5) 17 [A.agg d.cs] []=some ([au.top 1 [],au.c (ii (aK d (↑i:Int)).2)],[]):=by
 exact ro (ep (aG (eS) d.ax)<|eg (G.len d.ax.length)<|eg (G.loop dJ.ret (v_ d l i))<|ep (hL k)<|e0)
theorem air(d:Dk)(l:List ByteArray)(i:Nat)(hL:∀k,bT (EE (k+4)) (HH 17) NN (LB PP 17 3) (An d [] 0) (dJ.exit 0) (wa d l i))(k:Nat):EO (k+5) 17 [A.agg d.cs] []=some ([au.top 1 (List.map eS l),au.c (ii 0)],[]):=by
 exact ro (ep (aG (eS) d.ax)<|eg (G.len d.ax.length)<|eg (G.loop (dJ.exit 0) (wa d l i))<|ep (hL k)<|jg ((List.map eS l).length)<|e0)
theorem abA(d:Dk)(hs:d.ax.length<=1000000)(hc:d.ar.length<=1000000)(k:Nat):EO (k+5) 17 [.agg d.cs] []=some ([.top 1 ((ld d).1.map eS), .c (ii (ld d).2)],[]):=by
 rcases aip d hs hc with⟨h1,h2⟩|⟨l,i,h1,h2⟩
 ·rw[h1];exact air d _ _ h2 k
 ·rw[h1];exact aiq d l i h2 k
theorem wb(v:Vl)(b:Int)(k:Nat):EO (k+1) 50 [A.agg v.cs,A.c (ii b)] []=some ([au.c (bo (j3 v b))],[]):=by
 rcases be (decide (b>=0)) with z0|z0
 ·exact rt (eo z0<|ep (aG (eS) v.ay)<|eg (G.len v.ay.length)<|ci z0<|e0) (rs:=[au.c (bo (decide (b<(↑(v.ay.length):Int))))]) (by first|(simp only[j3,z0,vq]<;>rfl)|(simp_all only[j3,vq]<;>rfl))
 ·exact rt (hO z0<|e0) (rs:=[au.c (bo false)]) (by first|(simp only[j3,z0,vq]<;>rfl)|(simp_all only[j3,vq]<;>rfl))
theorem Xv(l:List ByteArray)(hl:l.length<=1000000)(k:Nat):EO (k+1) 88 [.c (.slice 1 (l.map eS))] []=some ([.top 1 (l.map eS)],[]):=by
 unfold EO
 rw[K4 (h:=zE 1) rfl]
 unfold zE
 have:(l.map eS).length<=1000000:=by rw[jq];exact hl
 simp only[true_or,true_and,this,bu]
def Six(l:List ByteArray)(x:ByteArray)(c0:Int):St:=St.mk (tc (sS l)::tc (st x)::hs 5 (tc (ii (↑(l.length):Int))::tc (ii c0)::hs 10 [])) [] []
def JY(l:List ByteArray)(x:ByteArray)(i:Nat)(y:ByteArray):St:=St.mk [tc (sS l),tc (st x),T.bf,T.bf,tc (ii (↑i:Int)),tc (ii (↑i:Int)),T.bf,tc (ii (↑(l.length):Int)),tc (ii (↑i:Int)),tc (bo (gL i l.length)),tc (ii (↑i:Int)),tc (st x),tc (sS l),tc (ii (↑i:Int)),tc (C.fJ [st y]),tc (st y),tc (bo (x==y)),tc (ii (↑i:Int)),T.bf] [] []
theorem ais(l:List ByteArray)(x:ByteArray)(i:Nat)(y:ByteArray)(hy:l[i]?=some y)(k:Nat)(z0:(gL i l.length)=true)(z1:(x==y)=true):dq (EE (k+1)) (HH 89) NN (LB PP 89 2) (Six l x (↑i:Int)) (dJ.ret) (JY l x i y):=
 ou (eb z0<|ep (rz i)<|ep (aT (f:=eS) hy)<|eg (G.fF i [st y])<|eb z1<|e0)
theorem ait(l:List ByteArray)(x:ByteArray)(i:Nat)(y:ByteArray)(hy:l[i]?=some y)(k:Nat)(z0:(gL i l.length)=true)(z1:(x==y)=false):bQ (EE (k+1)) (HH 89) NN (LB PP 89 2) 0 0 (Six l x (↑i:Int)) (Six l x (wrap .i64 ((↑i:Int)+1))):=
 nx (eb z0<|ep (rz i)<|ep (aT (f:=eS) hy)<|eg (G.fF i [st y])<|eb z1<|e0)
def JZ(l:List ByteArray)(x:ByteArray)(i:Nat):St:=St.mk (tc (sS l)::tc (st x)::hs 5 (tc (ii (↑(l.length):Int))::tc (ii (↑i:Int))::tc (bo (gL i l.length))::hs 9 [])) [] []
theorem aiu(l:List ByteArray)(x:ByteArray)(i:Nat)(k:Nat)(z0:(gL i l.length)=false):dq (EE (k+1)) (HH 89) NN (LB PP 89 2) (Six l x (↑i:Int)) (dJ.exit 0) (JZ l x i):=
 ou (eb z0<|e0)
theorem ixA(l:List ByteArray)(x:ByteArray)(i:Nat)(y:ByteArray)(hL:∀k,bT (EE (k+1)) (HH 89) NN (LB PP 89 2) (Six l x 0) dJ.ret (JY l x i y))(k:Nat):EO (k+2) 89 [A.c (sS l),A.c (st x)] []=some ([au.c (ii (↑i:Int))],[]):=by
 exact rt (ep (aG (eS) (l))<|eg (G.len l.length)<|eg (G.loop dJ.ret (JY l x i y))<|ep (hL k)<|e0) (rs:=[au.c (ii (↑i:Int))]) rfl
theorem ixB(l:List ByteArray)(x:ByteArray)(i:Nat)(hL:∀k,bT (EE (k+1)) (HH 89) NN (LB PP 89 2) (Six l x 0) (dJ.exit 0) (JZ l x i))(k:Nat):EO (k+2) 89 [A.c (sS l),A.c (st x)] []=some ([au.c (ii (-1:Int))],[]):=by
 exact rt (ep (aG (eS) (l))<|eg (G.len l.length)<|eg (G.loop (dJ.exit 0) (JZ l x i))<|ep (hL k)<|e0) (rs:=[au.c (ii (-1:Int))]) rfl
theorem ctN(l:List ByteArray)(x:ByteArray)(j:Int)(hI:∀k,EO (k+2) 89 [A.c (sS l),A.c (st x)] []=some ([au.c (ii j)],[]))(k:Nat):EO (k+3) 51 [A.c (sS l),A.c (st x)] []=some ([au.c (bo (decide (j>=0)))],[]):=by
 exact rt (ec (hI k)<|e0) (rs:=[au.c (bo (decide (j>=0)))]) rfl
theorem J0(l:List ByteArray)(x:ByteArray):l.contains x=l.any (fun y=>x==y):=by
 rw[xy]
 simp only[List.contains_iff_mem,List.any_eq_true,jF]
 exact⟨fun h=>⟨x,h,rfl⟩,fun⟨y,h,e⟩=>by rw[e];exact h⟩
theorem FO(l:List ByteArray)(x:ByteArray)(hl:l.length<=1000000)(k:Nat):EO (k+3) 51 [.c (.slice 1 (l.map eS)), .c (st x)] []=some ([.c (bo (l.contains x))],[]):=by
 rw[J0]
 rcases pA (E:=fun k=>EE (k+1)) (H:=HH 89) (n:=NN) (b:=LB PP 89 2) (fun i=>Six l x (i:Nat)) l (fun y=>x==y) (fun i y=>JY l x i y) (JZ l x l.length) (nv:=0) (nt:=0) (e:= .ret) (e':= .exit 0) (by kernel_rfl) (by kernel_rfl)
  (fun k i y hy hp=>by
    have:=ait l x i y hy k (sM hy) hp
    rwa[p6 hy (by omega)] at this)
  (fun k i y hy hp=>ais l x i y hy k (sM hy) hp)
  (fun k=>aiu l x _ k Gf) (by unfold NN;omega) with⟨h1,h2⟩|⟨h1,i,y,hy,hp,hf,_,h2⟩
 ·rw[h1]
  exact ctN l x (-1) (fun k=>ixB l x _ h2 k) k
 ·rw[h1]
  have e:decide (((i:Nat):Int)>=0)=true:=by simp
  have:=ctN l x (i:Int) (fun k=>ixA l x i y h2 k) k
  rwa[e] at this
theorem tl{α β:Type}{l:List α}{m:List β}{i:Nat}{z:α×β}(h:(l.zip m)[i]?=some z):l[i]?=some z.1/\m[i]?=some z.2:=by
 rw[H4] at h
 exact h
theorem wW{α:Type}[BEq α][LawfulBEq α]:∀{l m:List α},l.length=m.length->(l==m)=!((l.zip m).any fun z=>!(z.1==z.2))
 |[],[],_=>rfl
 |x::l,y::m,h=>by
  have ih:=wW (l:=l) (m:=m) (by simpa using h)
  show(x==y&&l==m)=_
  rw[ih,List.zip_cons_cons,List.any_cons]
  cases x==y<;>simp
 |[],_::_,h=>by simp at h
 |_::_,[],h=>by simp at h
theorem Bj{α:Type}[BEq α][LawfulBEq α]{l m:List α}(h:((l.length:Int)==(m.length:Int))=false):(l==m)=false:=by
 cases e:l==m with
 |false=>rfl
 |true=>
  have:=eq_of_beq e
  subst this
  simp at h
theorem yA{l m:Nat}(h:((l:Int)==(m:Int))=true):l=m:=by
 have:=eq_of_beq h
 omega
theorem ame(l:List ByteArray)(m:List ByteArray)(hh:((↑(l.length):Int)==(↑(m.length):Int))=false)(k:Nat):EO (k+2) 52 [A.c (sS l),A.c (sS m)] []=some ([au.c (bo false)],[]):=by
 exact rt (ep (aG (eS) (l))<|eg (G.len l.length)<|ep (aG (eS) (m))<|eg (G.len m.length)<|en hh<|e0) (rs:=[au.c (bo false)]) rfl
def Pi(l:List ByteArray)(m:List ByteArray)(c0:Int):St:=St.mk (tc (sS l)::tc (sS m)::hs 10 (tc (ii (↑(l.length):Int))::tc (ii c0)::hs 12 [])) [] []
theorem aec(l:List ByteArray)(m:List ByteArray)(i:Nat)(x:ByteArray)(y:ByteArray)(hx:l[i]?=some x)(hy:m[i]?=some y)(k:Nat)(z0:(gL i l.length)=true)(z1:(x==y)=true):bQ (EE (k+1)) (HH 52) NN (LB PP 52 4) 0 0 (Pi l m (↑i:Int)) (Pi l m (wrap .i64 ((↑i:Int)+1))):=
 nx (eb z0<|ep (rz i)<|ep (aT (f:=eS) hx)<|eg (G.fF i [st x])<|ep (rz i)<|ep (aT (f:=eS) hy)<|eg (G.fF i [st y])<|en z1<|e0)
def C0(l:List ByteArray)(m:List ByteArray)(i:Nat)(x:ByteArray)(y:ByteArray):St:=St.mk (tc (sS l)::tc (sS m)::T.bf::T.bf::tc (bo false)::tc (ii (↑i:Int))::hs 6 [tc (ii (↑(l.length):Int)),tc (ii (↑i:Int)),tc (bo (gL i l.length)),tc (ii (↑i:Int)),tc (sS l),tc (ii (↑i:Int)),tc (C.fJ [st x]),tc (st x),tc (sS m),tc (ii (↑i:Int)),tc (C.fJ [st y]),tc (st y),tc (bo !x==y),T.bf]) [] []
theorem aed(l:List ByteArray)(m:List ByteArray)(i:Nat)(x:ByteArray)(y:ByteArray)(hx:l[i]?=some x)(hy:m[i]?=some y)(k:Nat)(z0:(gL i l.length)=true)(z1:(x==y)=false):dq (EE (k+1)) (HH 52) NN (LB PP 52 4) (Pi l m (↑i:Int)) (dJ.ret) (C0 l m i x y):=
 ou (eb z0<|ep (rz i)<|ep (aT (f:=eS) hx)<|eg (G.fF i [st x])<|ep (rz i)<|ep (aT (f:=eS) hy)<|eg (G.fF i [st y])<|en z1<|e0)
def C1(l:List ByteArray)(m:List ByteArray)(i:Nat):St:=St.mk (tc (sS l)::tc (sS m)::hs 10 (tc (ii (↑(l.length):Int))::tc (ii (↑i:Int))::tc (bo (gL i l.length))::hs 11 [])) [] []
theorem aee(l:List ByteArray)(m:List ByteArray)(i:Nat)(k:Nat)(z0:(gL i l.length)=false):dq (EE (k+1)) (HH 52) NN (LB PP 52 4) (Pi l m (↑i:Int)) (dJ.exit 0) (C1 l m i):=
 ou (eb z0<|e0)
theorem amf(l:List ByteArray)(m:List ByteArray)(i:Nat)(x:ByteArray)(y:ByteArray)(hh:((↑(l.length):Int)==(↑(m.length):Int))=true)(hL:∀k,bT (EE (k+1)) (HH 52) NN (LB PP 52 4) (Pi l m 0) dJ.ret (C0 l m i x y))(k:Nat):EO (k+2) 52 [A.c (sS l),A.c (sS m)] []=some ([au.c (bo false)],[]):=by
 exact rt (ep (aG (eS) (l))<|eg (G.len l.length)<|ep (aG (eS) (m))<|eg (G.len m.length)<|en hh<|ep (aG (eS) (l))<|eg (G.len l.length)<|eg (G.loop dJ.ret (C0 l m i x y))<|ep (hL k)<|e0) (rs:=[au.c (bo false)]) rfl
theorem amg(l:List ByteArray)(m:List ByteArray)(i:Nat)(hh:((↑(l.length):Int)==(↑(m.length):Int))=true)(hL:∀k,bT (EE (k+1)) (HH 52) NN (LB PP 52 4) (Pi l m 0) (dJ.exit 0) (C1 l m i))(k:Nat):EO (k+2) 52 [A.c (sS l),A.c (sS m)] []=some ([au.c (bo true)],[]):=by
 exact rt (ep (aG (eS) (l))<|eg (G.len l.length)<|ep (aG (eS) (m))<|eg (G.len m.length)<|en hh<|ep (aG (eS) (l))<|eg (G.len l.length)<|eg (G.loop (dJ.exit 0) (C1 l m i))<|ep (hL k)<|e0) (rs:=[au.c (bo true)]) rfl
theorem FP(l m:List ByteArray)(hl:l.length<=1000000)(k:Nat):EO (k+2) 52 [.c (.slice 1 (l.map eS)), .c (.slice 1 (m.map eS))] []=some ([.c (bo (l==m))],[]):=by
 cases hh:(l.length:Int)==(m.length:Int) with
 |false=>rw[Bj hh];exact ame l m hh k
 |true=>
  have dK:=yA hh
  have hz:(l.zip m).length=l.length:=by rw[uS];omega
  rw[wW dK]
  rcases pA (E:=fun k=>EE (k+1)) (H:=HH 52) (n:=NN) (b:=LB PP 52 4) (fun i=>Pi l m (i:Nat)) (l.zip m) (fun z=>!(z.1==z.2)) (fun i z=>C0 l m i z.1 z.2) (C1 l m l.length) (nv:=0) (nt:=0) (e:= .ret) (e':= .exit 0) (by kernel_rfl) (by kernel_rfl)
   (fun k i z QJ hp=>by
     obtain⟨h1,h2⟩:=tl QJ
     have:=aec l m i z.1 z.2 h1 h2 k (sM h1) (by simpa using hp)
     rwa[p6 h1 (by omega)] at this)
   (fun k i z QJ hp=>by
     obtain⟨h1,h2⟩:=tl QJ
     exact aed l m i z.1 z.2 h1 h2 k (sM h1) (by simpa using hp))
   (fun k=>by rw[hz];exact aee l m _ k Gf) (by unfold NN;omega) with⟨h1,h2⟩|⟨h1,i,z,hy,hp,hf,_,h2⟩
  ·rw[h1];exact amg l m _ hh h2 k
  ·rw[h1];exact amf l m i z.1 z.2 hh h2 k
theorem amh(l:List Int)(m:List Int)(hh:((↑(l.length):Int)==(↑(m.length):Int))=false)(k:Nat):EO (k+2) 53 [A.c (sI l),A.c (sI m)] []=some ([au.c (bo false)],[]):=by
 exact rt (ep (aG (eI) (l))<|eg (G.len l.length)<|ep (aG (eI) (m))<|eg (G.len m.length)<|en hh<|e0) (rs:=[au.c (bo false)]) rfl
def Pj(l:List Int)(m:List Int)(c0:Int):St:=St.mk (tc (sI l)::tc (sI m)::hs 10 (tc (ii (↑(l.length):Int))::tc (ii c0)::hs 12 [])) [] []
theorem aef(l:List Int)(m:List Int)(i:Nat)(x:Int)(y:Int)(hx:l[i]?=some x)(hy:m[i]?=some y)(k:Nat)(z0:(gL i l.length)=true)(z1:(x==y)=true):bQ (EE (k+1)) (HH 53) NN (LB PP 53 4) 0 0 (Pj l m (↑i:Int)) (Pj l m (wrap .i64 ((↑i:Int)+1))):=
 nx (eb z0<|ep (rz i)<|ep (aT (f:=eI) hx)<|eg (G.fF i [ii x])<|ep (rz i)<|ep (aT (f:=eI) hy)<|eg (G.fF i [ii y])<|en z1<|e0)
def C2(l:List Int)(m:List Int)(i:Nat)(x:Int)(y:Int):St:=St.mk (tc (sI l)::tc (sI m)::T.bf::T.bf::tc (bo false)::tc (ii (↑i:Int))::hs 6 [tc (ii (↑(l.length):Int)),tc (ii (↑i:Int)),tc (bo (gL i l.length)),tc (ii (↑i:Int)),tc (sI l),tc (ii (↑i:Int)),tc (C.fJ [ii x]),tc (ii x),tc (sI m),tc (ii (↑i:Int)),tc (C.fJ [ii y]),tc (ii y),tc (bo (x !=y)),T.bf]) [] []
theorem aeg(l:List Int)(m:List Int)(i:Nat)(x:Int)(y:Int)(hx:l[i]?=some x)(hy:m[i]?=some y)(k:Nat)(z0:(gL i l.length)=true)(z1:(x==y)=false):dq (EE (k+1)) (HH 53) NN (LB PP 53 4) (Pj l m (↑i:Int)) (dJ.ret) (C2 l m i x y):=
 ou (eb z0<|ep (rz i)<|ep (aT (f:=eI) hx)<|eg (G.fF i [ii x])<|ep (rz i)<|ep (aT (f:=eI) hy)<|eg (G.fF i [ii y])<|en z1<|e0)
def C3(l:List Int)(m:List Int)(i:Nat):St:=St.mk (tc (sI l)::tc (sI m)::hs 10 (tc (ii (↑(l.length):Int))::tc (ii (↑i:Int))::tc (bo (gL i l.length))::hs 11 [])) [] []
theorem aeh(l:List Int)(m:List Int)(i:Nat)(k:Nat)(z0:(gL i l.length)=false):dq (EE (k+1)) (HH 53) NN (LB PP 53 4) (Pj l m (↑i:Int)) (dJ.exit 0) (C3 l m i):=
 ou (eb z0<|e0)
theorem ami(l:List Int)(m:List Int)(i:Nat)(x:Int)(y:Int)(hh:((↑(l.length):Int)==(↑(m.length):Int))=true)(hL:∀k,bT (EE (k+1)) (HH 53) NN (LB PP 53 4) (Pj l m 0) dJ.ret (C2 l m i x y))(k:Nat):EO (k+2) 53 [A.c (sI l),A.c (sI m)] []=some ([au.c (bo false)],[]):=by
 exact rt (ep (aG (eI) (l))<|eg (G.len l.length)<|ep (aG (eI) (m))<|eg (G.len m.length)<|en hh<|ep (aG (eI) (l))<|eg (G.len l.length)<|eg (G.loop dJ.ret (C2 l m i x y))<|ep (hL k)<|e0) (rs:=[au.c (bo false)]) rfl
theorem amj(l:List Int)(m:List Int)(i:Nat)(hh:((↑(l.length):Int)==(↑(m.length):Int))=true)(hL:∀k,bT (EE (k+1)) (HH 53) NN (LB PP 53 4) (Pj l m 0) (dJ.exit 0) (C3 l m i))(k:Nat):EO (k+2) 53 [A.c (sI l),A.c (sI m)] []=some ([au.c (bo true)],[]):=by
 exact rt (ep (aG (eI) (l))<|eg (G.len l.length)<|ep (aG (eI) (m))<|eg (G.len m.length)<|en hh<|ep (aG (eI) (l))<|eg (G.len l.length)<|eg (G.loop (dJ.exit 0) (C3 l m i))<|ep (hL k)<|e0) (rs:=[au.c (bo true)]) rfl
theorem Xw(l m:List Int)(hl:l.length<=1000000)(k:Nat):EO (k+2) 53 [.c (.slice 1 (l.map eI)), .c (.slice 1 (m.map eI))] []=some ([.c (bo (l==m))],[]):=by
 cases hh:(l.length:Int)==(m.length:Int) with
 |false=>rw[Bj hh];exact amh l m hh k
 |true=>
  have dK:=yA hh
  have hz:(l.zip m).length=l.length:=by rw[uS];omega
  rw[wW dK]
  rcases pA (E:=fun k=>EE (k+1)) (H:=HH 53) (n:=NN) (b:=LB PP 53 4) (fun i=>Pj l m (i:Nat)) (l.zip m) (fun z=>!(z.1==z.2)) (fun i z=>C2 l m i z.1 z.2) (C3 l m l.length) (nv:=0) (nt:=0) (e:= .ret) (e':= .exit 0) (by kernel_rfl) (by kernel_rfl)
   (fun k i z QJ hp=>by
     obtain⟨h1,h2⟩:=tl QJ
     have:=aef l m i z.1 z.2 h1 h2 k (sM h1) (by simpa using hp)
     rwa[p6 h1 (by omega)] at this)
   (fun k i z QJ hp=>by
     obtain⟨h1,h2⟩:=tl QJ
     exact aeg l m i z.1 z.2 h1 h2 k (sM h1) (by simpa using hp))
   (fun k=>by rw[hz];exact aeh l m _ k Gf) (by unfold NN;omega) with⟨h1,h2⟩|⟨h1,i,z,hy,hp,hf,_,h2⟩
  ·rw[h1];exact amj l m _ hh h2 k
  ·rw[h1];exact ami l m i z.1 z.2 hh h2 k
theorem amk(l:List (List ByteArray))(m:List (List ByteArray))(hh:((↑(l.length):Int)==(↑(m.length):Int))=false)(k:Nat):EO (k+4) 54 [A.c (sL l),A.c (sL m),A.c (C.fn 52 [])] []=some ([au.c (bo false)],[]):=by
 exact rt (ep (aG (eL) (l))<|eg (G.len l.length)<|ep (aG (eL) (m))<|eg (G.len m.length)<|en hh<|e0) (rs:=[au.c (bo false)]) rfl
def Pl(l:List (List ByteArray))(m:List (List ByteArray))(c0:Int):St:=St.mk (T.bf::tc (sL m)::tc (C.fn 52 [])::hs 12 (tc (sL l)::tc (ii (↑(l.length):Int))::tc (ii c0)::hs 14 [])) [] []
theorem aei(l:List (List ByteArray))(m:List (List ByteArray))(i:Nat)(x:List ByteArray)(y:List ByteArray)(hx:l[i]?=some x)(hy:m[i]?=some y)(hs:x.length<=1000000)(k:Nat)(z0:(gL i l.length)=true)(z1:(x==y)=true):bQ (EE (k+3)) (HH 54) NN (LB PP 54 4) 0 0 (Pl l m (↑i:Int)) (Pl l m (wrap .i64 ((↑i:Int)+1))):=
 nx (eb z0<|ep (rz i)<|ep (aT (f:=eL) hx)<|eg (G.fF i [sS x])<|ep (rz i)<|ep (aT (f:=eL) hy)<|eg (G.fF i [sS y])<|ec (FP x y hs (k+1))<|en z1<|e0)
def C4(l:List (List ByteArray))(m:List (List ByteArray))(i:Nat)(x:List ByteArray)(y:List ByteArray):St:=St.mk (T.bf::tc (sL m)::tc (C.fn 52 [])::T.bf::T.bf::T.bf::tc (bo false)::tc (ii (↑i:Int))::tc (sS x)::tc (sS y)::Dm.hs 5 [tc (sL l),tc (ii (↑(l.length):Int)),tc (ii (↑i:Int)),tc (bo (gL i l.length)),tc (ii (↑i:Int)),tc (C.fJ [sS x]),tc (sS x),tc (sL m),tc (ii (↑i:Int)),tc (C.fJ [sS y]),tc (sS y),tc (C.fn 52 []),tc (sS x),tc (sS y),tc (bo (x==y)),tc (bo !x==y),T.bf]) [] []
theorem aej(l:List (List ByteArray))(m:List (List ByteArray))(i:Nat)(x:List ByteArray)(y:List ByteArray)(hx:l[i]?=some x)(hy:m[i]?=some y)(hs:x.length<=1000000)(k:Nat)(z0:(gL i l.length)=true)(z1:(x==y)=false):dq (EE (k+3)) (HH 54) NN (LB PP 54 4) (Pl l m (↑i:Int)) (dJ.ret) (C4 l m i x y):=
 ou (eb z0<|ep (rz i)<|ep (aT (f:=eL) hx)<|eg (G.fF i [sS x])<|ep (rz i)<|ep (aT (f:=eL) hy)<|eg (G.fF i [sS y])<|ec (FP x y hs (k+1))<|en z1<|e0)
def C5(l:List (List ByteArray))(m:List (List ByteArray))(i:Nat):St:=St.mk (T.bf::tc (sL m)::tc (C.fn 52 [])::Dm.hs 12 (tc (sL l)::tc (ii (↑(l.length):Int))::tc (ii (↑i:Int))::tc (bo (gL i l.length))::Dm.hs 13 [])) [] []
theorem aek(l:List (List ByteArray))(m:List (List ByteArray))(i:Nat)(k:Nat)(z0:(gL i l.length)=false):dq (EE (k+3)) (HH 54) NN (LB PP 54 4) (Pl l m (↑i:Int)) (dJ.exit 0) (C5 l m i):=
 ou (eb z0<|e0)
theorem aml(l:List (List ByteArray))(m:List (List ByteArray))(i:Nat)(x:List ByteArray)(y:List ByteArray)(hh:((↑(l.length):Int)==(↑(m.length):Int))=true)(hL:∀k,bT (EE (k+3)) (HH 54) NN (LB PP 54 4) (Pl l m 0) dJ.ret (C4 l m i x y))(k:Nat):EO (k+4) 54 [A.c (sL l),A.c (sL m),A.c (C.fn 52 [])] []=some ([au.c (bo false)],[]):=by
 exact rt (ep (aG (eL) (l))<|eg (G.len l.length)<|ep (aG (eL) (m))<|eg (G.len m.length)<|en hh<|ep (aG (eL) (l))<|eg (G.len l.length)<|eg (G.loop dJ.ret (C4 l m i x y))<|ep (hL k)<|e0) (rs:=[au.c (bo false)]) rfl
theorem amm(l:List (List ByteArray))(m:List (List ByteArray))(i:Nat)(hh:((↑(l.length):Int)==(↑(m.length):Int))=true)(hL:∀k,bT (EE (k+3)) (HH 54) NN (LB PP 54 4) (Pl l m 0) (dJ.exit 0) (C5 l m i))(k:Nat):EO (k+4) 54 [A.c (sL l),A.c (sL m),A.c (C.fn 52 [])] []=some ([au.c (bo true)],[]):=by
 exact rt (ep (aG (eL) (l))<|eg (G.len l.length)<|ep (aG (eL) (m))<|eg (G.len m.length)<|en hh<|ep (aG (eL) (l))<|eg (G.len l.length)<|eg (G.loop (dJ.exit 0) (C5 l m i))<|ep (hL k)<|e0) (rs:=[au.c (bo true)]) rfl
theorem ael(l m:List (List ByteArray))(hl:l.length<=1000000)(hx:∀x∈l,x.length<=1000000)(k:Nat):EO (k+4) 54 [.c (.slice 1 (l.map eL)), .c (.slice 1 (m.map eL)), .c (.fn 52 [])] []=some ([.c (bo (l==m))],[]):=by
 cases hh:(l.length:Int)==(m.length:Int) with
 |false=>rw[Bj hh];exact amk l m hh k
 |true=>
  have dK:=yA hh
  have hz:(l.zip m).length=l.length:=by rw[uS];omega
  rw[wW dK]
  rcases pA (E:=fun k=>EE (k+3)) (H:=HH 54) (n:=NN) (b:=LB PP 54 4) (fun i=>Pl l m (i:Nat)) (l.zip m) (fun z=>!(z.1==z.2)) (fun i z=>C4 l m i z.1 z.2) (C5 l m l.length) (nv:=0) (nt:=0) (e:= .ret) (e':= .exit 0) (by kernel_rfl) (by kernel_rfl)
   (fun k i z QJ hp=>by
     obtain⟨h1,h2⟩:=tl QJ
     have:=aei l m i z.1 z.2 h1 h2 (hx _ (jD h1)) k (sM h1) (by simpa using hp)
     rwa[p6 h1 (by omega)] at this)
   (fun k i z QJ hp=>by
     obtain⟨h1,h2⟩:=tl QJ
     exact aej l m i z.1 z.2 h1 h2 (hx _ (jD h1)) k (sM h1) (by simpa using hp))
   (fun k=>by rw[hz];exact aek l m _ k Gf) (by unfold NN;omega) with⟨h1,h2⟩|⟨h1,i,z,hy,hp,hf,_,h2⟩
  ·rw[h1];exact amm l m _ hh h2 k
  ·rw[h1];exact aml l m i z.1 z.2 hh h2 k
def m8(a b:Vl):Bool:=a.ay==b.ay&&a.aB==b.aB&&a.begun==b.begun
theorem aem(a:Vl)(b:Vl)(h1:a.ay.length<=1000000)(h2:a.aB.length<=1000000)(h3:a.begun.length<=1000000)(h4:∀(x:List ByteArray),x∈Vl.begun a->x.length<=1000000)(k:Nat):EO (k+5) 25 [A.agg a.cs,A.agg b.cs] []=some ([au.c (bo (m8 a b))],[]):=by
 rcases be (a.ay==b.ay) with z0|z0
 ·rcases be (a.aB==b.aB) with z1|z1
  ·exact rt (ec (FP a.ay b.ay h1 (k+2))<|sy z0<|ec (Xw a.aB b.aB h2 (k+2))<|eb z0<|sy z1<|ec (ael a.begun b.begun h3 h4 k)<|eb z1<|e0) (rs:=[au.c (bo (a.begun==b.begun))]) (by first|(simp only[m8,z0,z1,vq]<;>rfl)|(simp_all only[m8,vq]<;>rfl))
  ·exact rt (ec (FP a.ay b.ay h1 (k+2))<|sy z0<|ec (Xw a.aB b.aB h2 (k+2))<|eb z0<|hO z1<|e0) (rs:=[au.c (bo false)]) (by first|(simp only[m8,z0,z1,vq]<;>rfl)|(simp_all only[m8,vq]<;>rfl))
 ·exact rt (ec (FP a.ay b.ay h1 (k+2))<|hO z0<|fP<|e0) (rs:=[au.c (bo false)]) (by first|(simp only[m8,z0,vq]<;>rfl)|(simp_all only[m8,vq]<;>rfl))
structure VB(v:Vl):Prop where
 h1:v.ay.length<=1000000
 h2:v.aB.length<=1000000
 h3:v.begun.length<=1000000
 h4:∀x∈v.begun,x.length<=1000000
theorem Pm(x0:Vl)(x1:Vl)(y0:Vl)(y1:Vl)(hA:∀k,EO (k+5) 25 [A.agg x0.cs,A.agg y0.cs] []=some ([au.c (bo (m8 x0 y0))],[]))(hB:∀k,EO (k+5) 25 [A.agg x1.cs,A.agg y1.cs] []=some ([au.c (bo (m8 x1 y1))],[]))(k:Nat):EO (k+6) 24 [A.c (C.slice 3 [x0.cs,x1.cs]),A.c (C.slice 3 [y0.cs,y1.cs]),A.c (C.fn 25 [])] []=some ([au.c (bo (m8 x0 y0&&m8 x1 y1))],[]):=by
 rcases be (m8 x0 y0) with z0|z0
 ·rcases be (m8 x1 y1) with z1|z1
  ·exact rt (ep (rfl:(2:Nat)=(2:Nat))<|eg (G.len 2)<|ep (rfl:(2:Nat)=(2:Nat))<|eg (G.len 2)<|ef<|ep (rfl:(2:Nat)=(2:Nat))<|eg (G.len 2)<|eg (G.un)<|et<|ep (rfl:(0:Int)=(0:Int))<|ep (rfl:some ([sS x0.ay,sL x0.begun,sI x0.aB])=some ([sS x0.ay,sL x0.begun,sI x0.aB]))<|eg (G.fF 0 [sS x0.ay,sL x0.begun,sI x0.aB])<|ep (rfl:(0:Int)=(0:Int))<|ep (rfl:some ([sS y0.ay,sL y0.begun,sI y0.aB])=some ([sS y0.ay,sL y0.begun,sI y0.aB]))<|eg (G.fF 0 [sS y0.ay,sL y0.begun,sI y0.aB])<|ec (hA k)<|en z0<|et<|ep (rfl:(1:Int)=(1:Int))<|ep (rfl:some ([sS x1.ay,sL x1.begun,sI x1.aB])=some ([sS x1.ay,sL x1.begun,sI x1.aB]))<|eg (G.fF 1 [sS x1.ay,sL x1.begun,sI x1.aB])<|ep (rfl:(1:Int)=(1:Int))<|ep (rfl:some ([sS y1.ay,sL y1.begun,sI y1.aB])=some ([sS y1.ay,sL y1.begun,sI y1.aB]))<|eg (G.fF 1 [sS y1.ay,sL y1.begun,sI y1.aB])<|ec (hB k)<|en z1<|ef<|e0) (rs:=[au.c (bo true)]) (by first|(simp only[z0,z1,vq]<;>rfl)|(simp_all only[vq]<;>rfl))
  ·exact rt (ep (rfl:(2:Nat)=(2:Nat))<|eg (G.len 2)<|ep (rfl:(2:Nat)=(2:Nat))<|eg (G.len 2)<|ef<|ep (rfl:(2:Nat)=(2:Nat))<|eg (G.len 2)<|eg (G.un)<|et<|ep (rfl:(0:Int)=(0:Int))<|ep (rfl:some ([sS x0.ay,sL x0.begun,sI x0.aB])=some ([sS x0.ay,sL x0.begun,sI x0.aB]))<|eg (G.fF 0 [sS x0.ay,sL x0.begun,sI x0.aB])<|ep (rfl:(0:Int)=(0:Int))<|ep (rfl:some ([sS y0.ay,sL y0.begun,sI y0.aB])=some ([sS y0.ay,sL y0.begun,sI y0.aB]))<|eg (G.fF 0 [sS y0.ay,sL y0.begun,sI y0.aB])<|ec (hA k)<|en z0<|et<|ep (rfl:(1:Int)=(1:Int))<|ep (rfl:some ([sS x1.ay,sL x1.begun,sI x1.aB])=some ([sS x1.ay,sL x1.begun,sI x1.aB]))<|eg (G.fF 1 [sS x1.ay,sL x1.begun,sI x1.aB])<|ep (rfl:(1:Int)=(1:Int))<|ep (rfl:some ([sS y1.ay,sL y1.begun,sI y1.aB])=some ([sS y1.ay,sL y1.begun,sI y1.aB]))<|eg (G.fF 1 [sS y1.ay,sL y1.begun,sI y1.aB])<|ec (hB k)<|en z1<|e0) (rs:=[au.c (bo false)]) (by first|(simp only[z0,z1,vq]<;>rfl)|(simp_all only[vq]<;>rfl))
 ·exact rt (ep (rfl:(2:Nat)=(2:Nat))<|eg (G.len 2)<|ep (rfl:(2:Nat)=(2:Nat))<|eg (G.len 2)<|ef<|ep (rfl:(2:Nat)=(2:Nat))<|eg (G.len 2)<|eg (G.un)<|et<|ep (rfl:(0:Int)=(0:Int))<|ep (rfl:some ([sS x0.ay,sL x0.begun,sI x0.aB])=some ([sS x0.ay,sL x0.begun,sI x0.aB]))<|eg (G.fF 0 [sS x0.ay,sL x0.begun,sI x0.aB])<|ep (rfl:(0:Int)=(0:Int))<|ep (rfl:some ([sS y0.ay,sL y0.begun,sI y0.aB])=some ([sS y0.ay,sL y0.begun,sI y0.aB]))<|eg (G.fF 0 [sS y0.ay,sL y0.begun,sI y0.aB])<|ec (hA k)<|en z0<|e0) (rs:=[au.c (bo false)]) (by first|(simp only[z0,vq]<;>rfl)|(simp_all only[vq]<;>rfl))
def Ck(p:Int)(o:Ou):Bool:=o.ae==2&&o.node==p&&!(o.j2==0)
theorem abB(o:Ou)(p:Int)(k:Nat):EO (k+1) 86 [A.agg o.cs,A.c (C.fJ [ii p])] []=some ([au.c (bo (Ck p o))],[]):=by
 rcases be (o.ae==2) with z0|z0
 ·rcases be (o.node==p) with z1|z1
  ·exact rt (sy z0<|eo z1<|e0) (rs:=[au.c (bo (o.j2 !=0))]) (by first|(simp only[Ck,z0,z1,vq]<;>rfl)|(simp_all only[Ck,vq]<;>rfl))
  ·exact rt (sy z0<|eo z1<|e0) (rs:=[au.c (bo false)]) (by first|(simp only[Ck,z0,z1,vq]<;>rfl)|(simp_all only[Ck,vq]<;>rfl))
 ·exact rt (sy z0<|kT<|e0) (rs:=[au.c (bo false)]) (by first|(simp only[Ck,z0,vq]<;>rfl)|(simp_all only[Ck,vq]<;>rfl))
def Sif(l:List Ou)(p:Int)(c0:Int):St:=St.mk (tc (sO l)::tc (C.fn 86 [C.fJ [ii p]])::hs 5 (tc (ii (↑(l.length):Int))::tc (ii c0)::hs 10 [])) [] []
def J1(l:List Ou)(p:Int)(i:Nat)(y:Ou):St:=St.mk [tc (sO l),tc (C.fn 86 [C.fJ [ii p]]),T.bf,T.bf,tc (ii (↑i:Int)),tc (ii (↑i:Int)),T.bf,tc (ii (↑(l.length):Int)),tc (ii (↑i:Int)),tc (bo (gL i l.length)),tc (ii (↑i:Int)),tc (C.fn 86 [C.fJ [ii p]]),tc (sO l),tc (ii (↑i:Int)),tc (C.fJ [ii y.ae,ii y.node,ii y.id,ii y.j2,st y.data]),T.k (K.agg [V.c (ii y.ae),V.c (ii y.node),V.c (ii y.id),V.c (ii y.j2),V.c (st y.data)]),tc (bo (Ck p y)),tc (ii (↑i:Int)),T.bf] [] []
theorem aiv(l:List Ou)(p:Int)(i:Nat)(y:Ou)(hy:l[i]?=some y)(k:Nat)(z0:(gL i l.length)=true)(z1:(Ck p y)=true):dq (EE (k+2)) (HH 119) NN (LB PP 119 2) (Sif l p (↑i:Int)) (dJ.ret) (J1 l p i y):=
 ou (eb z0<|ep (rz i)<|ep (aT (f:=Ou.cs) hy)<|eg (G.fF i [ii y.ae,ii y.node,ii y.id,ii y.j2,st y.data])<|ec (abB y p (k+1))<|eb z1<|e0)
theorem aiw(l:List Ou)(p:Int)(i:Nat)(y:Ou)(hy:l[i]?=some y)(k:Nat)(z0:(gL i l.length)=true)(z1:(Ck p y)=false):bQ (EE (k+2)) (HH 119) NN (LB PP 119 2) 0 0 (Sif l p (↑i:Int)) (Sif l p (wrap .i64 ((↑i:Int)+1))):=
 nx (eb z0<|ep (rz i)<|ep (aT (f:=Ou.cs) hy)<|eg (G.fF i [ii y.ae,ii y.node,ii y.id,ii y.j2,st y.data])<|ec (abB y p (k+1))<|eb z1<|e0)
def J3(l:List Ou)(p:Int)(i:Nat):St:=St.mk (tc (sO l)::tc (C.fn 86 [C.fJ [ii p]])::hs 5 (tc (ii (↑(l.length):Int))::tc (ii (↑i:Int))::tc (bo (gL i l.length))::hs 9 [])) [] []
theorem aix(l:List Ou)(p:Int)(i:Nat)(k:Nat)(z0:(gL i l.length)=false):dq (EE (k+2)) (HH 119) NN (LB PP 119 2) (Sif l p (↑i:Int)) (dJ.exit 0) (J3 l p i):=
 ou (eb z0<|e0)
theorem ifA(l:List Ou)(p:Int)(i:Nat)(y:Ou)(hL:∀k,bT (EE (k+2)) (HH 119) NN (LB PP 119 2) (Sif l p 0) dJ.ret (J1 l p i y))(k:Nat):EO (k+3) 119 [A.c (sO l),A.c (C.fn 86 [C.fJ [ii p]])] []=some ([au.c (ii (↑i:Int))],[]):=by
 exact rt (ep (aG (Ou.cs) (l))<|eg (G.len l.length)<|eg (G.loop dJ.ret (J1 l p i y))<|ep (hL k)<|e0) (rs:=[au.c (ii (↑i:Int))]) rfl
theorem ifB(l:List Ou)(p:Int)(i:Nat)(hL:∀k,bT (EE (k+2)) (HH 119) NN (LB PP 119 2) (Sif l p 0) (dJ.exit 0) (J3 l p i))(k:Nat):EO (k+3) 119 [A.c (sO l),A.c (C.fn 86 [C.fJ [ii p]])] []=some ([au.c (ii (-1:Int))],[]):=by
 exact rt (ep (aG (Ou.cs) (l))<|eg (G.len l.length)<|eg (G.loop (dJ.exit 0) (J3 l p i))<|ep (hL k)<|e0) (rs:=[au.c (ii (-1:Int))]) rfl
theorem cfN(l:List Ou)(p:Int)(j:Int)(hI:∀k,EO (k+3) 119 [A.c (sO l),A.c (C.fn 86 [C.fJ [ii p]])] []=some ([au.c (ii j)],[]))(k:Nat):EO (k+4) 85 [A.c (sO l),A.c (C.fn 86 [C.fJ [ii p]])] []=some ([au.c (bo (decide (j>=0)))],[]):=by
 exact rt (ec (hI k)<|e0) (rs:=[au.c (bo (decide (j>=0)))]) rfl
theorem Tj(l:List Ou)(p:Int)(hl:l.length<=1000000)(k:Nat):EO (k+4) 85 [.c (.slice 5 (l.map Ou.cs)), .c (.fn 86 [.fJ [ii p]])] []=some ([.c (bo (dC l p))],[]):=by
 have er:dC l p=l.any (Ck p):=rfl
 rw[er]
 rcases pA (E:=fun k=>EE (k+2)) (H:=HH 119) (n:=NN) (b:=LB PP 119 2) (fun i=>Sif l p (i:Nat)) l (Ck p) (fun i y=>J1 l p i y) (J3 l p l.length) (nv:=0) (nt:=0) (e:= .ret) (e':= .exit 0) (by kernel_rfl) (by kernel_rfl)
  (fun k i y hy hp=>by
    have:=aiw l p i y hy k (sM hy) hp
    rwa[p6 hy (by omega)] at this)
  (fun k i y hy hp=>aiv l p i y hy k (sM hy) hp)
  (fun k=>aix l p _ k Gf) (by unfold NN;omega) with⟨h1,h2⟩|⟨h1,i,y,hy,hp,hf,_,h2⟩
 ·rw[h1]
  exact cfN l p (-1) (fun k=>ifB l p _ h2 k) k
 ·rw[h1]
  have e:decide (((i:Nat):Int)>=0)=true:=by simp
  have:=cfN l p (i:Int) (fun k=>ifA l p i y h2 k) k
  rwa[e] at this
end Go.Dm
