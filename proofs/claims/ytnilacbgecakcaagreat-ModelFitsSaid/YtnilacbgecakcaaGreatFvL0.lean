/-
  A part of the proofs over this seat: its functions, one by one (the file in which the theorems stand says what is proved).
-/
import Derived.KernelRfl
import Derived.Test.YtnilacbgecakcaaGreatProg
import Derived.Test.YtnilacbgecakcaaGreatFvM2
set_option maxRecDepth 100000
set_option maxHeartbeats 0
set_option linter.unusedSimpArgs false
set_option linter.unusedVariables false
namespace Go.Dm
open Go
open Go.IntKind (wrap)
noncomputable abbrev PP:=Proofs.Tryz.prog
def GL:Nat->Option (List C):=fun _=>none
def XX:Tab:=fun f=>match f with|57=>some IX|88=>some (zE 1)|_=>none
def HH0:FuncId->Nat->bY
 |3,8=>{bJ:=[0,2,3,4,8,9,10,11,12,13,14,15,16,17,18,19,20,21,22,23,24,25,26,27,28,29,30,31,32,33,34,35,36,37,38,39,40,41,42,43,44,45,46,47,48,49,50,51,52,53,54,55,56]}
 |4,8=>{bJ:=[0,2,3,4,8,9,10,11,12,13,14,15,16,17,18,19,20,21,22,23,24,25,26,27,28,29,30,31,32,33,34,35,36,37,38,39,40,41,42,43,44,45,46,47,48,49,50,51,52,53,54,55,56,57,58,59,60,61,62,63,64,65,66,67,68,69,70,71,72,73,74,75,76,77,78,79,80,81,82,83,84,85,86,87,88,89,90,91,92,93,94,95,96,97,98,99,100,101,102,103,104,105,106,107,108,109,110,111,112,113,114,115,116,117,118,119,120,121,122,123,124,125,126,127,128]}
 |4,15=>{bJ:=[0,2,3,4,9,12,13,14,15,16,17,18,19,20,21,22,23,24,25,26,27,28,29,30,31,32,33,34,35,36,37,38,39,40,41,42,43,44,45,46,47,48,49,50,51,52,53,54,55,56,57,58,59,60,61,62,63,64,65,66,67,68,69,70,71,72,73,74,75,76,77,78,79,80,81,82,83,84,85,86,87,88,89,90,91,92,93,94,95,96,97,98,99,100,101,102,103,104,105,106,107,108,109,110,111,112,113,114,115,116,117,118,119,120,121,122,123,124,125,126,127,128]}
 |4,20=>{bJ:=[0,2,3,4,9,13,14,15,16,17,18,19,20,21,22,23,24,25,26,27,28,29,30,31,32,33,34,35,36,37,38,39,40,41,42,43,44,45,46,47,48,49,50,51,52,53,54,55,56,57,58,59,60,61,62,63,64,65,66,67,68,69,70,71,72,73,74,75,76,77,78,79,80,81,82,83,84,85,86,87,88,89,90,91,92,93,94,95,96,97,98,99,100,101,102,103,104,105,106,107,108,109,110,111,112,113,114,115,116,117,118,119,120,121,122,123,124,125,126,127,128]}
 |9,2=>{bJ:=[0,1,3,4,5,6,7,10,11,12,13,14,15,16,17,18,19,20,21,22,23,24,25,26,27,28,29,30,31,32]}
 |11,5=>{bJ:=[0,1,2,3,4,5,6,7,9,12,13,14,15,16,17,18,19,20,21,22,23,24,25,26,30,31,32,33,34,35,36,37,38,39,40,41,42,43,44,45,46,47,48,49,50,51,52,53,54,55,56,57,58,59,60,61,62,63,64,65,66]}
 |11,10=>{bJ:=[0,1,2,3,4,5,6,7,8,9,12,13,14,15,16,17,18,19,20,21,22,23,24,25,26,27,28,29,30,31,32,33,34,35,36,37,40,41,42,43,44,45,46,47,48,49,50,51,52,53,54,55,56,57,58,59,60,61,62,63,64,65,66]}
 |12,2=>{bJ:=[0,1,3,4,5,6,7,10,11,12,13,14,15,16,17,18,19,20,21,22,23,24,25,26,27,28,29,30,31]}
 |14,4=>{bJ:=[1,2,3,4,6,7,8,9,10,11,12,13,14,15,16,17,18,19,20,21,22,23,24,25,26,27,28,29,30,31]}
 |15,2=>{bJ:=[1,2,4,5,6,7,8,9,10,11,12,13,14,15,16,17,18,19,20,21,22,23,24,25,26,27,28,29,30,31,32,33,34,35,36,37,38,39,40,41,42,43,44,45,46,47,48,49,50,51,52,53,54,55]}
 |15,8=>{bJ:=[1,2,5,6,7,8,9,10,11,12,13,14,15,16,17,18,19,20,21,22,23,24,25,26,27,28,29,30,31,32,33,34,35,36,37,38,39,40,41,42,43,44,45,46,47,48,49,50,51,52,53,54,55]}
 |17,3=>{AI:=[(4,1)],bJ:=[0,2,3,5,6,7,8,9,10,11,14,15,16,17,18,19,20,21,22,23,24,25,26,27,28,29,30]}
 |19,2=>{bJ:=[1,3,4,5,6,7,8,9,10,11,12,13,16,17,18,19,20,21,22,23,24,25,26,27,28,29,30,31,32,33,34]}
 |23,2=>{bJ:=[0,1,4,5,6,7,8,9,10,13,14,15,16,17,18,19,20,21,22,23,24,25,26,27,28,29,30,31,32,33,34,35,36,37,38,39,40,41,42,43,44,45,46,47,48,49]}
 |24,4=>{bJ:=[0,3,4,5,6,7,8,9,10,11,12,13,14,18,19,20,21,22,23,24,25,26,27,28,29,30,31]}
 |27,3=>{bJ:=[2,3,5,8,9,10,11,12,13,14,15,16,17,18,19,20,21,22,23,24,25,26,27,28,29,30,31,32,33,34,35]}
 |28,3=>{AI:=[(6,5)],bJ:=[0,3,5,8,9,10,11,12,13,14,15,16,17,18,19,20,21,22,23,24,25,26,27,28,29,30]}
 |36,3=>{AI:=[(1,5)],bJ:=[0,3,5,7,8,9,10,11,12,13,14,15,16,17,18,19,20,21,22,23,24,25,26,27,28,29,30,31,32,33,34,35,36,37,38,39,40,41,42,43,44,45]}
 |44,5=>{AI:=[(10,5)],bJ:=[0,2,5,7,9,13,14,15,16,17,18,19,20,21,22,23,24,25,26,27,28,29,30,31,32,33,34,35,36,37,38,39,40,41,42,43,44,45,46,47,48,49,50,51,52,53,54,55,56,57,58,59,60,61,62,63,64,65,66,67,68,69,70,71,72,73,74,75,76,77,78,79,80,81,82,83,84,85,86,87,88,89,90]}
 |48,2=>{bJ:=[2,3,4,5,6,7,8,9,10,11,12,13,17,18,19,20,21,22,23,24,25,26,27,28,29,30,31,32,33,34,35,36,37,38,39,40,41,42,43,44,45,46,47]}
 |52,4=>{bJ:=[2,3,4,5,6,7,8,9,10,11,14,15,16,17,18,19,20,21,22,23,24,25]}
 |53,4=>{bJ:=[2,3,4,5,6,7,8,9,10,11,14,15,16,17,18,19,20,21,22,23,24,25]}
 |54,4=>{bJ:=[0,3,4,5,6,7,8,9,10,11,12,13,14,18,19,20,21,22,23,24,25,26,27,28,29,30,31]}
 |55,6=>{PF:=[(1,0,1)],bJ:=[1,2,3,5,6,7,10,11,12,13,14,15,16,17,18,19,20,21,22,23,24,25,26,27,28,29,30,31,32,33,34,35,36,37,38]}
 |81,3=>{bJ:=[0,3,7,8,9,10,11,12,13,14,15,16,17,18,19,20,21,22,23,24,25,26,27,28,29,30,31,32,33,34,35,36,37,38,39,40,41,42,43]}
 |89,2=>{bJ:=[2,3,4,5,6,9,10,11,12,13,14,15,16,17,18]}
 |112,3=>{AI:=[(4,1)],bJ:=[0,2,3,6,7,8,9,10,11,12,13,14,15,16,17,18,19,20,21,22,23,24,25,26,27,28,29]}
 |119,2=>{bJ:=[2,3,4,5,6,9,10,11,12,13,14,15,16,17,18]}
 |124,3=>{bJ:=[1,2,5,6,7,8,9,10,11,12,13,14,15,16,17,18,19,20]}
 |125,3=>{bJ:=[2,3,4,7,8,9,10,11,12,13,14,15,16,17,18,19,20,21]}
 |126,1=>{bJ:=[2,4,5,6,7,8,9,10,11,12,13,14,15,16,17,18]}
 |131,2=>{bJ:=[2,3,4,6,7,8,9,10,11,12,13,14,15,16,17,18,19,20,21,22,23,24,25,26,27,28,29,30,31,32,33,34,35,36,37,38,39,40]}
 |136,3=>{bJ:=[1,2,5,6,7,8,9,10,11,12,13,14,15,16,17,18]}
 |137,2=>{bJ:=[2,3,4,5,7,8,9,10,11,12,13,14,15,16,17,18,19]}
 |142,4=>{bJ:=[1,2,3,4,6,7,8,9,10,11,12,13,14,15,16,17,18,19]}
 |143,5=>{bJ:=[2,3,4,5,8,9,10,11,12,13,14,15,16,17,18,19,20,21,22,23,24]}
 |144,5=>{AI:=[(6,1)],bJ:=[2,3,4,5,8,9,10,11,12,13,14,15,16,17,18,19,20,21,22,23,24,25,26,27,28,29]}
 |150,3=>{bJ:=[1,2,6,7,8,9,10,11,12,13,14,15,16,17,18,19,20,21,22,23,24,25]}
 |152,8=>{AI:=[(4,1)],bJ:=[0,3,6,7,8,9,10,11,12,13,14,15,16,17,18,19,20,21,22,23,24,25,26,27,28,29,30]}
 |153,3=>{bJ:=[0,3,4,7,8,9,10,11,12,13,14,15,16,17,18,19,20,21,22,23,24,25,26,27,28,29,30,31,32,33]}
 |156,3=>{bJ:=[1,2,5,6,7,8,9,10,11,12]}
 |160,3=>{bJ:=[0,2,3,4,7,8,9,10,11,12,13,14,15,16,17,18,19,20,21,22,23,24,25,26,27,28,29,30,31]}
 |161,5=>{bJ:=[1,2,5,6,7,8,9,10,11,12,13,14,15,16,17,18,19,20]}
 |162,3=>{AI:=[(3,1)],bJ:=[1,2,5,6,7,8,9,10,11,12,13,14,15,16]}
 |163,2=>{bJ:=[2,3,4,6,7,8,9,10,11,12,13,14,15,16,17,18,19,20,21,22,23,24,25]}
 |1000001,11=>{bJ:=[47]}
 |1000001,29=>{bJ:=[41,45]}
 |1000001,78=>{bJ:=[5,10]}
 |1000001,79=>{bJ:=[41,45]}
 |1000001,80=>{bJ:=[44,46,100037]}
 |1000001,165=>{bJ:=[8]}
 |1000001,166=>{bJ:=[37,44,46]}
 |1000001,168=>{bJ:=[11]}
 |1000001,169=>{bJ:=[47]}
 |1000001,176=>{bJ:=[51,54]}
 |87,1000000=>{bJ:=[1]}
 |36,1000000=>{bJ:=[0]}
 |_,_=>{}
def HC:FuncId->bY
 |88=>{bJ:=[1]}
 |120=>{bJ:=[1]}
 |121=>{bJ:=[1]}
 |_=>{}
def HI:FuncId->bY
 |_=>{}
def HH(f:FuncId)(n:Nat):bY:=bif n==1000002 then HC f else bif n==1000003 then HI f else HH0 f n
def NN:Nat:=18446744073709551616
noncomputable abbrev ED(d k:Nat):lW:=tZ PP (vo PP GL XX HH NN k) GL HH NN d
noncomputable abbrev EE(k:Nat):lW:=ED 6 k
noncomputable abbrev EO(k:Nat):rU:=vo PP GL XX HH NN k
theorem ag7(n:Int)(k:Nat):EO (k+1) 125 [A.c (u n),A.c (ii 8)] []=some ([au.c (st (eR n))],[]):=by
 exact rt (eg (G.un)<|et<|ep (show(256:Int)≠(0:Int) from by decide)<|eg (G.ok)<|ep (rfl:some ([q8 n])=some ([q8 n]))<|eg (G.str [q8 n])<|ep (show ByteArray.size (dc [q8 n])+ByteArray.size ⟨#[]⟩<=9223372036854775807 from by first|omega|(simp only[vu] at*;omega))<|eg (G.ok)<|ep (show(256:Int)≠(0:Int) from by decide)<|eg (G.ok)<|et<|ep (show(256:Int)≠(0:Int) from by decide)<|eg (G.ok)<|ep (rfl:some ([q8 (q6 n)])=some ([q8 (q6 n)]))<|eg (G.str [q8 (q6 n)])<|ep (show ByteArray.size (dc [q8 (q6 n)])+(dc [q8 n]++ByteArray.mk #[]).size<=9223372036854775807 from by first|omega|(simp only[vu] at*;omega))<|eg (G.ok)<|ep (show(256:Int)≠(0:Int) from by decide)<|eg (G.ok)<|et<|ep (show(256:Int)≠(0:Int) from by decide)<|eg (G.ok)<|ep (rfl:some ([q8 (q6 (q6 n))])=some ([q8 (q6 (q6 n))]))<|eg (G.str [q8 (q6 (q6 n))])<|ep (show ByteArray.size (dc [q8 (q6 (q6 n))])+(dc [q8 (q6 n)]++(dc [q8 n]++ByteArray.mk #[])).size<=9223372036854775807 from by first|omega|(simp only[vu] at*;omega))<|eg (G.ok)<|ep (show(256:Int)≠(0:Int) from by decide)<|eg (G.ok)<|et<|ep (show(256:Int)≠(0:Int) from by decide)<|eg (G.ok)<|ep (rfl:some ([q8 (q6 (q6 (q6 n)))])=some ([q8 (q6 (q6 (q6 n)))]))<|eg (G.str [q8 (q6 (q6 (q6 n)))])<|ep (show ByteArray.size (dc [q8 (q6 (q6 (q6 n)))])+(dc [q8 (q6 (q6 n))]++(dc [q8 (q6 n)]++(dc [q8 n]++ByteArray.mk #[]))).size<=9223372036854775807 from by first|omega|(simp only[vu] at*;omega))<|eg (G.ok)<|ep (show(256:Int)≠(0:Int) from by decide)<|eg (G.ok)<|et<|ep (show(256:Int)≠(0:Int) from by decide)<|eg (G.ok)<|ep (rfl:some ([q8 (q6 (q6 (q6 (q6 n))))])=some ([q8 (q6 (q6 (q6 (q6 n))))]))<|eg (G.str [q8 (q6 (q6 (q6 (q6 n))))])<|ep (show ByteArray.size (dc [q8 (q6 (q6 (q6 (q6 n))))])+(dc [q8 (q6 (q6 (q6 n)))]++(dc [q8 (q6 (q6 n))]++(dc [q8 (q6 n)]++(dc [q8 n]++ByteArray.mk #[])))).size<=9223372036854775807 from by first|omega|(simp only[vu] at*;omega))<|eg (G.ok)<|ep (show(256:Int)≠(0:Int) from by decide)<|eg (G.ok)<|et<|ep (show(256:Int)≠(0:Int) from by decide)<|eg (G.ok)<|ep (rfl:some ([q8 (q6 (q6 (q6 (q6 (q6 n)))))])=some ([q8 (q6 (q6 (q6 (q6 (q6 n)))))]))<|eg (G.str [q8 (q6 (q6 (q6 (q6 (q6 n)))))])<|ep (show ByteArray.size (dc [q8 (q6 (q6 (q6 (q6 (q6 n)))))])+(dc [q8 (q6 (q6 (q6 (q6 n))))]++(dc [q8 (q6 (q6 (q6 n)))]++(dc [q8 (q6 (q6 n))]++(dc [q8 (q6 n)]++(dc [q8 n]++ByteArray.mk #[]))))).size<=9223372036854775807 from by first|omega|(simp only[vu] at*;omega))<|eg (G.ok)<|ep (show(256:Int)≠(0:Int) from by decide)<|eg (G.ok)<|et<|ep (show(256:Int)≠(0:Int) from by decide)<|eg (G.ok)<|ep (rfl:some ([q8 (q6 (q6 (q6 (q6 (q6 (q6 n))))))])=some ([q8 (q6 (q6 (q6 (q6 (q6 (q6 n))))))]))<|eg (G.str [q8 (q6 (q6 (q6 (q6 (q6 (q6 n))))))])<|ep (show ByteArray.size (dc [q8 (q6 (q6 (q6 (q6 (q6 (q6 n))))))])+(dc [q8 (q6 (q6 (q6 (q6 (q6 n)))))]++(dc [q8 (q6 (q6 (q6 (q6 n))))]++(dc [q8 (q6 (q6 (q6 n)))]++(dc [q8 (q6 (q6 n))]++(dc [q8 (q6 n)]++(dc [q8 n]++ByteArray.mk #[])))))).size<=9223372036854775807 from by first|omega|(simp only[vu] at*;omega))<|eg (G.ok)<|ep (show(256:Int)≠(0:Int) from by decide)<|eg (G.ok)<|et<|ep (show(256:Int)≠(0:Int) from by decide)<|eg (G.ok)<|ep (rfl:some ([q8 (q6 (q6 (q6 (q6 (q6 (q6 (q6 n)))))))])=some ([q8 (q6 (q6 (q6 (q6 (q6 (q6 (q6 n)))))))]))<|eg (G.str [q8 (q6 (q6 (q6 (q6 (q6 (q6 (q6 n)))))))])<|ep (show ByteArray.size (dc [q8 (q6 (q6 (q6 (q6 (q6 (q6 (q6 n)))))))])+(dc [q8 (q6 (q6 (q6 (q6 (q6 (q6 n))))))]++(dc [q8 (q6 (q6 (q6 (q6 (q6 n)))))]++(dc [q8 (q6 (q6 (q6 (q6 n))))]++(dc [q8 (q6 (q6 (q6 n)))]++(dc [q8 (q6 (q6 n))]++(dc [q8 (q6 n)]++(dc [q8 n]++ByteArray.mk #[]))))))).size<=9223372036854775807 from by first|omega|(simp only[vu] at*;omega))<|eg (G.ok)<|ep (show(256:Int)≠(0:Int) from by decide)<|eg (G.ok)<|ef<|e0) (by simp only[eR,zt,vq]<;>rfl)
theorem ag8(n:Int)(k:Nat):EO (k+1) 125 [A.c (u (wrap .u64 n)),A.c (ii 4)] []=some ([au.c (st (ee n))],[]):=by
 exact rt (eg (G.un)<|et<|ep (show(256:Int)≠(0:Int) from by decide)<|eg (G.ok)<|ep (rfl:some ([q8 (wrap .u64 n)])=some ([q8 (wrap .u64 n)]))<|eg (G.str [q8 (wrap .u64 n)])<|ep (show ByteArray.size (dc [q8 (wrap .u64 n)])+ByteArray.size ⟨#[]⟩<=9223372036854775807 from by first|omega|(simp only[vu] at*;omega))<|eg (G.ok)<|ep (show(256:Int)≠(0:Int) from by decide)<|eg (G.ok)<|et<|ep (show(256:Int)≠(0:Int) from by decide)<|eg (G.ok)<|ep (rfl:some ([q8 (q6 (wrap .u64 n))])=some ([q8 (q6 (wrap .u64 n))]))<|eg (G.str [q8 (q6 (wrap .u64 n))])<|ep (show ByteArray.size (dc [q8 (q6 (wrap .u64 n))])+(dc [q8 (wrap .u64 n)]++ByteArray.mk #[]).size<=9223372036854775807 from by first|omega|(simp only[vu] at*;omega))<|eg (G.ok)<|ep (show(256:Int)≠(0:Int) from by decide)<|eg (G.ok)<|et<|ep (show(256:Int)≠(0:Int) from by decide)<|eg (G.ok)<|ep (rfl:some ([q8 (q6 (q6 (wrap .u64 n)))])=some ([q8 (q6 (q6 (wrap .u64 n)))]))<|eg (G.str [q8 (q6 (q6 (wrap .u64 n)))])<|ep (show ByteArray.size (dc [q8 (q6 (q6 (wrap .u64 n)))])+(dc [q8 (q6 (wrap .u64 n))]++(dc [q8 (wrap .u64 n)]++ByteArray.mk #[])).size<=9223372036854775807 from by first|omega|(simp only[vu] at*;omega))<|eg (G.ok)<|ep (show(256:Int)≠(0:Int) from by decide)<|eg (G.ok)<|et<|ep (show(256:Int)≠(0:Int) from by decide)<|eg (G.ok)<|ep (rfl:some ([q8 (q6 (q6 (q6 (wrap .u64 n))))])=some ([q8 (q6 (q6 (q6 (wrap .u64 n))))]))<|eg (G.str [q8 (q6 (q6 (q6 (wrap .u64 n))))])<|ep (show ByteArray.size (dc [q8 (q6 (q6 (q6 (wrap .u64 n))))])+(dc [q8 (q6 (q6 (wrap .u64 n)))]++(dc [q8 (q6 (wrap .u64 n))]++(dc [q8 (wrap .u64 n)]++ByteArray.mk #[]))).size<=9223372036854775807 from by first|omega|(simp only[vu] at*;omega))<|eg (G.ok)<|ep (show(256:Int)≠(0:Int) from by decide)<|eg (G.ok)<|ef<|e0) (by simp only[ee,zt,vq]<;>rfl)
theorem uF(n:Int)(k:Nat):EO (k+2) 148 [A.c (u n)] []=some ([au.c (st (eR n))],[]):=by
 exact rt (ec (ag7 n k)<|e0) rfl
theorem FC(n:Int)(k:Nat):EO (k+2) 92 [A.c (w4 n)] []=some ([au.c (st (ee n))],[]):=by
 exact rt (ec (ag8 n k)<|e0) rfl
theorem ag9(s:ByteArray)(hs:((↑(s.size):Int)==8)=true)(x0:UInt8)(x1:UInt8)(x2:UInt8)(x3:UInt8)(x4:UInt8)(x5:UInt8)(x6:UInt8)(x7:UInt8)(h0:s[0]?=some x0)(h1:s[1]?=some x1)(h2:s[2]?=some x2)(h3:s[3]?=some x3)(h4:s[4]?=some x4)(h5:s[5]?=some x5)(h6:s[6]?=some x6)(h7:s[7]?=some x7)(k:Nat):EO (k+1) 143 [A.c (st s),A.c (ii 8)] []=some ([au.c (u (gO [x0,x1,x2,x3,x4,x5,x6,x7])),au.c (bo true)],[]):=by
 exact rt (en hs<|eg (G.un)<|et<|ep (rfl:(0:Int)=(0:Int))<|ep h0<|eg (G.i7 0 x0)<|et<|ep (rfl:(1:Int)=(1:Int))<|ep h1<|eg (G.i7 1 x1)<|et<|ep (rfl:(2:Int)=(2:Int))<|ep h2<|eg (G.i7 2 x2)<|et<|ep (rfl:(3:Int)=(3:Int))<|ep h3<|eg (G.i7 3 x3)<|et<|ep (rfl:(4:Int)=(4:Int))<|ep h4<|eg (G.i7 4 x4)<|et<|ep (rfl:(5:Int)=(5:Int))<|ep h5<|eg (G.i7 5 x5)<|et<|ep (rfl:(6:Int)=(6:Int))<|ep h6<|eg (G.i7 6 x6)<|et<|ep (rfl:(7:Int)=(7:Int))<|ep h7<|eg (G.i7 7 x7)<|ef<|e0) rfl
theorem aha(s:ByteArray)(hs:((↑(s.size):Int)==4)=true)(x0:UInt8)(x1:UInt8)(x2:UInt8)(x3:UInt8)(h0:s[0]?=some x0)(h1:s[1]?=some x1)(h2:s[2]?=some x2)(h3:s[3]?=some x3)(k:Nat):EO (k+1) 143 [A.c (st s),A.c (ii 4)] []=some ([au.c (u (gO [x0,x1,x2,x3])),au.c (bo true)],[]):=by
 exact rt (en hs<|eg (G.un)<|et<|ep (rfl:(0:Int)=(0:Int))<|ep h0<|eg (G.i7 0 x0)<|et<|ep (rfl:(1:Int)=(1:Int))<|ep h1<|eg (G.i7 1 x1)<|et<|ep (rfl:(2:Int)=(2:Int))<|ep h2<|eg (G.i7 2 x2)<|et<|ep (rfl:(3:Int)=(3:Int))<|ep h3<|eg (G.i7 3 x3)<|ef<|e0) rfl
theorem alD(s:ByteArray)(n:Int)(hs:((↑(s.size):Int)==n)=false)(k:Nat):EO (k+1) 143 [A.c (st s),A.c (ii n)] []=some ([au.c (u 0),au.c (bo false)],[]):=by
 exact rt (en hs<|e0) rfl
theorem alE(s:ByteArray)(hs:s.size=8)(k:Nat):EO (k+1) 143 [.c (st s), .c (ii 8)] []=some ([.c (u (gO s.data.toList)), .c (bo true)],[]):=by
 obtain⟨a,b,c,d,e,f,g,i,hl⟩:=agD ((xY s).trans hs)
 have:=ag9 s (by rw[hs];rfl) a b c d e f g i (by rw[nK,hl];rfl) (by rw[nK,hl];rfl) (by rw[nK,hl];rfl) (by rw[nK,hl];rfl) (by rw[nK,hl];rfl) (by rw[nK,hl];rfl) (by rw[nK,hl];rfl) (by rw[nK,hl];rfl) k
 rw[hl]
 exact this
theorem alF(s:ByteArray)(hs:s.size=4)(k:Nat):EO (k+1) 143 [.c (st s), .c (ii 4)] []=some ([.c (u (gO s.data.toList)), .c (bo true)],[]):=by
 obtain⟨a,b,c,d,hl⟩:=agE ((xY s).trans hs)
 have:=aha s (by rw[hs];rfl) a b c d (by rw[nK,hl];rfl) (by rw[nK,hl];rfl) (by rw[nK,hl];rfl) (by rw[nK,hl];rfl) k
 rw[hl]
 exact this
theorem qP(s:ByteArray)(hs:s.size=8)(k:Nat):EO (k+2) 114 [A.c (st s)] []=some ([au.c (u (gO (Array.toList (ByteArray.data s)))),au.c (bo true)],[]):=by
 exact rt (ec (alE s hs k)<|e0) rfl
theorem ahb(s:ByteArray)(hs:s.size=4)(k:Nat):EO (k+2) 141 [A.c (st s)] []=some ([au.c (w4 (wrap .u32 (gO (Array.toList (ByteArray.data s))))),au.c (bo true)],[]):=by
 exact rt (ec (alF s hs k)<|e0) rfl
theorem ac4(s:ByteArray)(hs:((↑(s.size):Int)==4)=false)(k:Nat):EO (k+2) 141 [A.c (st s)] []=some ([au.c (w4 0),au.c (bo false)],[]):=by
 exact rt (ec (alD s 4 hs k)<|e0) rfl
theorem ac5(a b c:Bool)(k:Nat):EO (k+1) 150 [.c (.slice 1 [[bo a],[bo b],[bo c]])] []=some ([.c (CC (fl a 1+fl b 2+fl c 4))],[]):=by
 cases a<;>cases b<;>cases c<;>kernel_rfl
theorem ac6(a b c d:Bool)(k:Nat):EO (k+1) 150 [.c (.slice 1 [[bo a],[bo b],[bo c],[bo d]])] []=some ([.c (CC (fl a 1+fl b 2+fl c 4+fl d 8))],[]):=by
 cases a<;>cases b<;>cases c<;>cases d<;>kernel_rfl
theorem o8(n:Int)(hz:decide (wrap .u8 (Int.tdiv (wrap .u8 (Int.tdiv (wrap .u8 (Int.tdiv n 2)) 2)) 2)>0)=false)(k:Nat):EO (k+1) 144 [A.c (CC n),A.c (ii 3)] []=some ([au.top 1 [[bo (Int.tmod n (2:Int)==1)],[bo (Int.tmod (wrap .u8 (Int.tdiv n 2)) (2:Int)==1)],[bo (Int.tmod (wrap .u8 (Int.tdiv (wrap .u8 (Int.tdiv n 2)) 2)) (2:Int)==1)]],au.c (bo true)],[]):=by
 exact rt (kT<|eg (G.un)<|et<|ep (show(2:Int)≠(0:Int) from by decide)<|eg (G.ok)<|ep (eF ([[bo (Int.tmod n (2:Int)==1)]]))<|ep (show List.length [[bo (Int.tmod n (2:Int)==1)]]<=1073741824 from by simp only[vr];omega)<|ep ((rfl:(0:Nat)=(0:Nat))).symm<|eg (G.app [[bo (Int.tmod n (2:Int)==1)]])<|ep (show(2:Int)≠(0:Int) from by decide)<|eg (G.ok)<|et<|ep (show(2:Int)≠(0:Int) from by decide)<|eg (G.ok)<|ep (rfl:[[bo (Int.tmod n (2:Int)==1)],[bo (Int.tmod (wrap .u8 (Int.tdiv n (2:Int))) (2:Int)==1)]]=[[bo (Int.tmod n (2:Int)==1)],[bo (Int.tmod (wrap .u8 (Int.tdiv n (2:Int))) (2:Int)==1)]])<|ep (show List.length [[bo (Int.tmod n (2:Int)==1)],[bo (Int.tmod (wrap .u8 (Int.tdiv n (2:Int))) (2:Int)==1)]]<=1073741824 from by simp only[vr];omega)<|ep ((rfl:(1:Nat)=(1:Nat))).symm<|eg (G.app [[bo (Int.tmod n (2:Int)==1)],[bo (Int.tmod (wrap .u8 (Int.tdiv n 2)) (2:Int)==1)]])<|ep (show(2:Int)≠(0:Int) from by decide)<|eg (G.ok)<|et<|ep (show(2:Int)≠(0:Int) from by decide)<|eg (G.ok)<|ep (rfl:[[bo (Int.tmod n (2:Int)==1)],[bo (Int.tmod (wrap .u8 (Int.tdiv n (2:Int))) (2:Int)==1)],[bo (Int.tmod (wrap .u8 (Int.tdiv (wrap .u8 (Int.tdiv n (2:Int))) (2:Int))) (2:Int)==1)]]=[[bo (Int.tmod n (2:Int)==1)],[bo (Int.tmod (wrap .u8 (Int.tdiv n (2:Int))) (2:Int)==1)],[bo (Int.tmod (wrap .u8 (Int.tdiv (wrap .u8 (Int.tdiv n (2:Int))) (2:Int))) (2:Int)==1)]])<|ep (show List.length [[bo (Int.tmod n (2:Int)==1)],[bo (Int.tmod (wrap .u8 (Int.tdiv n (2:Int))) (2:Int)==1)],[bo (Int.tmod (wrap .u8 (Int.tdiv (wrap .u8 (Int.tdiv n (2:Int))) (2:Int))) (2:Int)==1)]]<=1073741824 from by simp only[vr];omega)<|ep ((rfl:(2:Nat)=(2:Nat))).symm<|eg (G.app [[bo (Int.tmod n (2:Int)==1)],[bo (Int.tmod (wrap .u8 (Int.tdiv n 2)) (2:Int)==1)],[bo (Int.tmod (wrap .u8 (Int.tdiv (wrap .u8 (Int.tdiv n 2)) 2)) (2:Int)==1)]])<|ep (show(2:Int)≠(0:Int) from by decide)<|eg (G.ok)<|ef<|eb hz<|ep ((rfl:(3:Nat)=(3:Nat))).symm<|e0) rfl
theorem iL(n:Int)(hz:decide (wrap .u8 (Int.tdiv (wrap .u8 (Int.tdiv (wrap .u8 (Int.tdiv (wrap .u8 (Int.tdiv n 2)) 2)) 2)) 2)>0)=false)(k:Nat):EO (k+1) 144 [A.c (CC n),A.c (ii 4)] []=some ([au.top 1 [[bo (Int.tmod n (2:Int)==1)],[bo (Int.tmod (wrap .u8 (Int.tdiv n 2)) (2:Int)==1)],[bo (Int.tmod (wrap .u8 (Int.tdiv (wrap .u8 (Int.tdiv n 2)) 2)) (2:Int)==1)],[bo (Int.tmod (wrap .u8 (Int.tdiv (wrap .u8 (Int.tdiv (wrap .u8 (Int.tdiv n 2)) 2)) 2)) (2:Int)==1)]],au.c (bo true)],[]):=by
 exact rt (kT<|eg (G.un)<|et<|ep (show(2:Int)≠(0:Int) from by decide)<|eg (G.ok)<|ep (eF ([[bo (Int.tmod n (2:Int)==1)]]))<|ep (show List.length [[bo (Int.tmod n (2:Int)==1)]]<=1073741824 from by simp only[vr];omega)<|ep ((rfl:(0:Nat)=(0:Nat))).symm<|eg (G.app [[bo (Int.tmod n (2:Int)==1)]])<|ep (show(2:Int)≠(0:Int) from by decide)<|eg (G.ok)<|et<|ep (show(2:Int)≠(0:Int) from by decide)<|eg (G.ok)<|ep (rfl:[[bo (Int.tmod n (2:Int)==1)],[bo (Int.tmod (wrap .u8 (Int.tdiv n (2:Int))) (2:Int)==1)]]=[[bo (Int.tmod n (2:Int)==1)],[bo (Int.tmod (wrap .u8 (Int.tdiv n (2:Int))) (2:Int)==1)]])<|ep (show List.length [[bo (Int.tmod n (2:Int)==1)],[bo (Int.tmod (wrap .u8 (Int.tdiv n (2:Int))) (2:Int)==1)]]<=1073741824 from by simp only[vr];omega)<|ep ((rfl:(1:Nat)=(1:Nat))).symm<|eg (G.app [[bo (Int.tmod n (2:Int)==1)],[bo (Int.tmod (wrap .u8 (Int.tdiv n 2)) (2:Int)==1)]])<|ep (show(2:Int)≠(0:Int) from by decide)<|eg (G.ok)<|et<|ep (show(2:Int)≠(0:Int) from by decide)<|eg (G.ok)<|ep (rfl:[[bo (Int.tmod n (2:Int)==1)],[bo (Int.tmod (wrap .u8 (Int.tdiv n (2:Int))) (2:Int)==1)],[bo (Int.tmod (wrap .u8 (Int.tdiv (wrap .u8 (Int.tdiv n (2:Int))) (2:Int))) (2:Int)==1)]]=[[bo (Int.tmod n (2:Int)==1)],[bo (Int.tmod (wrap .u8 (Int.tdiv n (2:Int))) (2:Int)==1)],[bo (Int.tmod (wrap .u8 (Int.tdiv (wrap .u8 (Int.tdiv n (2:Int))) (2:Int))) (2:Int)==1)]])<|ep (show List.length [[bo (Int.tmod n (2:Int)==1)],[bo (Int.tmod (wrap .u8 (Int.tdiv n (2:Int))) (2:Int)==1)],[bo (Int.tmod (wrap .u8 (Int.tdiv (wrap .u8 (Int.tdiv n (2:Int))) (2:Int))) (2:Int)==1)]]<=1073741824 from by simp only[vr];omega)<|ep ((rfl:(2:Nat)=(2:Nat))).symm<|eg (G.app [[bo (Int.tmod n (2:Int)==1)],[bo (Int.tmod (wrap .u8 (Int.tdiv n 2)) (2:Int)==1)],[bo (Int.tmod (wrap .u8 (Int.tdiv (wrap .u8 (Int.tdiv n 2)) 2)) (2:Int)==1)]])<|ep (show(2:Int)≠(0:Int) from by decide)<|eg (G.ok)<|et<|ep (show(2:Int)≠(0:Int) from by decide)<|eg (G.ok)<|ep (rfl:[[bo (Int.tmod n (2:Int)==1)],[bo (Int.tmod (wrap .u8 (Int.tdiv n (2:Int))) (2:Int)==1)],[bo (Int.tmod (wrap .u8 (Int.tdiv (wrap .u8 (Int.tdiv n (2:Int))) (2:Int))) (2:Int)==1)],[bo (Int.tmod (wrap .u8 (Int.tdiv (wrap .u8 (Int.tdiv (wrap .u8 (Int.tdiv n (2:Int))) (2:Int))) (2:Int))) (2:Int)==1)]]=[[bo (Int.tmod n (2:Int)==1)],[bo (Int.tmod (wrap .u8 (Int.tdiv n (2:Int))) (2:Int)==1)],[bo (Int.tmod (wrap .u8 (Int.tdiv (wrap .u8 (Int.tdiv n (2:Int))) (2:Int))) (2:Int)==1)],[bo (Int.tmod (wrap .u8 (Int.tdiv (wrap .u8 (Int.tdiv (wrap .u8 (Int.tdiv n (2:Int))) (2:Int))) (2:Int))) (2:Int)==1)]])<|ep (show List.length [[bo (Int.tmod n (2:Int)==1)],[bo (Int.tmod (wrap .u8 (Int.tdiv n (2:Int))) (2:Int)==1)],[bo (Int.tmod (wrap .u8 (Int.tdiv (wrap .u8 (Int.tdiv n (2:Int))) (2:Int))) (2:Int)==1)],[bo (Int.tmod (wrap .u8 (Int.tdiv (wrap .u8 (Int.tdiv (wrap .u8 (Int.tdiv n (2:Int))) (2:Int))) (2:Int))) (2:Int)==1)]]<=1073741824 from by simp only[vr];omega)<|ep ((rfl:(3:Nat)=(3:Nat))).symm<|eg (G.app [[bo (Int.tmod n (2:Int)==1)],[bo (Int.tmod (wrap .u8 (Int.tdiv n 2)) (2:Int)==1)],[bo (Int.tmod (wrap .u8 (Int.tdiv (wrap .u8 (Int.tdiv n 2)) 2)) (2:Int)==1)],[bo (Int.tmod (wrap .u8 (Int.tdiv (wrap .u8 (Int.tdiv (wrap .u8 (Int.tdiv n 2)) 2)) 2)) (2:Int)==1)]])<|ep (show(2:Int)≠(0:Int) from by decide)<|eg (G.ok)<|ef<|eb hz<|ep ((rfl:(4:Nat)=(4:Nat))).symm<|e0) rfl
theorem V_(m:Nat)(h:m<=7)(k:Nat):EO (k+1) 144 [.c (CC (m:Int)), .c (ii 3)] []=some ([.top 1 [[bo (m / 2 ^ 0 % 2==1)],[bo (m / 2 ^ 1 % 2==1)],[bo (m / 2 ^ 2 % 2==1)]], .c (bo true)],[]):=by
 match m,h with
 |0,_=>exact(o8 0 (by decide) k).trans (by kernel_rfl)
 |1,_=>exact(o8 1 (by decide) k).trans (by kernel_rfl)
 |2,_=>exact(o8 2 (by decide) k).trans (by kernel_rfl)
 |3,_=>exact(o8 3 (by decide) k).trans (by kernel_rfl)
 |4,_=>exact(o8 4 (by decide) k).trans (by kernel_rfl)
 |5,_=>exact(o8 5 (by decide) k).trans (by kernel_rfl)
 |6,_=>exact(o8 6 (by decide) k).trans (by kernel_rfl)
 |7,_=>exact(o8 7 (by decide) k).trans (by kernel_rfl)
theorem Wa(m:Nat)(h:m<=15)(k:Nat):EO (k+1) 144 [.c (CC (m:Int)), .c (ii 4)] []=some ([.top 1 [[bo (m / 2 ^ 0 % 2==1)],[bo (m / 2 ^ 1 % 2==1)],[bo (m / 2 ^ 2 % 2==1)],[bo (m / 2 ^ 3 % 2==1)]], .c (bo true)],[]):=by
 match m,h with
 |0,_=>exact(iL 0 (by decide) k).trans (by kernel_rfl)
 |1,_=>exact(iL 1 (by decide) k).trans (by kernel_rfl)
 |2,_=>exact(iL 2 (by decide) k).trans (by kernel_rfl)
 |3,_=>exact(iL 3 (by decide) k).trans (by kernel_rfl)
 |4,_=>exact(iL 4 (by decide) k).trans (by kernel_rfl)
 |5,_=>exact(iL 5 (by decide) k).trans (by kernel_rfl)
 |6,_=>exact(iL 6 (by decide) k).trans (by kernel_rfl)
 |7,_=>exact(iL 7 (by decide) k).trans (by kernel_rfl)
 |8,_=>exact(iL 8 (by decide) k).trans (by kernel_rfl)
 |9,_=>exact(iL 9 (by decide) k).trans (by kernel_rfl)
 |10,_=>exact(iL 10 (by decide) k).trans (by kernel_rfl)
 |11,_=>exact(iL 11 (by decide) k).trans (by kernel_rfl)
 |12,_=>exact(iL 12 (by decide) k).trans (by kernel_rfl)
 |13,_=>exact(iL 13 (by decide) k).trans (by kernel_rfl)
 |14,_=>exact(iL 14 (by decide) k).trans (by kernel_rfl)
 |15,_=>exact(iL 15 (by decide) k).trans (by kernel_rfl)
theorem JB(x:UInt8)(h:x.toNat<=7)(k:Nat):EO (k+1) 144 [.c (CC (x.toNat:Int)), .c (ii 3)] []=some ([.top 1 [[bo (bK x 0)],[bo (bK x 1)],[bo (bK x 2)]], .c (bo true)],[]):=V_ x.toNat h k
theorem QR(x:UInt8)(h:x.toNat<=15)(k:Nat):EO (k+1) 144 [.c (CC (x.toNat:Int)), .c (ii 4)] []=some ([.top 1 [[bo (bK x 0)],[bo (bK x 1)],[bo (bK x 2)],[bo (bK x 3)]], .c (bo true)],[]):=Wa x.toNat h k
def Wb(s:ByteArray)(c0:Int)(c1:Int):St:=St.mk (tc (st s)::T.bf::T.bf::tc (u c0)::tc (ii c1)::hs 16 []) [] []
theorem ac7(s:ByteArray)(n:Int)(i:Nat)(b:UInt8)(hb:s[i]?=some b)(k:Nat)(z0:(gL i s.size)=true):bQ (EE (k+1)) (HH 124) NN (LB PP 124 3) 0 0 (Wb s n (↑i:Int)) (Wb s (Int.tmod (wrap .u64 (agB IntKind.u64 n (wrap .u64 (↑(UInt8.toNat b):Int))*16777619)) 4294967296) (wrap .i64 ((↑i:Int)+1))):=
 nx (eb z0<|ep (rz i)<|ep hb<|eg (G.i7 i b)<|ep (show(4294967296:Int)≠(0:Int) from by decide)<|eg (G.ok)<|e0)
def CQ(s:ByteArray)(n:Int)(i:Nat):St:=St.mk (tc (st s)::T.bf::T.bf::tc (u n)::tc (ii (↑i:Int))::tc (ii (↑i:Int))::tc (st s)::tc (ii (↑(s.size):Int))::tc (bo (gL i s.size))::hs 12 []) [] []
theorem ac8(s:ByteArray)(n:Int)(i:Nat)(k:Nat)(z0:(gL i s.size)=false):dq (EE (k+1)) (HH 124) NN (LB PP 124 3) (Wb s n (↑i:Int)) (dJ.exit 0) (CQ s n i):=
 ou (eb z0<|e0)
theorem blt{s:ByteArray}{i:Nat}{b:UInt8}(h:s.data.toList[i]?=some b):decide ((i:Int)<(s.size:Int))=true:=by
 have:=gJ h
 rw[xY] at this
 exact cJ (by omega)
theorem alG(s:ByteArray)(hs:s.size<=1000000)(k:Nat):bT (EE (k+1)) (HH 124) NN (LB PP 124 3) (Wb s 2166136261 0) (.exit 0) (CQ s (s.data.toList.foldl CE 2166136261) s.data.toList.length):=by
 have hl:=xY s
 refine(aba (E:=fun k=>EE (k+1)) (fun n i=>Wb s n (i:Nat)) (fun _ _=>True) s.data.toList CE 2166136261 (fun n=>CQ s n s.data.toList.length) (nv:=0) (nt:=0) (by kernel_rfl) (by kernel_rfl) trivial (fun _ _ _ _ _=>trivial) (fun k n i b hb _=> ?_) (fun k _=> ?_) (by unfold NN;omega)).2 k
 ·have:=ac7 s n i b (by rw[nK];exact hb) k (blt hb)
  rwa[p6 hb (by omega)] at this
 ·exact ac8 s _ _ k (by rw[hl];exact Gf)
theorem alH(s:ByteArray)(hs:s.size<=1000000)(k:Nat):EO (k+2) 124 [A.c (st s)] []=some ([au.c (w4 (UG s))],[]):=by
 exact rt (eg (G.loop (dJ.exit 0) (CQ s (List.foldl CE 2166136261 (Array.toList (ByteArray.data s))) ((Array.toList (ByteArray.data s)).length)))<|ep (alG s hs k)<|e0) (by simp only[UG,vq]<;>rfl)
theorem Ad(s:ByteArray)(hs:s.size<=1000000)(k:Nat):EO (k+4) 91 [A.c (st s)] []=some ([au.c (st (cA s))],[]):=by
 exact rt (ec (alH s hs (k+1))<|ec (FC (UG s) (k+1))<|ep (show s.size+(ee (UG s)).size<=9223372036854775807 from by first|omega|(simp only[vu] at*;omega))<|eg (G.ok)<|e0) (by simp only[cA,vq]<;>rfl)
theorem ac9(s:ByteArray)(h4:decide ((↑(s.size):Int)<4)=true)(k:Nat):EO (k+5) 113 [A.c (st s)] []=some ([au.c (st (aa s).1),au.c (ii (aa s).2)],[]):=by
 exact rt (eb h4<|e0) (by simp only[aa,h4,vq]<;>rfl)
theorem ada(s:ByteArray)(h4:decide ((↑(s.size):Int)<4)=false)(hs:s.size<=1000000)(hw:wrap .i64 ((↑(s.size):Int)-4)=(↑(s.size-4):Int))(hm:s.size-4<=s.size)(ht:(s.extract 0 (s.size-4)).size<=1000000)(k:Nat):EO (k+5) 113 [A.c (st s)] []=some ([au.c (st (aa s).1),au.c (ii (aa s).2)],[]):=by
 rcases be (cA (s.extract 0 (s.size-4))==s) with z0|z0
 ·exact rt (eb h4<|ep hw<|ep (rfl:(0:Nat)=0)<|ep (show(0:Nat)<=s.size-(4:Nat) from by omega)<|ep hm<|eg (G.cut 0 (s.size-4) [])<|ec (Ad (s.extract 0 (s.size-4)) ht k)<|en z0<|e0) (by simp only[aa,h4,z0,vq]<;>rfl)
 ·exact rt (eb h4<|ep hw<|ep (rfl:(0:Nat)=0)<|ep (show(0:Nat)<=s.size-(4:Nat) from by omega)<|ep hm<|eg (G.cut 0 (s.size-4) [])<|ec (Ad (s.extract 0 (s.size-4)) ht k)<|en z0<|e0) (by simp only[aa,h4,z0,vq]<;>rfl)
theorem kW(s:ByteArray)(hs:s.size<=1000000)(k:Nat):EO (k+5) 113 [.c (st s)] []=some ([.c (st (aa s).1), .c (ii (aa s).2)],[]):=by
 cases h4:decide ((s.size:Int)<4) with
 |true=>exact ac9 s h4 k
 |false=>
  have h:=wd h4
  exact ada s h4 hs (by rw[dG (by omega) (by omega)];omega) (by omega) (by rw[uR];omega) k
def Wc(n:Int)(c0:Int)(c1:Int):St:=St.mk (tc (ii n)::T.bf::T.bf::tc (w4 c0)::tc (ii c1)::hs 8 []) [] []
theorem adb(n:Nat)(i:Nat)(p:Int)(k:Nat)(z0:(decide ((↑i:Int)<(↑n:Int)))=true):bQ (EE (k+1)) (HH 156) NN (LB PP 156 3) 0 0 (Wc (↑n:Int) p (↑i:Int)) (Wc (↑n:Int) (wrap .u32 (2*p)) (wrap .i64 ((↑i:Int)+1))):=
 nx (eb z0<|e0)
def JC(n:Nat)(i:Nat)(p:Int):St:=St.mk (tc (ii (↑n:Int))::T.bf::T.bf::tc (w4 p)::tc (ii (↑i:Int))::tc (ii (↑i:Int))::tc (ii (↑n:Int))::tc (bo (decide ((↑i:Int)<(↑n:Int))))::hs 5 []) [] []
theorem adc(n:Nat)(i:Nat)(p:Int)(k:Nat)(z0:(decide ((↑i:Int)<(↑n:Int)))=false):dq (EE (k+1)) (HH 156) NN (LB PP 156 3) (Wc (↑n:Int) p (↑i:Int)) (dJ.exit 0) (JC n i p):=
 ou (eb z0<|e0)
theorem alJ(n:Nat)(hn:n<=31)(k:Nat):bT (EE (k+1)) (HH 156) NN (LB PP 156 3) (Wc n 1 0) (.exit 0) (JC n n (2 ^ n)):=by
 refine t_ (nv:=0) (nt:=0) (fun i=>Wc n (2 ^ i) (i:Nat)) n rfl (by kernel_rfl) (by kernel_rfl) (fun i hi=> ?_) ?_ (by unfold NN;omega)
 ·have:=adb n i (2 ^ i) k (by simp;exact hi)
  have h2:=xX (i:=i+1) (by omega)
  have e:(2:Int) ^ (i+1)=2*2 ^ i:=by rw[Dg,Int.mul_comm]
  rw[RA hi (by omega)] at this
  have ew:wrap .u32 (2*2 ^ i)=2 ^ (i+1):=by
   rw[<-e]
   unfold wrap
   simp[IntKind.signed,IntKind.bits]
   omega
  rw[ew] at this
  exact this
 ·exact adc n n (2 ^ n) k (by simp)
theorem pow(n:Nat)(hn:n<=31)(k:Nat):EO (k+2) 156 [A.c (ii (↑n:Int))] []=some ([au.c (w4 ((2:Int) ^ n))],[]):=by
 exact rt (eg (G.loop (dJ.exit 0) (JC n n ((2:Int) ^ n)))<|ep (alJ n hn k)<|e0) rfl
theorem ahc(m:Int)(i:Nat)(hi:i<=31)(hz:(2:Int) ^ i≠0)(h1:decide ((↑i:Int)>=0)=true)(h2:decide ((↑i:Int)<32)=true)(k:Nat):EO (k+3) 155 [A.c (w4 m),A.c (ii (↑i:Int))] []=some ([au.c (bo (inM m i))],[]):=by
 exact rt (mc<|dO h2<|ec (pow i hi k)<|eb h2<|ep hz<|eg (G.ok)<|eb h2<|ep (show(2:Int)≠(0:Int) from by decide)<|eg (G.ok)<|ci h2<|e0) (by simp only[inM,vq]<;>rfl)
theorem ahd(m:Int)(i:Int)(h1:decide (i>=0)=false)(k:Nat):EO (k+3) 155 [A.c (w4 m),A.c (ii i)] []=some ([au.c (bo false)],[]):=by
 exact rt (dO h1<|fP<|ef<|e0) rfl
theorem ahe(m:Int)(i:Int)(h1:decide (i>=0)=true)(h2:decide (i<32)=false)(k:Nat):EO (k+3) 155 [A.c (w4 m),A.c (ii i)] []=some ([au.c (bo false)],[]):=by
 exact rt (dO h1<|hO h2<|eb h2<|e0) rfl
theorem Gq(x:BitVec 32)(i:Int)(k:Nat):EO (k+3) 155 [.c (w4 (mi x)), .c (ii i)] []=some ([.c (bo (ot x i))],[]):=by
 unfold ot IT
 by_cases h1:0<=i
 ·by_cases h2:i<32
  ·have h:=xX (i:=i.toNat) (by omega)
   have:=ahc (mi x) i.toNat (by omega) (by omega) (cJ (by omega)) (cJ (by omega)) k
   rw[Dh h1] at this
   rw[cJ h1,cJ h2]
   rw[acs] at this
   exact this
  ·rw[fN h2,Dc,rL]
   exact ahe (mi x) i (cJ h1) (fN h2) k
 ·rw[fN h1,rL,rL]
  exact ahd (mi x) i (fN h1) k
theorem ahf(x:Int)(h:IT x=true)(k:Nat):EO (k+2) 156 [.c (ii x)] []=some ([.c (w4 (mi (pB x)))],[]):=by
 unfold pB
 rw[h]
 unfold IT at h
 simp only[cY,ij] at h
 have:=pow x.toNat (by omega) k
 rw[Dh h.1,P5 (by omega)] at this
 exact this
def ZC(x:BitVec 32)(c0:List (List C))(c1:Int):St:=St.mk (tc (w4 (mi x))::T.bf::T.bf::T.k (K.v (V.cX 1 c0 (Tk.tok 0)))::tc (ii c1)::hs 12 []) [] [c0.length]
theorem ahg(x:BitVec 32)(c:List (List C))(i:Nat)(hc:c.length<=32)(k:Nat)(z0:(decide ((↑i:Int)<32))=true)(z1:(ot x (↑i:Int))=true):bQ (EE (k+3)) (HH 162) NN (LB PP 162 3) 0 1 (ZC x c (↑i:Int)) (ZC x (c++[[ii (↑i:Int)]]) (wrap .i64 ((↑i:Int)+1))):=
 nx (eb z0<|ec (Gq x ((↑i:Int)) k)<|eb z1<|ep (rfl:c++[[ii (↑i:Int)]]=c++[[ii (↑i:Int)]])<|ep (show List.length (c++[[ii (↑i:Int)]])<=1073741824 from by simp only[vr];omega)<|ep ((rfl:c.length=c.length)).symm<|eg (G.app (c++[[ii (↑i:Int)]]))<|e0)
theorem ahh(x:BitVec 32)(c:List (List C))(i:Nat)(k:Nat)(z0:(decide ((↑i:Int)<32))=true)(z1:(ot x (↑i:Int))=false):bQ (EE (k+3)) (HH 162) NN (LB PP 162 3) 0 1 (ZC x c (↑i:Int)) (ZC x c (wrap .i64 ((↑i:Int)+1))):=
 nx (eb z0<|ec (Gq x ((↑i:Int)) k)<|eb z1<|e0)
def OR(x:BitVec 32)(c:List (List C))(i:Nat):St:=St.mk (tc (w4 (mi x))::T.bf::T.bf::T.k (K.v (V.cX 1 c (Tk.tok 0)))::tc (ii (↑i:Int))::tc (ii (↑i:Int))::tc (bo (decide ((↑i:Int)<32)))::hs 10 []) [] [c.length]
theorem ahj(x:BitVec 32)(c:List (List C))(i:Nat)(k:Nat)(z0:(decide ((↑i:Int)<32))=false):dq (EE (k+3)) (HH 162) NN (LB PP 162 3) (ZC x c (↑i:Int)) (dJ.exit 0) (OR x c i):=
 ou (eb z0<|e0)
theorem vW(x:BitVec 32){i:Nat}(h:i<32):ot x (i:Int)=x.getLsbD i:=by
 unfold ot IT
 rw[cJ (by omega:(0:Int)<=i),cJ (by omega:(i:Int)<32)]
 simp
theorem L19(x:BitVec 32)(k:Nat):bT (EE (k+3)) (HH 162) NN (LB PP 162 3) (ZC x [] 0) (.exit 0) (OR x (is (qD x)) 32):=by
 rw[<-acu]
 refine t_ (nv:=0) (nt:=1) (fun i=>ZC x (is (P7 x i)) (i:Nat)) 32 rfl (by kernel_rfl) (by kernel_rfl) (fun i hi=> ?_) ?_ (by unfold NN;omega)
 ·have dK:(is (P7 x i)).length<=32:=by rw[act];exact aZ (P8 x i) (by omega)
  have hd:decide ((i:Int)<32)=true:=by simp;omega
  have e1:=RA hi (by omega)
  have ZD:=vW x hi
  show bQ _ _ _ _ _ _ (ZC x (is (P7 x i)) (i:Nat)) (ZC x (is (P7 x (i+1))) ((i+1:Nat):Int))
  rw[UF]
  cases hb:x.getLsbD i with
  |true=>
   rw[hb] at ZD
   have:=ahg x (is (P7 x i)) i dK k hd ZD
   rw[e1] at this
   simpa[is] using this
  |false=>
   rw[hb] at ZD
   have:=ahh x (is (P7 x i)) i k hd ZD
   rw[e1] at this
   exact this
 ·exact ahj x (is (P7 x 32)) 32 k (by decide)
theorem ahk(x:BitVec 32)(k:Nat):EO (k+4) 162 [A.c (w4 (mi x))] []=some ([au.top 1 (is (qD x))],[]):=by
 exact rt (eg (G.loop (dJ.exit 0) (OR x (is (qD x)) 32))<|ep (L19 x k)<|ep (show List.length (is (qD x))=(List.map eI (qD x)).length from by first|rfl|simp|(simp;omega))<|e0) rfl
theorem Wd{x:Int}(h1:decide (x>=0)=true)(h2:decide (x<32)=true):IT x=true:=by
 simp only[ij] at h1 h2
 unfold IT
 rw[cJ (by omega:(0:Int)<=x),cJ h2]
 rfl
theorem We{x:Int}(h:decide (x>=0)=false\/decide (x<32)=false):IT x=false:=by
 unfold IT
 rcases h with h|h
 ·rw[show decide (0<=x)=false from h,rL]
 ·rw[h,Dc]
theorem ahl(x:Int)(h1:decide (x>=0)=true)(h2:decide (x<32)=true)(k:Nat):EO (k+2) 156 [.c (ii x)] []=some ([.c (w4 (mi (pB x)))],[]):=ahf x (Wd h1 h2) k
theorem alL(m:BitVec 32)(x:Int)(h:ot m x=true)(k:Nat):EO (k+2) 156 [.c (ii x)] []=some ([.c (w4 (mi (pB x)))],[]):=ahf x (by unfold ot at h;simp only[cY] at h;exact h.1) k
def Wf(l:List Int)(c0:Int)(c1:Int):St:=St.mk (tc (w4 c0)::tc (sI l)::T.bf::T.bf::T.bf::tc (ii c1)::hs 35 []) [] []
theorem ahm(l:List Int)(m:BitVec 32)(i:Nat)(x:Int)(hx:l[i]?=some x)(k:Nat)(z0:(gL i l.length)=true)(z1:(decide (x>=0))=true)(z2:(decide (x<32))=true)(z3:(ot m x)=true):bQ (EE (k+3)) (HH 131) NN (LB PP 131 2) 0 0 (Wf l (mi m) (↑i:Int)) (Wf l (mi m) (wrap .i64 ((↑i:Int)+1))):=
 nx (ep (aG (eI) (l))<|eg (G.len l.length)<|eb z0<|ep (rz i)<|ep (aT (f:=eI) hx)<|eg (G.fF i [ii x])<|dO z1<|ep (rz i)<|ep (aT (f:=eI) hx)<|eg (G.fF i [ii x])<|dO z1<|eo z2<|ep (rz i)<|ep (aT (f:=eI) hx)<|eg (G.fF i [ii x])<|ci z2<|ec (Gq m x k)<|ci z2<|en z3<|e0)
theorem ahn(l:List Int)(m:BitVec 32)(i:Nat)(x:Int)(hx:l[i]?=some x)(k:Nat)(z0:(gL i l.length)=true)(z1:(decide (x>=0))=true)(z2:(decide (x<32))=true)(z3:(ot m x)=false):bQ (EE (k+3)) (HH 131) NN (LB PP 131 2) 0 0 (Wf l (mi m) (↑i:Int)) (Wf l (wrap .u32 (mi m+mi (pB x))) (wrap .i64 ((↑i:Int)+1))):=
 nx (ep (aG (eI) (l))<|eg (G.len l.length)<|eb z0<|ep (rz i)<|ep (aT (f:=eI) hx)<|eg (G.fF i [ii x])<|dO z1<|ep (rz i)<|ep (aT (f:=eI) hx)<|eg (G.fF i [ii x])<|dO z1<|eo z2<|ep (rz i)<|ep (aT (f:=eI) hx)<|eg (G.fF i [ii x])<|ci z2<|ec (Gq m x k)<|ci z2<|en z3<|ep (rz i)<|ep (aT (f:=eI) hx)<|eg (G.fF i [ii x])<|ec (ahl x z1 z2 (k+1))<|e0)
theorem aho(l:List Int)(m:BitVec 32)(i:Nat)(x:Int)(hx:l[i]?=some x)(k:Nat)(z0:(gL i l.length)=true)(z1:(decide (x>=0))=true)(z2:(decide (x<32))=false):bQ (EE (k+3)) (HH 131) NN (LB PP 131 2) 0 0 (Wf l (mi m) (↑i:Int)) (Wf l (mi m) (wrap .i64 ((↑i:Int)+1))):=
 nx (ep (aG (eI) (l))<|eg (G.len l.length)<|eb z0<|ep (rz i)<|ep (aT (f:=eI) hx)<|eg (G.fF i [ii x])<|dO z1<|ep (rz i)<|ep (aT (f:=eI) hx)<|eg (G.fF i [ii x])<|dO z1<|hO z2<|ci z2<|ef<|e0)
theorem ahp(l:List Int)(m:BitVec 32)(i:Nat)(x:Int)(hx:l[i]?=some x)(k:Nat)(z0:(gL i l.length)=true)(z1:(decide (x>=0))=false):bQ (EE (k+3)) (HH 131) NN (LB PP 131 2) 0 0 (Wf l (mi m) (↑i:Int)) (Wf l (mi m) (wrap .i64 ((↑i:Int)+1))):=
 nx (ep (aG (eI) (l))<|eg (G.len l.length)<|eb z0<|ep (rz i)<|ep (aT (f:=eI) hx)<|eg (G.fF i [ii x])<|hO z1<|fP<|lE<|e0)
def JD(l:List Int)(m:BitVec 32)(i:Nat):St:=St.mk (tc (w4 (mi m))::tc (sI l)::T.bf::T.bf::T.bf::tc (ii (↑i:Int))::tc (ii (↑i:Int))::tc (sI l)::tc (ii (↑(l.length):Int))::tc (bo (gL i l.length))::hs 31 []) [] []
theorem ahq(l:List Int)(m:BitVec 32)(i:Nat)(k:Nat)(z0:(gL i l.length)=false):dq (EE (k+3)) (HH 131) NN (LB PP 131 2) (Wf l (mi m) (↑i:Int)) (dJ.exit 0) (JD l m i):=
 ou (ep (aG (eI) (l))<|eg (G.len l.length)<|eb z0<|e0)
def S23(l:List Int)(c0:Int)(c1:Int):St:=St.mk (tc (w4 c0)::tc (sI l)::T.bf::T.bf::T.bf::tc (ii c1)::hs 20 []) [] []
theorem ahr(l:List Int)(m:BitVec 32)(i:Nat)(x:Int)(hx:l[i]?=some x)(k:Nat)(z0:(gL i l.length)=true)(z1:(ot m x)=true):bQ (EE (k+3)) (HH 163) NN (LB PP 163 2) 0 0 (S23 l (mi m) (↑i:Int)) (S23 l (wrap .u32 (mi m-mi (pB x))) (wrap .i64 ((↑i:Int)+1))):=
 nx (ep (aG (eI) (l))<|eg (G.len l.length)<|eb z0<|ep (rz i)<|ep (aT (f:=eI) hx)<|eg (G.fF i [ii x])<|ec (Gq m x k)<|eb z1<|ep (rz i)<|ep (aT (f:=eI) hx)<|eg (G.fF i [ii x])<|ec (alL m x z1 (k+1))<|e0)
theorem ahs(l:List Int)(m:BitVec 32)(i:Nat)(x:Int)(hx:l[i]?=some x)(k:Nat)(z0:(gL i l.length)=true)(z1:(ot m x)=false):bQ (EE (k+3)) (HH 163) NN (LB PP 163 2) 0 0 (S23 l (mi m) (↑i:Int)) (S23 l (mi m) (wrap .i64 ((↑i:Int)+1))):=
 nx (ep (aG (eI) (l))<|eg (G.len l.length)<|eb z0<|ep (rz i)<|ep (aT (f:=eI) hx)<|eg (G.fF i [ii x])<|ec (Gq m x k)<|eb z1<|e0)
def JE(l:List Int)(m:BitVec 32)(i:Nat):St:=St.mk (tc (w4 (mi m))::tc (sI l)::T.bf::T.bf::T.bf::tc (ii (↑i:Int))::tc (ii (↑i:Int))::tc (sI l)::tc (ii (↑(l.length):Int))::tc (bo (gL i l.length))::hs 16 []) [] []
theorem aht(l:List Int)(m:BitVec 32)(i:Nat)(k:Nat)(z0:(gL i l.length)=false):dq (EE (k+3)) (HH 163) NN (LB PP 163 2) (S23 l (mi m) (↑i:Int)) (dJ.exit 0) (JE l m i):=
 ou (ep (aG (eI) (l))<|eg (G.len l.length)<|eb z0<|e0)
theorem CR{x:Int}(h:IT x=true):pB x=BitVec.twoPow 32 x.toNat/\x.toNat<32/\(2:Int) ^ x.toNat=mi (pB x):=by
 unfold pB
 rw[h]
 unfold IT at h
 simp only[cY,ij] at h
 exact⟨rfl,by omega,P5 (by omega)⟩
theorem FD{x:Int}(h:IT x=false):pB x=0#32:=by
 unfold pB;rw[h];rfl
theorem adf{m:BitVec 32}{x:Int}(h:ot m x=true):m|||pB x=m:=by
 unfold ot at h
 simp only[cY] at h
 obtain⟨e,fO,_⟩:=CR h.1
 rw[e]
 apply ql
 intro j hj
 simp only[nh,xw,hj,oH,i6]
 by_cases MR:x.toNat=j
 ·rw[<-MR,h.2];simp
 ·simp[MR]
theorem Wg{m:BitVec 32}{x:Int}(h:ot m x=false):m&&&~~~pB x=m:=by
 unfold ot at h
 cases hb:IT x with
 |false=>rw[FD hb];show m&&&BitVec.allOnes 32=m;exact BitVec.and_allOnes
 |true=>
  rw[hb,i6] at h
  obtain⟨e,fO,_⟩:=CR hb
  rw[e]
  apply ql
  intro j hj
  simp only[qm,tt,xw,hj,oH,i6]
  by_cases MR:x.toNat=j
  ·rw[<-MR,h];simp
  ·simp[MR]
theorem L21(x:BitVec 32)(l:List Int)(hl:l.length<=1000000)(k:Nat):bT (EE (k+3)) (HH 131) NN (LB PP 131 2) (Wf l (mi x) 0) (.exit 0) (JD l (lA x l) l.length):=by
 refine ke (E:=EE (k+3)) (H:=HH 131) (n:=NN) (b:=LB PP 131 2) (fun(m:BitVec 32) (i:Nat)=>Wf l (mi m) (i:Nat)) (fun _ _=>True) l
  (fun m x=>m|||pB x) x (nv:=0) (nt:=0) (e:= .exit 0) (t:=fun m=>JD l m l.length) rfl (by kernel_rfl) (by kernel_rfl) trivial (fun m i y hy _=>⟨?_,trivial⟩) (fun _=> ?_) (by unfold NN;omega)
 ·have hi:=(List.getElem?_eq_some_iff.1 hy).1
  have hd:decide ((i:Int)<(l.length:Int))=true:=by simp;exact hi
  have e1:=RA hi (by omega)
  cases h1:decide (y>=0) with
  |false=>
   have:=ahp l m i y hy k hd h1
   rw[e1] at this
   rw[FD (We (.inl h1)),BitVec.or_zero]
   exact this
  |true=>
   cases h2:decide (y<32) with
   |false=>
    have:=aho l m i y hy k hd h1 h2
    rw[e1] at this
    rw[FD (We (.inr h2)),BitVec.or_zero]
    exact this
   |true=>
    cases hb:ot m y with
    |true=>
     have:=ahm l m i y hy k hd h1 h2 hb
     rw[e1] at this
     rw[adf hb]
     exact this
    |false=>
     have:=ahn l m i y hy k hd h1 h2 hb
     have rT:=Wd h1 h2
     obtain⟨eb,fO,ep⟩:=CR rT
     unfold ot at hb
     rw[rT,i6] at hb
     rw[e1,<-ep,P6 fO hb,<-eb] at this
     exact this
 ·exact ahq l _ l.length k Gf
theorem ahu(x:BitVec 32)(l:List Int)(hl:l.length<=1000000)(k:Nat):EO (k+4) 131 [A.c (w4 (mi x)),A.c (C.slice 1 (is l))] []=some ([au.c (w4 (mi (lA x l)))],[]):=by
 exact rt (eg (G.loop (dJ.exit 0) (JD l (lA x l) l.length))<|ep (L21 x l hl k)<|e0) rfl
theorem L23(x:BitVec 32)(l:List Int)(hl:l.length<=1000000)(k:Nat):bT (EE (k+3)) (HH 163) NN (LB PP 163 2) (S23 l (mi x) 0) (.exit 0) (JE l (ik x l) l.length):=by
 refine ke (E:=EE (k+3)) (H:=HH 163) (n:=NN) (b:=LB PP 163 2) (fun(m:BitVec 32) (i:Nat)=>S23 l (mi m) (i:Nat)) (fun _ _=>True) l
  (fun m x=>m&&&~~~pB x) x (nv:=0) (nt:=0) (e:= .exit 0) (t:=fun m=>JE l m l.length) rfl (by kernel_rfl) (by kernel_rfl) trivial (fun m i y hy _=>⟨?_,trivial⟩) (fun _=> ?_) (by unfold NN;omega)
 ·have hi:=(List.getElem?_eq_some_iff.1 hy).1
  have hd:decide ((i:Int)<(l.length:Int))=true:=by simp;exact hi
  have e1:=RA hi (by omega)
  cases hb:ot m y with
  |false=>
   have:=ahs l m i y hy k hd hb
   rw[e1] at this
   rw[Wg hb]
   exact this
  |true=>
   have:=ahr l m i y hy k hd hb
   unfold ot at hb
   simp only[cY] at hb
   obtain⟨eb,fO,ep⟩:=CR hb.1
   rw[e1,<-ep,YO fO hb.2,<-eb] at this
   exact this
 ·exact aht l _ l.length k Gf
theorem alM(x:BitVec 32)(l:List Int)(hl:l.length<=1000000)(k:Nat):EO (k+4) 163 [A.c (w4 (mi x)),A.c (C.slice 1 (is l))] []=some ([au.c (w4 (mi (ik x l)))],[]):=by
 exact rt (eg (G.loop (dJ.exit 0) (JE l (ik x l) l.length))<|ep (L23 x l hl k)<|e0) rfl
theorem ahv(x y:BitVec 32)(k:Nat):EO (k+4) 131 [.c (w4 (mi x)), .c (.slice 1 (is (qD y)))] []=some ([.c (w4 (mi (x|||y)))],[]):=by
 have:=ahu x (qD y) (aZ (RF y) (by omega)) k
 rwa[N4] at this
def S25(l:List (BitVec 32))(c0:Int)(c1:Int):St:=St.mk (tc (C.slice 1 (List.map eW l))::T.bf::T.bf::tc (w4 c0)::tc (ii c1)::hs 14 []) [] []
theorem ahx(l:List (BitVec 32))(m:BitVec 32)(i:Nat)(x:BitVec 32)(hx:l[i]?=some x)(k:Nat)(z0:(gL i l.length)=true):bQ (EE (k+5)) (HH 136) NN (LB PP 136 3) 0 0 (S25 l (mi m) (↑i:Int)) (S25 l (mi (m|||x)) (wrap .i64 ((↑i:Int)+1))):=
 nx (ep (aG (eW) (l))<|eg (G.len l.length)<|eb z0<|ep (rz i)<|ep (aT (f:=eW) hx)<|eg (G.fF i [w4 (mi x)])<|ec (ahk x (k+1))<|ec (ahv m x (k+1))<|e0)
def JF(l:List (BitVec 32))(m:BitVec 32)(i:Nat):St:=St.mk (tc (C.slice 1 (List.map eW l))::T.bf::T.bf::tc (w4 (mi m))::tc (ii (↑i:Int))::tc (ii (↑i:Int))::tc (C.slice 1 (List.map eW l))::tc (ii (↑(l.length):Int))::tc (bo (gL i l.length))::hs 10 []) [] []
theorem ahy(l:List (BitVec 32))(m:BitVec 32)(i:Nat)(k:Nat)(z0:(gL i l.length)=false):dq (EE (k+5)) (HH 136) NN (LB PP 136 3) (S25 l (mi m) (↑i:Int)) (dJ.exit 0) (JF l m i):=
 ou (ep (aG (eW) (l))<|eg (G.len l.length)<|eb z0<|e0)
theorem L25(l:List (BitVec 32))(hl:l.length<=1000000)(k:Nat):bT (EE (k+5)) (HH 136) NN (LB PP 136 3) (S25 l 0 0) (.exit 0) (JF l (orI 0#32 l) l.length):=by
 refine ke (E:=EE (k+5)) (H:=HH 136) (n:=NN) (b:=LB PP 136 3) (fun(m:BitVec 32) (i:Nat)=>S25 l (mi m) (i:Nat)) (fun _ _=>True) l
  (fun m x=>m|||x) 0#32 (nv:=0) (nt:=0) (e:= .exit 0) (t:=fun m=>JF l m l.length) rfl (by kernel_rfl) (by kernel_rfl) trivial (fun m i y hy _=>⟨?_,trivial⟩) (fun _=> ?_) (by unfold NN;omega)
 ·have hi:=(List.getElem?_eq_some_iff.1 hy).1
  have:=ahx l m i y hy k (by simp;exact hi)
  rw[RA hi (by omega)] at this
  exact this
 ·exact ahy l _ l.length k Gf
theorem adg(l:List (BitVec 32))(hl:l.length<=1000000)(k:Nat):EO (k+6) 136 [A.c (C.slice 1 (ms l))] []=some ([au.c (w4 (mi (orI (BitVec.ofNat 32 0) l)))],[]):=by
 exact rt (eg (G.loop (dJ.exit 0) (JF l (orI (BitVec.ofNat 32 0) l) l.length))<|ep (L25 l hl k)<|e0) rfl
def S14(n:Int)(c0:Int)(c1:Int):St:=St.mk (tc (ii n)::T.bf::T.bf::tc (w4 c0)::tc (ii c1)::hs 16 []) [] []
theorem ahA(n:Nat)(m:Int)(i:Nat)(hi:i<=31)(k:Nat)(z0:(decide ((↑i:Int)<(↑n:Int)))=true):bQ (EE (k+2)) (HH 161) NN (LB PP 161 5) 0 0 (S14 (↑n:Int) m (↑i:Int)) (S14 (↑n:Int) (wrap .u32 (m+2 ^ i)) (wrap .i64 ((↑i:Int)+1))):=
 nx (eb z0<|ec (pow i hi k)<|e0)
def OS(n:Nat)(m:Int)(i:Nat):St:=St.mk (tc (ii (↑n:Int))::T.bf::T.bf::tc (w4 m)::tc (ii (↑i:Int))::hs 6 (tc (ii (↑i:Int))::tc (ii (↑n:Int))::tc (bo (decide ((↑i:Int)<(↑n:Int))))::hs 7 [])) [] []
theorem ahB(n:Nat)(m:Int)(i:Nat)(k:Nat)(z0:(decide ((↑i:Int)<(↑n:Int)))=false):dq (EE (k+2)) (HH 161) NN (LB PP 161 5) (S14 (↑n:Int) m (↑i:Int)) (dJ.exit 0) (OS n m i):=
 ou (eb z0<|e0)
theorem JG{i:Nat}(h:i<=31):wrap .u32 ((2:Int) ^ i-1+2 ^ i)=2 ^ (i+1)-1:=by
 have h2:=xX h
 have e:(2:Int) ^ (i+1)=2*2 ^ i:=by rw[Dg,Int.mul_comm]
 have ew:(2:Int) ^ i-1+2 ^ i=2 ^ (i+1)-1:=by omega
 rw[ew]
 unfold wrap
 simp[IntKind.signed,IntKind.bits]
 omega
theorem L14(n:Nat)(hn:n<=32)(k:Nat):bT (EE (k+2)) (HH 161) NN (LB PP 161 5) (S14 n 0 0) (.exit 0) (OS n (2 ^ n-1) n):=by
 refine t_ (nv:=0) (nt:=0) (fun i=>S14 n (2 ^ i-1) (i:Nat)) n rfl (by kernel_rfl) (by kernel_rfl) (fun i hi=> ?_) ?_ (by unfold NN;omega)
 ·have:=ahA n (2 ^ i-1) i (by omega) k (by simp;exact hi)
  rw[RA hi (by omega),JG (by omega)] at this
  exact this
 ·exact ahB n (2 ^ n-1) n k (by simp)
theorem ahC(n:Nat)(hn:n<=32)(h1:decide ((↑n:Int)<1)=false)(h2:decide ((↑n:Int)>32)=false)(k:Nat):EO (k+3) 161 [A.c (ii (↑n:Int))] []=some ([au.c (w4 ((2:Int) ^ n-1))],[]):=by
 exact rt (dO h1<|eb h2<|eg (G.loop (dJ.exit 0) (OS n ((2:Int) ^ n-1) n))<|ep (L14 n hn k)<|e0) rfl
theorem ahD(B:Int)(h1:decide (B<1)=true)(k:Nat):EO (k+3) 161 [A.c (ii B)] []=some ([au.c (w4 0)],[]):=by
 exact rt (dO h1<|et<|e0) rfl
theorem ahE(B:Int)(h1:decide (B<1)=false)(h2:decide (B>32)=true)(k:Nat):EO (k+3) 161 [A.c (ii B)] []=some ([au.c (w4 0)],[]):=by
 exact rt (dO h1<|eb h2<|e0) rfl
theorem ZE{n:Nat}(h:n<=32):(2:Int) ^ n-1=mi (BitVec.ofNat 32 (2 ^ n-1)):=by
 simp only[mi,BitVec.toNat_ofNat]
 have h2:2 ^ n<=2 ^ 32:=Nat.pow_le_pow_right (by omega) h
 have h3:0<2 ^ n:=Nat.pow_pos (by omega)
 rw[yF (by omega)]
 have e:((2 ^ n:Nat):Int)=(2:Int) ^ n:=by simp
 rw[<-e]
 omega
theorem alN(B:Int)(k:Nat):EO (k+3) 161 [.c (ii B)] []=some ([.c (w4 (mi (AV B)))],[]):=by
 unfold AV
 by_cases h1:B<1
 ·rw[aR (by omega)]
  exact ahD B (cJ h1) k
 ·by_cases h2:B<=32
  ·rw[aP ⟨by omega,h2⟩,<-ZE (by omega)]
   have:=ahC B.toNat (by omega) (fN (by omega)) (fN (by omega)) k
   rwa[Dh (by omega)] at this
  ·rw[aR (by omega)]
   exact ahE B (fN h1) (cJ (by omega)) k
def X_(x:BitVec 32)(c0:Int):St:=St.mk (tc (w4 (mi x))::hs 4 (tc (ii c0)::hs 14 [])) [] []
def OT(x:BitVec 32)(i:Nat):St:=St.mk (tc (w4 (mi x))::T.bf::T.bf::T.bf::tc (bo false)::tc (ii (↑i:Int))::hs 7 [tc (ii (↑i:Int)),tc (bo (decide ((↑i:Int)<32))),T.bf,T.bf,tc (w4 (mi x)),tc (ii (↑i:Int)),tc (bo (ot x (↑i:Int)))]) [] []
theorem ahF(x:BitVec 32)(i:Nat)(k:Nat)(z0:(decide ((↑i:Int)<32))=true)(z1:(ot x (↑i:Int))=true):dq (EE (k+3)) (HH 142) NN (LB PP 142 4) (X_ x (↑i:Int)) (dJ.ret) (OT x i):=
 ou (eb z0<|ec (Gq x ((↑i:Int)) k)<|eb z1<|e0)
theorem ahG(x:BitVec 32)(i:Nat)(k:Nat)(z0:(decide ((↑i:Int)<32))=true)(z1:(ot x (↑i:Int))=false):bQ (EE (k+3)) (HH 142) NN (LB PP 142 4) 0 0 (X_ x (↑i:Int)) (X_ x (wrap .i64 ((↑i:Int)+1))):=
 nx (eb z0<|ec (Gq x ((↑i:Int)) k)<|eb z1<|e0)
def OU(x:BitVec 32)(i:Nat):St:=St.mk (tc (w4 (mi x))::hs 4 (tc (ii (↑i:Int))::hs 7 (tc (ii (↑i:Int))::tc (bo (decide ((↑i:Int)<32)))::hs 5 []))) [] []
theorem ahH(x:BitVec 32)(i:Nat)(k:Nat)(z0:(decide ((↑i:Int)<32))=false):dq (EE (k+3)) (HH 142) NN (LB PP 142 4) (X_ x (↑i:Int)) (dJ.exit 0) (OU x i):=
 ou (eb z0<|e0)
theorem FE{B n i y:Nat}(h:(List.range' B n)[i]?=some y):y=B+i/\i<n:=by
 obtain⟨hi,rfl⟩:=List.getElem?_eq_some_iff.1 h
 simp at hi
 simp[hi]
def B7(x:BitVec 32)(B:Nat):Bool:=(List.range' B (32-B)).all fun i=>!x.getLsbD i
theorem Wh(x:BitVec 32)(B:Nat)(hB:B<=32)(k:Nat)(i y:Nat)(hy:(List.range' B (32-B))[i]?=some y)(hp:x.getLsbD y=false):bQ (EE (k+3)) (HH 142) NN (LB PP 142 4) 0 0 (X_ x ((B+i:Nat):Int)) (X_ x ((B+(i+1):Nat):Int)):=by
 obtain⟨rfl,hi⟩:=FE hy
 have:=ahG x (B+i) k (cJ (by omega)) (by rw[vW x (by omega)];exact hp)
 rw[RA (show B+i<32 by omega) (by omega)] at this
 exact this
theorem ZF(x:BitVec 32)(B:Nat)(hB:B<=32)(hb:B7 x B=false)(k:Nat):bT (EE (k+3)) (HH 142) NN (LB PP 142 4) (X_ x B) .ret (OT x (B+(List.range' B (32-B)).findIdx x.getLsbD)):=by
 have alO:(List.range' B (32-B)).any x.getLsbD=true:=by
  unfold B7 at hb
  rw[List.all_eq_not_any_not] at hb
  simpa using hb
 have hj:=iz alO
 refine zp (E:=EE (k+3)) (n:=NN) (b:=LB PP 142 4) (fun i=>X_ x ((B+i:Nat):Int)) (List.range' B (32-B)) x.getLsbD (nv:=0) (nt:=0) rfl (by kernel_rfl) (by kernel_rfl)
  (fun i y hy hp=>Wh x B hB k i y hy hp) (fun y hy hp=> ?_) hj (by unfold NN;simp;omega)
 obtain⟨rfl,hi⟩:=FE hy
 exact ahF x _ k (cJ (by omega)) (by rw[vW x (by omega)];exact hp)
theorem Wi(x:BitVec 32)(B:Nat)(hB:B<=32)(hb:B7 x B=true)(k:Nat):bT (EE (k+3)) (HH 142) NN (LB PP 142 4) (X_ x B) (.exit 0) (OU x 32):=by
 refine wB (E:=EE (k+3)) (n:=NN) (b:=LB PP 142 4) (fun i=>X_ x ((B+i:Nat):Int)) (List.range' B (32-B)) x.getLsbD (nv:=0) (nt:=0) rfl (by kernel_rfl) (by kernel_rfl)
  (fun i y hy hp=>Wh x B hB k i y hy hp) ?_ hb (by unfold NN;simp;omega)
 rw[List.length_range',show B+(32-B)=32 by omega]
 exact ahH x 32 k (by decide)
theorem ZG(x:BitVec 32)(B:Nat)(hB:B<=32)(h1:decide ((↑B:Int)<1)=false)(h2:decide ((↑B:Int)>32)=false)(hb:B7 x B=true)(k:Nat):EO (k+4) 142 [A.c (w4 (mi x)),A.c (ii (↑B:Int))] []=some ([au.c (bo true)],[]):=by
 exact rt (dO h1<|eb h2<|eg (G.loop (dJ.exit 0) (OU x 32))<|ep (Wi x B hB hb k)<|e0) rfl
theorem ZH(x:BitVec 32)(B:Nat)(hB:B<=32)(h1:decide ((↑B:Int)<1)=false)(h2:decide ((↑B:Int)>32)=false)(hb:B7 x B=false)(k:Nat):EO (k+4) 142 [A.c (w4 (mi x)),A.c (ii (↑B:Int))] []=some ([au.c (bo false)],[]):=by
 exact rt (dO h1<|eb h2<|eg (G.loop dJ.ret (OT x (B+List.findIdx (BitVec.getLsbD x) (List.range' B (32-B)))))<|ep (ZF x B hB hb k)<|e0) rfl
theorem ZI(x:BitVec 32)(B:Int)(h1:decide (B<1)=true)(k:Nat):EO (k+4) 142 [A.c (w4 (mi x)),A.c (ii B)] []=some ([au.c (bo false)],[]):=by
 exact rt (dO h1<|et<|e0) rfl
theorem ZJ(x:BitVec 32)(B:Int)(h1:decide (B<1)=false)(h2:decide (B>32)=true)(k:Nat):EO (k+4) 142 [A.c (w4 (mi x)),A.c (ii B)] []=some ([au.c (bo false)],[]):=by
 exact rt (dO h1<|eb h2<|e0) rfl
theorem Mv{n j:Nat}(hn:n<=32)(hj:j<32):(BitVec.ofNat 32 (2 ^ n-1)).getLsbD j=decide (j<n):=by
 rw[BitVec.getLsbD_ofNat,Nat.testBit_two_pow_sub_one]
 simp[hj]
theorem Wj(x:BitVec 32)(n:Nat)(h1:1<=n)(h2:n<=32):B7 x n=(x&&&~~~AV n==0#32):=by
 unfold B7 AV
 rw[aP ⟨by omega,by omega⟩,At,xy,lG,jF]
 constructor
 ·intro h
  apply ql
  intro j hj
  simp only[qm,tt,xx,hj,oH,i6,Mv h2 hj]
  by_cases hjn:j<n
  ·simp[hjn]
  ·have:=h j (by simp;omega)
   simp at this
   simp[this]
 ·intro h j hj
  simp at hj
  have:=cu (fun b:BitVec 32=>b.getLsbD j) h
  simp only[qm,tt,xx,Mv h2 (show j<32 by omega)] at this
  rw[fN (by omega:¬j<n),cJ (by omega:j<32)] at this
  simpa using this
theorem vX(x:BitVec 32)(B:Int)(k:Nat):EO (k+4) 142 [.c (w4 (mi x)), .c (ii B)] []=some ([.c (bo (dP x B))],[]):=by
 unfold dP
 by_cases h1:B<1
 ·rw[fN (by omega:¬1<=B),rL,rL]
  exact ZI x B (cJ h1) k
 ·by_cases h2:B<=32
  ·rw[cJ (by omega:1<=B),cJ h2,i6,i6]
   obtain⟨n,rfl⟩:=Int.eq_ofNat_of_zero_le (a:=B) (by omega)
   rw[<-Wj x n (by omega) (by omega)]
   cases hb:B7 x n with
   |true=>exact ZG x n (by omega) (fN (by omega)) (fN (by omega)) hb k
   |false=>exact ZH x n (by omega) (fN (by omega)) (fN (by omega)) hb k
  ·rw[fN h2,Dc,rL]
   exact ZJ x B (fN h1) (cJ (by omega)) k
def S8(x:BitVec 32)(f:Int)(c0:Int):St:=St.mk (tc (w4 (mi x))::tc (ii f)::hs 4 (tc (ii c0)::hs 13 [])) [] []
def Wk(x:BitVec 32)(f:Int)(i:Nat):St:=St.mk [tc (w4 (mi x)),tc (ii f),T.bf,T.bf,tc (ii (↑i:Int)),tc (bo true),tc (ii (↑i:Int)),tc (ii (↑i:Int)),tc (bo (decide ((↑i:Int)<32))),T.bf,T.bf,tc (ii (↑i:Int)),tc (ii f),tc (bo (decide ((↑i:Int)>=f))),tc (bo (decide ((↑i:Int)>=f))),tc (w4 (mi x)),tc (ii (↑i:Int)),tc (bo (ot x (↑i:Int))),tc (bo (ot x (↑i:Int))),tc (ii (↑i:Int))] [] []
theorem alP(x:BitVec 32)(f:Int)(i:Nat)(k:Nat)(z0:(decide ((↑i:Int)<32))=true)(z1:(decide ((↑i:Int)>=f))=true)(z2:(ot x (↑i:Int))=true):dq (EE (k+3)) (HH 137) NN (LB PP 137 2) (S8 x f (↑i:Int)) (dJ.ret) (Wk x f i):=
 ou (eb z0<|dO z1<|ec (Gq x ((↑i:Int)) k)<|eb z1<|eb z2<|e0)
theorem alQ(x:BitVec 32)(f:Int)(i:Nat)(k:Nat)(z0:(decide ((↑i:Int)<32))=true)(z1:(decide ((↑i:Int)>=f))=true)(z2:(ot x (↑i:Int))=false):bQ (EE (k+3)) (HH 137) NN (LB PP 137 2) 0 0 (S8 x f (↑i:Int)) (S8 x f (wrap .i64 ((↑i:Int)+1))):=
 nx (eb z0<|dO z1<|ec (Gq x ((↑i:Int)) k)<|eb z1<|eb z2<|e0)
theorem alR(x:BitVec 32)(f:Int)(i:Nat)(k:Nat)(z0:(decide ((↑i:Int)<32))=true)(z1:(decide ((↑i:Int)>=f))=false):bQ (EE (k+3)) (HH 137) NN (LB PP 137 2) 0 0 (S8 x f (↑i:Int)) (S8 x f (wrap .i64 ((↑i:Int)+1))):=
 nx (eb z0<|eo z1<|ef<|e0)
def Wl(x:BitVec 32)(f:Int)(i:Nat):St:=St.mk (tc (w4 (mi x))::tc (ii f)::hs 4 (tc (ii (↑i:Int))::tc (ii (↑i:Int))::tc (bo (decide ((↑i:Int)<32)))::hs 11 [])) [] []
theorem alS(x:BitVec 32)(f:Int)(i:Nat)(k:Nat)(z0:(decide ((↑i:Int)<32))=false):dq (EE (k+3)) (HH 137) NN (LB PP 137 2) (S8 x f (↑i:Int)) (dJ.exit 0) (Wl x f i):=
 ou (eb z0<|e0)
def pN(x:BitVec 32)(f:Int)(i:Nat):Bool:=decide ((i:Int)>=f)&&x.getLsbD i
theorem oE{n i y:Nat}(h:(List.range n)[i]?=some y):y=i/\i<n:=by
 obtain⟨hi,rfl⟩:=List.getElem?_eq_some_iff.1 h
 simp at hi
 simp[hi]
theorem abw(x:BitVec 32)(f:Int)(k:Nat)(i y:Nat)(hy:(List.range 32)[i]?=some y)(hp:pN x f y=false):bQ (EE (k+3)) (HH 137) NN (LB PP 137 2) 0 0 (S8 x f (i:Nat)) (S8 x f ((i+1:Nat):Int)):=by
 obtain⟨rfl,hi⟩:=oE hy
 have e:=RA hi (show 32<9223372036854775808 by omega)
 unfold pN at hp
 cases h1:decide ((y:Int)>=f) with
 |false=>
  have:=alR x f y k (cJ (by omega)) h1
  rwa[e] at this
 |true=>
  rw[h1,i6] at hp
  have:=alQ x f y k (cJ (by omega)) h1 (by rw[vW x hi];exact hp)
  rwa[e] at this
theorem adh(x:BitVec 32)(f:Int)(hb:(List.range 32).any (pN x f)=true)(k:Nat):bT (EE (k+3)) (HH 137) NN (LB PP 137 2) (S8 x f 0) .ret (Wk x f ((List.range 32).findIdx (pN x f))):=by
 refine zp (E:=EE (k+3)) (n:=NN) (b:=LB PP 137 2) (fun i=>S8 x f (i:Nat)) (List.range 32) (pN x f) (nv:=0) (nt:=0) rfl (by kernel_rfl) (by kernel_rfl)
  (fun i y hy hp=>abw x f k i y hy hp) (fun y hy hp=> ?_) (iz hb) (by rw[iM];unfold NN;omega)
 obtain⟨e,hi⟩:=oE hy
 rw[e] at hp
 unfold pN at hp
 simp only[cY] at hp
 exact alP x f _ k (cJ (by omega)) hp.1 (by rw[vW x hi];exact hp.2)
theorem ZK(x:BitVec 32)(f:Int)(hb:(List.range 32).any (pN x f)=false)(k:Nat):bT (EE (k+3)) (HH 137) NN (LB PP 137 2) (S8 x f 0) (.exit 0) (Wl x f 32):=by
 refine wB (E:=EE (k+3)) (n:=NN) (b:=LB PP 137 2) (fun i=>S8 x f (i:Nat)) (List.range 32) (pN x f) (nv:=0) (nt:=0) rfl (by kernel_rfl) (by kernel_rfl)
  (fun i y hy hp=>abw x f k i y hy hp) ?_ (qA hb) (by rw[iM];unfold NN;omega)
 rw[iM]
 exact alS x f 32 k (by decide)
theorem adi(x:BitVec 32)(f:Int)(hb:List.any (List.range 32) (pN x f)=true)(k:Nat):EO (k+4) 137 [A.c (w4 (mi x)),A.c (ii f)] []=some ([au.c (ii (↑(List.findIdx (pN x f) (List.range 32)):Int)),au.c (bo true)],[]):=by
 exact ro (eg (G.loop dJ.ret (Wk x f (List.findIdx (pN x f) (List.range 32))))<|ep (adh x f hb k)<|e0)
theorem adj(x:BitVec 32)(f:Int)(hb:List.any (List.range 32) (pN x f)=false)(k:Nat):EO (k+4) 137 [A.c (w4 (mi x)),A.c (ii f)] []=some ([au.c (ii 0),au.c (bo false)],[]):=by
 exact ro (eg (G.loop (dJ.exit 0) (Wl x f 32))<|ep (ZK x f hb k)<|e0)
theorem Wm(x:BitVec 32)(f:Int):n7 x f=if(List.range 32).any (pN x f) then some (((List.range 32).findIdx (pN x f):Nat):Int) else none:=by
 have e:n7 x f=((List.range 32).find? (pN x f)).map fun(i:Nat)=>(i:Int):=by
  unfold n7 qD Eo
  rw[List.find?_map,List.find?_filter]
  congr 2
  funext i
  unfold pN
  simp only[Function.comp,Bool.decide_and,Bool.decide_eq_true,ge_iff_le]
  rw[Bool.and_comm]
 rw[e]
 cases hb:(List.range 32).any (pN x f) with
 |true=>
  have hj:=iz hb
  rw[List.find?_eq_getElem?_findIdx,cm hj]
  simp
 |false=>
  have h:=qA hb
  rw[xB.2 (fun i hi=>by have:=lG.1 h i hi;simpa using this)]
  rfl
theorem Wn(x:BitVec 32)(f:Int)(k:Nat):EO (k+4) 137 [.c (w4 (mi x)), .c (ii f)] []=some ([.c (ii ((n7 x f).getD 0)), .c (bo (n7 x f).isSome)],[]):=by
 rw[Wm]
 cases hb:(List.range 32).any (pN x f) with
 |true=>exact adi x f hb k
 |false=>exact adj x f hb k
def Sho(d:Dk)(j:Nat)(c0:ByteArray)(c1:Int):St:=St.mk (T.bf::tc (ii (↑j:Int))::T.k (K.v (V.fX 0 0))::T.bf::T.bf::tc (st c0)::tc (ii c1)::Dm.hs 27 []) [[V.c (sS d.ax),V.c (sW d.ar),V.c (ii d.kU),V.c (bo d.gN)]] []
theorem ahI(d:Dk)(j:Nat)(s:ByteArray)(i:Nat)(w:Wr)(hw:d.ar[i]?=some w)(k:Nat)(z0:(gL i d.ar.length)=true)(z1:(w.nW==(↑j:Int))=true):bQ (EE (k+1)) (HH 153) NN (LB PP 153 3) 1 0 (Sho d j s (↑i:Int)) (Sho d j w.data (wrap .i64 ((↑i:Int)+1))):=
 nx (ep (aG (Wr.cs) d.ar)<|eg (G.len d.ar.length)<|eb z0<|ep (rz i)<|ep (aT (f:=Wr.cs) hw)<|eg (G.fF i [ii w.nW,st w.data])<|eb z1<|ep (rz i)<|ep (aT (f:=Wr.cs) hw)<|eg (G.fF i [ii w.nW,st w.data])<|e0)
theorem ahJ(d:Dk)(j:Nat)(s:ByteArray)(i:Nat)(w:Wr)(hw:d.ar[i]?=some w)(k:Nat)(z0:(gL i d.ar.length)=true)(z1:(w.nW==(↑j:Int))=false):bQ (EE (k+1)) (HH 153) NN (LB PP 153 3) 1 0 (Sho d j s (↑i:Int)) (Sho d j s (wrap .i64 ((↑i:Int)+1))):=
 nx (ep (aG (Wr.cs) d.ar)<|eg (G.len d.ar.length)<|eb z0<|ep (rz i)<|ep (aT (f:=Wr.cs) hw)<|eg (G.fF i [ii w.nW,st w.data])<|eb z1<|e0)
def JH(d:Dk)(j:Nat)(s:ByteArray)(i:Nat):St:=St.mk (T.bf::tc (ii (↑j:Int))::T.k (K.v (V.fX 0 0))::T.bf::T.bf::tc (st s)::tc (ii (↑i:Int))::hs 5 (tc (ii (↑i:Int))::T.k (K.v (V.fX 0 1))::tc (sW d.ar)::tc (ii (↑(d.ar.length):Int))::tc (bo (gL i d.ar.length))::hs 17 [])) [[V.c (sS d.ax),V.c (sW d.ar),V.c (ii d.kU),V.c (bo d.gN)]] []
theorem ahK(d:Dk)(j:Nat)(s:ByteArray)(i:Nat)(k:Nat)(z0:(gL i d.ar.length)=false):dq (EE (k+1)) (HH 153) NN (LB PP 153 3) (Sho d j s (↑i:Int)) (dJ.exit 0) (JH d j s i):=
 ou (ep (aG (Wr.cs) d.ar)<|eg (G.len d.ar.length)<|eb z0<|e0)
theorem Lho(d:Dk)(j:Nat)(s:ByteArray)(hc:d.ar.length<=1000000)(k:Nat):bT (EE (k+1)) (HH 153) NN (LB PP 153 3) (Sho d j s 0) (.exit 0) (JH d j (d.ar.foldl (fun s w=>bif w.nW==(j:Int) then w.data else s) s) d.ar.length):=by
 refine(aba (E:=fun k=>EE (k+1)) (fun s i=>Sho d j s (i:Nat)) (fun _ _=>True) d.ar (fun s w=>bif w.nW==(j:Int) then w.data else s) s (fun s=>JH d j s d.ar.length) (nv:=1) (nt:=0) (by kernel_rfl) (by kernel_rfl) trivial (fun _ _ _ _ _=>trivial) (fun k s i w hw _=> ?_) (fun k _=>ahK d j _ _ k Gf) (by unfold NN;omega)).2 k
 cases hq:w.nW==(j:Int) with
 |true=>
  have:=ahI d j s i w hw k (sM hw) hq
  rwa[p6 hw (by omega)] at this
 |false=>
  have:=ahJ d j s i w hw k (sM hw) hq
  rwa[p6 hw (by omega)] at this
theorem adl(d:Dk)(j:Nat)(s:ByteArray)(hs:d.ax[j]?=some s)(hc:d.ar.length<=1000000)(k:Nat):EO (k+2) 153 [A.agg d.cs,A.c (ii (↑j:Int))] []=some ([au.c (st (List.foldl (fun(s:ByteArray) (w:Wr)=>bif Wr.nW w==(↑j:Int) then Wr.data w else s) s d.ar))],[]):=by
 exact rt (ep (rfl:(↑j:Int)=(↑j:Int))<|ep (aT (f:=eS) hs)<|eg (G.fF j [st s])<|eg (G.loop (dJ.exit 0) (JH d j (List.foldl (fun(s:ByteArray) (w:Wr)=>bif Wr.nW w==(↑j:Int) then Wr.data w else s) s d.ar) d.ar.length))<|ep (Lho d j s hc k)<|e0) rfl
theorem Wo(d:Dk)(j:Nat)(hj:j<d.ax.length)(hc:d.ar.length<=1000000)(k:Nat):EO (k+2) 153 [.agg d.cs, .c (ii (j:Int))] []=some ([.c (st (iD d (j:Int)))],[]):=by
 have hs:d.ax[j]?=some d.ax[j]:=cm hj
 have:=adl d j d.ax[j] hs hc k
 unfold iD
 rw[eX,At,hs]
 exact this
theorem ZL(d:Dk)(i:Int)(h1:decide (i<0)=false)(h2:decide (i>=(d.ax.length:Int))=false)(hc:d.ar.length<=1000000)(k:Nat):EO (k+2) 153 [.agg d.cs, .c (ii i)] []=some ([.c (st (iD d i))],[]):=by
 have h3:=wd h1
 have h4:=wd h2
 have:=Wo d i.toNat (by omega) hc k
 rwa[Dh (by omega)] at this
theorem uG(d:Dk)(i:Int)(hc:d.ar.length<=1000000)(k:Nat):EO (k+3) 129 [A.agg d.cs,A.c (ii i)] []=some ([au.c (st (bR d i).1),au.c (ii (bR d i).2)],[]):=by
 rcases be d.gN with z0|z0
 ·exact rt (eb z0<|e0) (by simp only[bR,z0,vq]<;>rfl)
 ·rcases be (decide (i<0)) with z1|z1
  ·exact rt (eb z0<|hO z1<|et<|e0) (by simp only[bR,z0,z1,vq]<;>rfl)
  ·rcases be (decide (i>=(↑(d.ax.length):Int))) with z2|z2
   ·exact rt (eb z0<|eo z1<|ep (aG (eS) d.ax)<|eg (G.len d.ax.length)<|ci z1<|eb z2<|e0) (by simp only[bR,z0,z1,z2,vq]<;>rfl)
   ·exact rt (eb z0<|eo z1<|ep (aG (eS) d.ax)<|eg (G.len d.ax.length)<|ci z1<|eb z2<|ec (ZL d i z1 z2 hc k)<|e0) (by simp only[bR,z0,z1,z2,vq]<;>rfl)
theorem QS(d:Dk)(k:Nat):EO (k+1) 166 [A.agg d.cs] []=some ([au.agg ((cp d).cs)],[]):=by
 rcases be (d.kU==1) with z0|z0
 ·rcases be (decide (d.kU>0)) with z1|z1
  ·exact rt (eb z0<|eb z1<|e0) (by simp only[cp,z0,z1,vq]<;>rfl)
  ·exact rt (eb z0<|eb z1<|e0) (by simp only[cp,z0,z1,vq]<;>rfl)
 ·rcases be (decide (d.kU>0)) with z1|z1
  ·exact rt (eb z0<|eb z1<|e0) (by simp only[cp,z0,z1,vq]<;>rfl)
  ·exact rt (eb z0<|eb z1<|e0) (by simp only[cp,z0,z1,vq]<;>rfl)
theorem SZ(d:Dk):(cp d).ax=d.ax:=rfl
theorem uw(d:Dk):(cp d).ar=d.ar:=rfl
theorem Ae(d:Dk)(i:Int)(data:ByteArray)(hc:(cp d).ar.length<=1000000)(k:Nat):EO (k+2) 151 [A.agg d.cs,A.c (ii i),A.c (st data)] []=some ([au.agg ((bN d i data).1.cs),au.c (ii (bN d i data).2)],[]):=by
 rcases be d.gN with z0|z0
 ·exact rt (eb z0<|e0) (rs:=[au.agg d.cs,au.c (ii 6)]) (by simp only[bN,z0,vq]<;>rfl)
 ·rcases be (decide (i<0)) with z1|z1
  ·exact rt (eb z0<|hO z1<|et<|e0) (rs:=[au.agg d.cs,au.c (ii 4)]) (by simp only[bN,z0,z1,vq]<;>rfl)
  ·rcases be (decide (i>=(↑(d.ax.length):Int))) with z2|z2
   ·exact rt (eb z0<|eo z1<|ep (aG (eS) d.ax)<|eg (G.len d.ax.length)<|ci z1<|eb z2<|e0) (rs:=[au.agg d.cs,au.c (ii 4)]) (by simp only[bN,z0,z1,z2,vq]<;>rfl)
   ·rcases be (decide ((↑(data.size):Int)>64)) with z3|z3
    ·exact rt (eb z0<|eo z1<|ep (aG (eS) d.ax)<|eg (G.len d.ax.length)<|ci z1<|eb z2<|eb z3<|e0) (rs:=[au.agg d.cs,au.c (ii 5)]) (by simp only[bN,z0,z1,z2,z3,vq]<;>rfl)
    ·rcases be (cp d).gN with z4|z4
     ·exact rt (eb z0<|eo z1<|ep (aG (eS) d.ax)<|eg (G.len d.ax.length)<|ci z1<|eb z2<|eb z3<|ec (QS d k)<|eb z4<|e0) (rs:=[au.agg ((cp d).cs),au.c (ii 6)]) (by simp only[bN,z0,z1,z2,z3,z4,vq]<;>rfl)
     ·exact rt (eb z0<|eo z1<|ep (aG (eS) d.ax)<|eg (G.len d.ax.length)<|ci z1<|eb z2<|eb z3<|ec (QS d k)<|eb z4<|ep (eF (List.map Wr.cs (cp d).ar))<|ep (bz (Wr.cs) (l:=(cp d).ar) (n:=1073741824) (by omega))<|eg (G.app (List.map Wr.cs (cp d).ar))<|ep (dH (Wr.cs) (cp d).ar ([(Wr.mk i data)]))<|ep (bz (Wr.cs) (l:=(cp d).ar++[(Wr.mk i data)]) (n:=1073741824) (by simp only[vr];omega))<|ep (eN ((List.map Wr.cs (cp d).ar).length))<|eg (G.app (List.map Wr.cs ((cp d).ar++[(Wr.mk i data)])))<|e0) (rs:=[au.agg (({cp d with ar:=(cp d).ar++[(Wr.mk i data)]}:Dk).cs),au.c (ii 0)]) (by simp only[bN,z0,z1,z2,z3,z4,vq]<;>rfl)
def Sfl(d:Dk)(c0:List (List C))(c1:Int):St:=St.mk (T.bf::T.k (K.v (V.fX 0 0))::T.k (K.v (V.fX 1 0))::T.bf::T.k (K.v (V.cX 1 c0 (Tk.tok 0)))::tc (ii c1)::hs 25 []) [[V.c (sS (cp d).ax),V.c (sW (cp d).ar),V.c (ii (cp d).kU),V.c (bo (cp d).gN)],[vE,V.cX 2 [] Tk.exact,V.c (ii 0),vF]] [c0.length]
theorem ahM(d:Dk)(l:List ByteArray)(i:Nat)(hi:i<(cp d).ax.length)(hc:(cp d).ar.length<=1000000)(hl:l.length<=1000000)(k:Nat)(z0:(decide ((↑i:Int)<(↑((cp d).ax.length):Int)))=true):bQ (EE (k+2)) (HH 152) NN (LB PP 152 8) 2 1 (Sfl d (List.map eS l) (↑i:Int)) (Sfl d (List.map eS (l++[iD (cp d) (↑i:Int)])) (wrap .i64 ((↑i:Int)+1))):=
 nx (ep (aG (eS) (cp d).ax)<|eg (G.len ((cp d).ax.length))<|eb z0<|ec (Wo (cp d) i hi hc k)<|ep (dH (eS) (l) ([iD (cp d) (↑i:Int)]))<|ep (bz (eS) (l:=l++[iD (cp d) (↑i:Int)]) (n:=1073741824) (by simp only[vr];omega))<|ep (eN ((List.map eS l).length))<|eg (G.app (List.map eS (l++[iD (cp d) (↑i:Int)])))<|e0)
def OV(d:Dk)(l:List ByteArray)(i:Nat):St:=St.mk (T.bf::T.k (K.v (V.fX 0 0))::T.k (K.v (V.fX 1 0))::T.bf::T.k (K.v (V.cX 1 (List.map eS l) (Tk.tok 0)))::tc (ii (↑i:Int))::hs 8 (tc (ii (↑i:Int))::T.k (K.v (V.fX 0 0))::tc (sS (cp d).ax)::tc (ii (↑((cp d).ax.length):Int))::tc (bo (decide ((↑i:Int)<(↑((cp d).ax.length):Int))))::hs 12 [])) [[V.c (sS (cp d).ax),V.c (sW (cp d).ar),V.c (ii (cp d).kU),V.c (bo (cp d).gN)],[vE,V.cX 2 [] Tk.exact,V.c (ii 0),vF]] [(List.map eS l).length]
theorem ahN(d:Dk)(l:List ByteArray)(i:Nat)(k:Nat)(z0:(decide ((↑i:Int)<(↑((cp d).ax.length):Int)))=false):dq (EE (k+2)) (HH 152) NN (LB PP 152 8) (Sfl d (List.map eS l) (↑i:Int)) (dJ.exit 0) (OV d l i):=
 ou (ep (aG (eS) (cp d).ax)<|eg (G.len ((cp d).ax.length))<|eb z0<|e0)
theorem Lfl(d:Dk)(hs:d.ax.length<=1000000)(hc:d.ar.length<=1000000)(k:Nat):bT (EE (k+2)) (HH 152) NN (LB PP 152 8) (Sfl d [] 0) (.exit 0) (OV d (iW (cp d)) d.ax.length):=by
 refine t_ (E:=EE (k+2)) (fun i=>Sfl d (((List.range i).map fun(i:Nat)=>iD (cp d) (i:Int)).map eS) (i:Nat)) d.ax.length (nv:=2) (nt:=1) rfl (by kernel_rfl) (by kernel_rfl) (fun i hi=> ?_) (ahN d _ d.ax.length k Gf) (by unfold NN;omega)
 have hd:decide ((i:Int)<((cp d).ax.length:Int))=true:=cJ (by rw[SZ];omega)
 have:=ahM d ((List.range i).map fun(i:Nat)=>iD (cp d) (i:Int)) i hi hc (by simp;omega) k hd
 rw[RA hi (by omega)] at this
 rw[qW,fA,eY,gp]
 exact this
theorem OW(d:Dk)(hs:d.ax.length<=1000000)(hc:d.ar.length<=1000000)(k:Nat):EO (k+4) 152 [A.agg d.cs] []=some ([au.agg ((hU d).1.cs),au.c (ii (hU d).2)],[]):=by
 rcases be d.gN with z0|z0
 ·exact rt (eb z0<|e0) (rs:=[au.agg d.cs,au.c (ii 6)]) (by simp only[hU,z0,vq]<;>rfl)
 ·rcases be (cp d).gN with z1|z1
  ·exact rt (eb z0<|ec (QS d (k+2))<|eb z1<|e0) (rs:=[au.agg ((cp d).cs),au.c (ii 6)]) (by simp only[hU,z0,z1,vq]<;>rfl)
  ·exact rt (eb z0<|ec (QS d (k+2))<|eb z1<|eg (G.loop (dJ.exit 0) (OV d (iW (cp d)) d.ax.length))<|ep (Lfl d hs hc (k+1))<|e0) (rs:=[au.agg (({cp d with ax:=iW (cp d),ar:=[]}:Dk).cs),au.c (ii 0)]) (by simp only[hU,z0,z1,vq]<;>rfl)
theorem ahO(d:Dk)(n:Int)(k:Nat):EO (k+1) 42 [A.agg d.cs,A.c (ii n)] []=some ([au.agg ((UI d n).cs)],[]):=by
 exact rt (e0) (by simp only[UI,vq]<;>rfl)
theorem adm(d:Dk)(k:Nat):EO (k+1) 80 [A.agg d.cs] []=some ([au.agg ((Ep d).cs)],[]):=by
 exact rt (e0) (by simp only[Ep,vq]<;>rfl)
theorem cL(v:Ve)(g:Int)(k:Nat):EO (k+1) 160 [A.agg v.cs,A.c (u g)] []=some ([au.c (ii (bD v g))],[]):=by
 rcases be (g==0) with z0|z0
 ·exact rt (eg (G.un)<|et<|md z0<|ef<|et<|md z0<|ef<|et<|md z0<|ef<|et<|md z0<|mw<|e0) (by simp only[bD,z0,vq]<;>rfl)
 ·rcases be (v.bH==g) with z1|z1
  ·exact rt (eg (G.un)<|et<|iA z0<|cP<|eA z0<|eb z1<|e0) (by simp only[bD,z0,z1,vq]<;>rfl)
  ·rcases be (v.i4==g) with z2|z2
   ·exact rt (eg (G.un)<|et<|iA z0<|cP<|eA z0<|eb z1<|et<|iA z0<|cQ<|eA z0<|eb z2<|e0) (by simp only[bD,z0,z1,z2,vq]<;>rfl)
   ·rcases be (v.o0==g) with z3|z3
    ·exact rt (eg (G.un)<|et<|iA z0<|cP<|eA z0<|eb z1<|et<|iA z0<|cQ<|eA z0<|eb z2<|et<|iA z0<|ep (rfl:(2:Int)=2)<|eg (G.at 2)<|eA z0<|eb z3<|e0) (by simp only[bD,z0,z1,z2,z3,vq]<;>rfl)
    ·rcases be (v.o1==g) with z4|z4
     ·exact rt (eg (G.un)<|et<|iA z0<|cP<|eA z0<|eb z1<|et<|iA z0<|cQ<|eA z0<|eb z2<|et<|iA z0<|ep (rfl:(2:Int)=2)<|eg (G.at 2)<|eA z0<|eb z3<|et<|iA z0<|ep (rfl:(3:Int)=3)<|eg (G.at 3)<|eA z0<|eb z4<|e0) (by simp only[bD,z0,z1,z2,z3,z4,vq]<;>rfl)
     ·exact rt (eg (G.un)<|et<|iA z0<|cP<|eA z0<|eb z1<|et<|iA z0<|cQ<|eA z0<|eb z2<|et<|iA z0<|ep (rfl:(2:Int)=2)<|eg (G.at 2)<|eA z0<|eb z3<|et<|iA z0<|ep (rfl:(3:Int)=3)<|eg (G.at 3)<|eA z0<|eb z4<|ef<|e0) (by simp only[bD,z0,z1,z2,z3,z4,vq]<;>rfl)
theorem adn(v:Ve)(g:Int)(k:Nat):EO (k+1) 99 [A.agg v.cs,A.c (u g)] []=some ([au.agg ((bif g==0 then(Ve.mk 0 0 0 0) else fK v g).cs),au.c (ii (bif g==0 then 14 else 0))],[]):=by
 rcases be (g==0) with z0|z0
 ·exact rt (eb z0<|e0) (by simp only[fK,z0,vq]<;>rfl)
 ·rcases be (v.i4==0) with z1|z1
  ·exact rt (eb z0<|eb z1<|e0) (by simp only[fK,z0,z1,vq]<;>rfl)
  ·exact rt (eb z0<|eb z1<|e0) (by simp only[fK,z0,z1,vq]<;>rfl)
theorem wS(v:Ve)(k:Nat):EO (k+1) 105 [A.agg v.cs] []=some ([au.agg ((bP v).cs)],[]):=by
 rcases be (v.i4==0) with z0|z0
 ·exact rt (eb z0<|e0) (by simp only[bP,z0,vq]<;>rfl)
 ·exact rt (eb z0<|e0) (by simp only[bP,z0,vq]<;>rfl)
theorem abx(v:Ve)(g:Int)(k:Nat):EO (k+1) 107 [A.agg v.cs,A.c (u g)] []=some ([au.agg ((zu v g).cs)],[]):=by
 exact rt (e0) (by simp only[zu,vq]<;>rfl)
theorem vY(s:Su)(k:Nat):EO (k+1) 122 [A.agg s.cs] []=some ([au.c (bo (dI s))],[]):=by
 rcases be (decide (s.an>=1)) with z0|z0
 ·rcases be (decide (s.an<=32)) with z1|z1
  ·exact rt (eo z0<|sy z1<|e0) (by simp only[dI,z0,z1,vq]<;>rfl)
  ·exact rt (eo z0<|sy z1<|e0) (by simp only[dI,z0,z1,vq]<;>rfl)
 ·exact rt (eo z0<|Cg<|e0) (by simp only[dI,z0,vq]<;>rfl)
theorem FF(s:Su)(k:Nat):EO (k+3) 123 [A.agg s.cs] []=some ([au.c (st (dD s))],[]):=by
 exact rt (ec (ac5 s.bp s.cH s.dg (k+1))<|ep (rfl:some ([wrap .u8 s.an,fl s.bp (1:Int)+fl s.cH (2:Int)+fl s.dg (4:Int)])=some ([wrap .u8 s.an,fl s.bp (1:Int)+fl s.cH (2:Int)+fl s.dg (4:Int)]))<|eg (G.str [wrap .u8 s.an,fl s.bp 1+fl s.cH 2+fl s.dg 4])<|ep (show ByteArray.size (ByteArray.mk #[(71:UInt8),(77:UInt8),(1:UInt8)])+(dc [wrap .u8 s.an,fl s.bp (1:Int)+fl s.cH (2:Int)+fl s.dg (4:Int)]).size<=9223372036854775807 from by first|omega|(simp only[vu] at*;omega))<|eg (G.ok)<|ec (uF s.v.bH k)<|ep (show ByteArray.size (ByteArray.mk #[(71:UInt8),(77:UInt8),(1:UInt8)]++dc [wrap .u8 s.an,fl s.bp (1:Int)+fl s.cH (2:Int)+fl s.dg (4:Int)])+(eR s.v.bH).size<=9223372036854775807 from by first|omega|(simp only[vu] at*;omega))<|eg (G.ok)<|ec (uF s.v.i4 k)<|ep (show ByteArray.size (ByteArray.mk #[(71:UInt8),(77:UInt8),(1:UInt8)]++dc [wrap .u8 s.an,fl s.bp (1:Int)+fl s.cH (2:Int)+fl s.dg (4:Int)]++eR s.v.bH)+(eR s.v.i4).size<=9223372036854775807 from by first|omega|(simp only[vu] at*;omega))<|eg (G.ok)<|ec (uF s.v.o0 k)<|ep (show ByteArray.size (ByteArray.mk #[(71:UInt8),(77:UInt8),(1:UInt8)]++dc [wrap .u8 s.an,fl s.bp (1:Int)+fl s.cH (2:Int)+fl s.dg (4:Int)]++eR s.v.bH++eR s.v.i4)+(eR s.v.o0).size<=9223372036854775807 from by first|omega|(simp only[vu] at*;omega))<|eg (G.ok)<|ec (uF s.v.o1 k)<|ep (show ByteArray.size (ByteArray.mk #[(71:UInt8),(77:UInt8),(1:UInt8)]++dc [wrap .u8 s.an,fl s.bp (1:Int)+fl s.cH (2:Int)+fl s.dg (4:Int)]++eR s.v.bH++eR s.v.i4++eR s.v.o0)+(eR s.v.o1).size<=9223372036854775807 from by first|omega|(simp only[vu] at*;omega))<|eg (G.ok)<|e0) (by simp only[dD,vq]<;>rfl)
theorem vZ(s:Su)(k:Nat):EO (k+5) 90 [A.agg s.cs] []=some ([au.c (st (bV s).1),au.c (ii (bV s).2)],[]):=by
 rcases be (dI s) with z0|z0
 ·exact rt (ec (vY s (k+3))<|en z0<|ec (FF s (k+1))<|ec (Ad (dD s) (show ByteArray.size (dD s)<=1000000 from by first|omega|(simp only[vu] at*;omega)) k)<|e0) (by simp only[bV,z0,vq]<;>rfl)
 ·exact rt (ec (vY s (k+3))<|en z0<|e0) (by simp only[bV,z0,vq]<;>rfl)
theorem Wp(t:ByteArray)(a:Nat)(hw:wrap .i64 ((↑a:Int)+8)=(↑(a+8):Int))(hl:a<=a+8)(hs:a+8<=t.size)(he:(t.extract a (a+8)).size=8)(k:Nat):EO (k+3) 165 [A.c (st t),A.c (ii (↑a:Int))] []=some ([au.c (u (cB t a))],[]):=by
 exact rt (ep hw<|ep (rfl:(↑a:Int)=(↑a:Int))<|ep hl<|ep hs<|eg (G.cut a (a+8) [])<|ec (qP (t.extract a (a+8)) he k)<|e0) (by simp only[cB,vq]<;>rfl)
theorem CS(t:ByteArray)(a:Nat)(ha:a<=1000)(h:a+8<=t.size)(k:Nat):EO (k+3) 165 [.c (st t), .c (ii (a:Int))] []=some ([.c (u (cB t a))],[]):=
 Wp t a (by rw[dG (by omega) (by omega)];omega) (by omega) h (by rw[uR];omega) k
theorem ado(t:ByteArray)(h:t.size=37)(k:Nat):EO (k+3) 165 [.c (st t), .c (ii 5)] []=some ([.c (u (cB t 5))],[]):=CS t 5 (by omega) (by omega) k
theorem Wq(t:ByteArray)(h:t.size=37)(k:Nat):EO (k+3) 165 [.c (st t), .c (ii 13)] []=some ([.c (u (cB t 13))],[]):=CS t 13 (by omega) (by omega) k
theorem Ws(t:ByteArray)(h:t.size=37)(k:Nat):EO (k+3) 165 [.c (st t), .c (ii 21)] []=some ([.c (u (cB t 21))],[]):=CS t 21 (by omega) (by omega) k
theorem Wu(t:ByteArray)(h:t.size=37)(k:Nat):EO (k+3) 165 [.c (st t), .c (ii 29)] []=some ([.c (u (cB t 29))],[]):=CS t 29 (by omega) (by omega) k
theorem adp(b:ByteArray)(hb:b.size<=1000000)(h1:((aa b).2==0)=false)(k:Nat):EO (k+6) 139 [A.c (st b)] []=some ([au.agg ((fC b).1.cs),au.c (ii (fC b).2)],[]):=by
 exact rt (ec (kW b hb k)<|en h1<|e0) (by simp only[fC,h1,vq]<;>rfl)
theorem adq(b:ByteArray)(hb:b.size<=1000000)(h1:((aa b).2==0)=true)(h2:((↑((aa b).1.size):Int)==37)=false)(k:Nat):EO (k+6) 139 [A.c (st b)] []=some ([au.agg ((fC b).1.cs),au.c (ii (fC b).2)],[]):=by
 exact rt (ec (kW b hb k)<|en h1<|eA h2<|et<|e0) (by simp only[fC,h1,h2,vq]<;>rfl)
theorem adr(b:ByteArray)(hb:b.size<=1000000)(h1:((aa b).2==0)=true)(h2:((↑((aa b).1.size):Int)==37)=true)(h4:(aa b).1[4]?=some (aq (aa b).1 4))(h7:decide ((↑(UInt8.toNat (aq (aa b).1 4)):Int)>7)=true)(k:Nat):EO (k+6) 139 [A.c (st b)] []=some ([au.agg ((fC b).1.cs),au.c (ii (fC b).2)],[]):=by
 exact rt (ec (kW b hb k)<|en h1<|iA h2<|ep (rfl:(4:Int)=(4:Int))<|ep h4<|eg (G.i7 4 (aq (aa b).1 4))<|iA h2<|eb h7<|e0) (by simp only[fC,h1,h2,h7,vq]<;>rfl)
theorem ads(b:ByteArray)(hb:b.size<=1000000)(h1:((aa b).2==0)=true)(h2:((↑((aa b).1.size):Int)==37)=true)(hs:(aa b).1.size=37)(h3:(aa b).1[3]?=some (aq (aa b).1 3))(h4:(aa b).1[4]?=some (aq (aa b).1 4))(h7:decide ((↑(UInt8.toNat (aq (aa b).1 4)):Int)>7)=false)(h8:UInt8.toNat (aq (aa b).1 4)<=7)(k:Nat):EO (k+6) 139 [A.c (st b)] []=some ([au.agg ((fC b).1.cs),au.c (ii (fC b).2)],[]):=by
 rcases be (dI (Su.mk (wrap .i64 (↑(UInt8.toNat (aq (aa b).1 3)):Int)) ((Ve.mk (cB (aa b).1 5) (cB (aa b).1 13) (cB (aa b).1 21) (cB (aa b).1 29))) (bK (aq (aa b).1 4) 0) (bK (aq (aa b).1 4) 1) (bK (aq (aa b).1 4) 2))) with z0|z0
 ·rcases be (dD (Su.mk (wrap .i64 (↑(UInt8.toNat (aq (aa b).1 3)):Int)) ((Ve.mk (cB (aa b).1 5) (cB (aa b).1 13) (cB (aa b).1 21) (cB (aa b).1 29))) (bK (aq (aa b).1 4) 0) (bK (aq (aa b).1 4) 1) (bK (aq (aa b).1 4) 2))==(aa b).1) with z1|z1
  ·exact rt (ec (kW b hb k)<|en h1<|iA h2<|ep (rfl:(4:Int)=(4:Int))<|ep h4<|eg (G.i7 4 (aq (aa b).1 4))<|iA h2<|eb h7<|ep (rfl:(4:Int)=(4:Int))<|ep h4<|eg (G.i7 4 (aq (aa b).1 4))<|ec (JB (aq (aa b).1 4) h8 (k+4))<|ep (rfl:(3:Int)=(3:Int))<|ep h3<|eg (G.i7 3 (aq (aa b).1 3))<|ec (ado (aa b).1 hs (k+2))<|ec (Wq (aa b).1 hs (k+2))<|ec (Ws (aa b).1 hs (k+2))<|ec (Wu (aa b).1 hs (k+2))<|ep (rfl:(0:Int)=(0:Int))<|ep (rfl:some ([bo (bK (aq (aa b).1 (4:Nat)) (0:Nat))])=some ([bo (bK (aq (aa b).1 (4:Nat)) (0:Nat))]))<|eg (G.fF 0 [bo (bK (aq (aa b).1 4) 0)])<|ep (rfl:(1:Int)=(1:Int))<|ep (rfl:some ([bo (bK (aq (aa b).1 (4:Nat)) (1:Nat))])=some ([bo (bK (aq (aa b).1 (4:Nat)) (1:Nat))]))<|eg (G.fF 1 [bo (bK (aq (aa b).1 4) 1)])<|ep (rfl:(2:Int)=(2:Int))<|ep (rfl:some ([bo (bK (aq (aa b).1 (4:Nat)) (2:Nat))])=some ([bo (bK (aq (aa b).1 (4:Nat)) (2:Nat))]))<|eg (G.fF 2 [bo (bK (aq (aa b).1 4) 2)])<|ec (vY ((Su.mk (wrap .i64 (↑(UInt8.toNat (aq (aa b).1 3)):Int)) ((Ve.mk (cB (aa b).1 5) (cB (aa b).1 13) (cB (aa b).1 21) (cB (aa b).1 29))) (bK (aq (aa b).1 4) 0) (bK (aq (aa b).1 4) 1) (bK (aq (aa b).1 4) 2))) (k+4))<|iA z0<|ec (FF ((Su.mk (wrap .i64 (↑(UInt8.toNat (aq (aa b).1 3)):Int)) ((Ve.mk (cB (aa b).1 5) (cB (aa b).1 13) (cB (aa b).1 21) (cB (aa b).1 29))) (bK (aq (aa b).1 4) 0) (bK (aq (aa b).1 4) 1) (bK (aq (aa b).1 4) 2))) (k+2))<|ez z0<|en z1<|e0) (by simp only[fC,Gg,h1,h2,h7,z0,z1,vq]<;>rfl)
  ·exact rt (ec (kW b hb k)<|en h1<|iA h2<|ep (rfl:(4:Int)=(4:Int))<|ep h4<|eg (G.i7 4 (aq (aa b).1 4))<|iA h2<|eb h7<|ep (rfl:(4:Int)=(4:Int))<|ep h4<|eg (G.i7 4 (aq (aa b).1 4))<|ec (JB (aq (aa b).1 4) h8 (k+4))<|ep (rfl:(3:Int)=(3:Int))<|ep h3<|eg (G.i7 3 (aq (aa b).1 3))<|ec (ado (aa b).1 hs (k+2))<|ec (Wq (aa b).1 hs (k+2))<|ec (Ws (aa b).1 hs (k+2))<|ec (Wu (aa b).1 hs (k+2))<|ep (rfl:(0:Int)=(0:Int))<|ep (rfl:some ([bo (bK (aq (aa b).1 (4:Nat)) (0:Nat))])=some ([bo (bK (aq (aa b).1 (4:Nat)) (0:Nat))]))<|eg (G.fF 0 [bo (bK (aq (aa b).1 4) 0)])<|ep (rfl:(1:Int)=(1:Int))<|ep (rfl:some ([bo (bK (aq (aa b).1 (4:Nat)) (1:Nat))])=some ([bo (bK (aq (aa b).1 (4:Nat)) (1:Nat))]))<|eg (G.fF 1 [bo (bK (aq (aa b).1 4) 1)])<|ep (rfl:(2:Int)=(2:Int))<|ep (rfl:some ([bo (bK (aq (aa b).1 (4:Nat)) (2:Nat))])=some ([bo (bK (aq (aa b).1 (4:Nat)) (2:Nat))]))<|eg (G.fF 2 [bo (bK (aq (aa b).1 4) 2)])<|ec (vY ((Su.mk (wrap .i64 (↑(UInt8.toNat (aq (aa b).1 3)):Int)) ((Ve.mk (cB (aa b).1 5) (cB (aa b).1 13) (cB (aa b).1 21) (cB (aa b).1 29))) (bK (aq (aa b).1 4) 0) (bK (aq (aa b).1 4) 1) (bK (aq (aa b).1 4) 2))) (k+4))<|iA z0<|ec (FF ((Su.mk (wrap .i64 (↑(UInt8.toNat (aq (aa b).1 3)):Int)) ((Ve.mk (cB (aa b).1 5) (cB (aa b).1 13) (cB (aa b).1 21) (cB (aa b).1 29))) (bK (aq (aa b).1 4) 0) (bK (aq (aa b).1 4) 1) (bK (aq (aa b).1 4) 2))) (k+2))<|ez z0<|en z1<|e0) (by simp only[fC,Gg,h1,h2,h7,z0,z1,vq]<;>rfl)
 ·exact rt (ec (kW b hb k)<|en h1<|iA h2<|ep (rfl:(4:Int)=(4:Int))<|ep h4<|eg (G.i7 4 (aq (aa b).1 4))<|iA h2<|eb h7<|ep (rfl:(4:Int)=(4:Int))<|ep h4<|eg (G.i7 4 (aq (aa b).1 4))<|ec (JB (aq (aa b).1 4) h8 (k+4))<|ep (rfl:(3:Int)=(3:Int))<|ep h3<|eg (G.i7 3 (aq (aa b).1 3))<|ec (ado (aa b).1 hs (k+2))<|ec (Wq (aa b).1 hs (k+2))<|ec (Ws (aa b).1 hs (k+2))<|ec (Wu (aa b).1 hs (k+2))<|ep (rfl:(0:Int)=(0:Int))<|ep (rfl:some ([bo (bK (aq (aa b).1 (4:Nat)) (0:Nat))])=some ([bo (bK (aq (aa b).1 (4:Nat)) (0:Nat))]))<|eg (G.fF 0 [bo (bK (aq (aa b).1 4) 0)])<|ep (rfl:(1:Int)=(1:Int))<|ep (rfl:some ([bo (bK (aq (aa b).1 (4:Nat)) (1:Nat))])=some ([bo (bK (aq (aa b).1 (4:Nat)) (1:Nat))]))<|eg (G.fF 1 [bo (bK (aq (aa b).1 4) 1)])<|ep (rfl:(2:Int)=(2:Int))<|ep (rfl:some ([bo (bK (aq (aa b).1 (4:Nat)) (2:Nat))])=some ([bo (bK (aq (aa b).1 (4:Nat)) (2:Nat))]))<|eg (G.fF 2 [bo (bK (aq (aa b).1 4) 2)])<|ec (vY ((Su.mk (wrap .i64 (↑(UInt8.toNat (aq (aa b).1 3)):Int)) ((Ve.mk (cB (aa b).1 5) (cB (aa b).1 13) (cB (aa b).1 21) (cB (aa b).1 29))) (bK (aq (aa b).1 4) 0) (bK (aq (aa b).1 4) 1) (bK (aq (aa b).1 4) 2))) (k+4))<|CD z0<|et<|e0) (by simp only[fC,Gg,h1,h2,h7,z0,vq]<;>rfl)
theorem OX(b:ByteArray)(hb:b.size<=1000000)(k:Nat):EO (k+6) 139 [.c (st b)] []=some ([.agg (fC b).1.cs, .c (ii (fC b).2)],[]):=by
 cases h1:(aa b).2==0 with
 |false=>exact adp b hb h1 k
 |true=>
  cases h2:((aa b).1.size:Int)==37 with
  |false=>exact adq b hb h1 h2 k
  |true=>
   have hs:(aa b).1.size=37:=by have:=eq_of_beq h2;omega
   have h4:=ov (s:=(aa b).1) (i:=4) (by omega)
   cases h7:decide (((aq (aa b).1 4).toNat:Int)>7) with
   |true=>exact adr b hb h1 h2 h4 h7 k
   |false=>
    have h8:=wd h7
    exact ads b hb h1 h2 hs (ov (by omega)) h4 h7 (by omega) k
theorem Wv(n:Int):wrap .u32 n=mi (BitVec.ofInt 32 n):=by
 unfold wrap mi
 simp only[IntKind.signed,IntKind.bits,BitVec.toNat_ofInt]
 simp
 omega
theorem JI(s:ByteArray)(hs:s.size=4)(k:Nat):EO (k+2) 141 [.c (st s)] []=some ([.c (w4 (mi (BitVec.ofInt 32 (gO s.data.toList)))), .c (bo true)],[]):=by
 rw[<-Wv]
 exact ahb s hs k
theorem Mw(d:Dk)(s:Su)(k:Nat):EO (k+1) 140 [A.agg d.cs,A.agg s.cs] []=some ([au.c (bo (uC d s))],[]):=by
 exact rt (ep (aG (eS) d.ax)<|eg (G.len d.ax.length)<|e0) (by simp only[uC,vq]<;>rfl)
theorem QT(d:Dk)(hc:d.ar.length<=1000000)(hr:(bR d 0).1.size<=1000000)(k:Nat):EO (k+7) 110 [A.agg d.cs] []=some ([au.agg ((kf d).1.cs),au.c (ii (kf d).2)],[]):=by
 rcases be ((bR d 0).2==0) with z0|z0
 ·rcases be ((fC (bR d 0).1).2==0) with z1|z1
  ·rcases be (uC d (fC (bR d 0).1).1) with z2|z2
   ·exact rt (ec (uG d 0 hc (k+3))<|en z0<|ec (OX (bR d 0).1 hr k)<|en z1<|ec (Mw d (fC (bR d 0).1).1 (k+5))<|en z2<|e0) (by simp only[kf,Kg,z0,z1,z2,vq]<;>rfl)
   ·exact rt (ec (uG d 0 hc (k+3))<|en z0<|ec (OX (bR d 0).1 hr k)<|en z1<|ec (Mw d (fC (bR d 0).1).1 (k+5))<|en z2<|e0) (by simp only[kf,Kg,z0,z1,z2,vq]<;>rfl)
  ·exact rt (ec (uG d 0 hc (k+3))<|en z0<|ec (OX (bR d 0).1 hr k)<|en z1<|e0) (by simp only[kf,Kg,z0,z1,vq]<;>rfl)
 ·exact rt (ec (uG d 0 hc (k+3))<|en z0<|e0) (by simp only[kf,Kg,z0,vq]<;>rfl)
theorem ZM(d:Dk)(s:Su)(hc:(cp d).ar.length<=1000)(h1:((bN d 0 (bV s).1).1.ax).length<=1000000)(h2:((bN d 0 (bV s).1).1.ar).length<=1000000)(k:Nat):EO (k+6) 127 [A.agg d.cs,A.agg s.cs] []=some ([au.agg ((eG d s).1.cs),au.c (ii (eG d s).2)],[]):=by
 rcases be ((bV s).2==0) with z0|z0
 ·rcases be (uC d s) with z1|z1
  ·rcases be ((bN d 0 (bV s).1).2==0) with z2|z2
   ·exact rt (ec (vZ s k)<|ez z0<|ec (Mw d s (k+4))<|iA z0<|en z1<|ec (Ae d 0 (bV s).1 (show List.length (cp d).ar<=1000000 from by omega) (k+3))<|en z2<|ec (OW (bN d 0 (bV s).1).1 h1 h2 (k+1))<|e0) (by simp only[eG,z0,z1,z2,vq]<;>rfl)
   ·exact rt (ec (vZ s k)<|ez z0<|ec (Mw d s (k+4))<|iA z0<|en z1<|ec (Ae d 0 (bV s).1 (show List.length (cp d).ar<=1000000 from by omega) (k+3))<|en z2<|e0) (by simp only[eG,z0,z1,z2,vq]<;>rfl)
  ·exact rt (ec (vZ s k)<|ez z0<|ec (Mw d s (k+4))<|iA z0<|en z1<|e0) (by simp only[eG,z0,z1,vq]<;>rfl)
 ·exact rt (ec (vZ s k)<|CD z0<|et<|e0) (by simp only[eG,z0,vq]<;>rfl)
theorem adt(d:Dk)(hc:d.ar.length<=1000000)(hr:(bR d 1).1.size<=1000000)(h1:((bR d 1).2==0)=false)(k:Nat):EO (k+7) 111 [A.agg d.cs] []=some ([au.c (w4 (mi (jW d).1)),au.c (ii (jW d).2)],[]):=by
 exact rt (ec (uG d 1 hc (k+3))<|en h1<|e0) (by simp only[jW,h1,vq]<;>rfl)
theorem adu(d:Dk)(hc:d.ar.length<=1000000)(hr:(bR d 1).1.size<=1000000)(h1:((bR d 1).2==0)=true)(h2:((aa (bR d 1).1).2==0)=false)(k:Nat):EO (k+7) 111 [A.agg d.cs] []=some ([au.c (w4 (mi (jW d).1)),au.c (ii (jW d).2)],[]):=by
 exact rt (ec (uG d 1 hc (k+3))<|en h1<|ec (kW (bR d 1).1 hr (k+1))<|en h2<|e0) (by simp only[jW,h1,h2,vq]<;>rfl)
theorem adv(d:Dk)(hc:d.ar.length<=1000000)(hr:(bR d 1).1.size<=1000000)(h1:((bR d 1).2==0)=true)(h2:((aa (bR d 1).1).2==0)=true)(h3:((↑((aa (bR d 1).1).1.size):Int)==4)=false)(k:Nat):EO (k+7) 111 [A.agg d.cs] []=some ([au.c (w4 (mi (jW d).1)),au.c (ii (jW d).2)],[]):=by
 exact rt (ec (uG d 1 hc (k+3))<|en h1<|ec (kW (bR d 1).1 hr (k+1))<|en h2<|ec (ac4 (aa (bR d 1).1).1 h3 (k+4))<|k_<|mc<|e0) (by simp only[jW,h1,h2,h3,vq]<;>rfl)
theorem adw(d:Dk)(hc:d.ar.length<=1000000)(hr:(bR d 1).1.size<=1000000)(h1:((bR d 1).2==0)=true)(h2:((aa (bR d 1).1).2==0)=true)(h3:((↑((aa (bR d 1).1).1.size):Int)==4)=true)(h4:(aa (bR d 1).1).1.size=4)(k:Nat):EO (k+7) 111 [A.agg d.cs] []=some ([au.c (w4 (mi (jW d).1)),au.c (ii (jW d).2)],[]):=by
 rcases be (dP (BitVec.ofInt 32 (gO (Array.toList (ByteArray.data (aa (bR d 1).1).1)))) (wrap .i64 ((↑(d.ax.length):Int)-2))) with z0|z0
 ·exact rt (ec (uG d 1 hc (k+3))<|en h1<|ec (kW (bR d 1).1 hr (k+1))<|en h2<|ec (JI (aa (bR d 1).1).1 h4 (k+4))<|kT<|ep (aG (eS) d.ax)<|eg (G.len d.ax.length)<|mw<|ec (vX (BitVec.ofInt 32 (gO (Array.toList (ByteArray.data (aa (bR d 1).1).1)))) (wrap .i64 ((↑(d.ax.length):Int)-2)) (k+2))<|mw<|en z0<|e0) (by simp only[jW,h1,h2,h3,z0,vq]<;>rfl)
 ·exact rt (ec (uG d 1 hc (k+3))<|en h1<|ec (kW (bR d 1).1 hr (k+1))<|en h2<|ec (JI (aa (bR d 1).1).1 h4 (k+4))<|kT<|ep (aG (eS) d.ax)<|eg (G.len d.ax.length)<|mw<|ec (vX (BitVec.ofInt 32 (gO (Array.toList (ByteArray.data (aa (bR d 1).1).1)))) (wrap .i64 ((↑(d.ax.length):Int)-2)) (k+2))<|mw<|en z0<|e0) (by simp only[jW,h1,h2,h3,z0,vq]<;>rfl)
theorem Ww(d:Dk)(hc:d.ar.length<=1000000)(hr:(bR d 1).1.size<=1000000)(k:Nat):EO (k+7) 111 [.agg d.cs] []=some ([.c (w4 (mi (jW d).1)), .c (ii (jW d).2)],[]):=by
 cases h1:(bR d 1).2==0 with
 |false=>exact adt d hc hr h1 k
 |true=>
  cases h2:(aa (bR d 1).1).2==0 with
  |false=>exact adu d hc hr h1 h2 k
  |true=>
   cases h3:((aa (bR d 1).1).1.size:Int)==4 with
   |false=>exact adv d hc hr h1 h2 h3 k
   |true=>exact adw d hc hr h1 h2 h3 (by have:=eq_of_beq h3;omega) k
theorem Wx(d:Dk)(m:BitVec 32)(hc:(cp d).ar.length<=1000)(k:Nat):EO (k+5) 164 [A.agg d.cs,A.c (w4 (mi m))] []=some ([au.agg ((jk d m).1.cs),au.c (ii (jk d m).2)],[]):=by
 rcases be (dP m (wrap .i64 ((↑(d.ax.length):Int)-2))) with z0|z0
 ·exact rt (ep (aG (eS) d.ax)<|eg (G.len d.ax.length)<|ec (vX m (wrap .i64 ((↑(d.ax.length):Int)-2)) k)<|en z0<|ec (FC (mi m) (k+2))<|ec (Ad (ee (mi m)) (show ByteArray.size (ee (mi m))<=1000000 from by first|omega|(simp only[vu] at*;omega)) k)<|ec (Ae d 1 (cA (ee (mi m))) (show List.length (cp d).ar<=1000000 from by omega) (k+2))<|e0) (by simp only[jk,z0,vq]<;>rfl)
 ·exact rt (ep (aG (eS) d.ax)<|eg (G.len d.ax.length)<|ec (vX m (wrap .i64 ((↑(d.ax.length):Int)-2)) k)<|en z0<|e0) (by simp only[jk,z0,vq]<;>rfl)
theorem ahP(d:Dk)(m:BitVec 32)(hc:(cp d).ar.length<=1000)(h1:((jk d m).1.ax).length<=1000000)(h2:((jk d m).1.ar).length<=1000000)(k:Nat):EO (k+6) 154 [A.agg d.cs,A.c (w4 (mi m))] []=some ([au.agg ((me d m).1.cs),au.c (ii (me d m).2)],[]):=by
 rcases be ((jk d m).2==0) with z0|z0
 ·exact rt (ec (Wx d m hc k)<|en z0<|ec (OW (jk d m).1 h1 h2 (k+1))<|e0) (by simp only[me,z0,vq]<;>rfl)
 ·exact rt (ec (Wx d m hc k)<|en z0<|e0) (by simp only[me,z0,vq]<;>rfl)
theorem v5(d:Dk)(i:Int)(k:Nat):EO (k+1) 128 [A.agg d.cs,A.c (ii i)] []=some ([au.c (bo (jS d i))],[]):=by
 rcases be (decide (i>=0)) with z0|z0
 ·exact rt (eo z0<|ep (aG (eS) d.ax)<|eg (G.len d.ax.length)<|dO z0<|e0) (by simp only[jS,z0,vq]<;>rfl)
 ·exact rt (hO z0<|eb z0<|e0) (by simp only[jS,z0,vq]<;>rfl)
theorem OY(d:Dk)(i:Int)(hc:d.ar.length<=1000000)(k:Nat):EO (k+4) 98 [A.agg d.cs,A.c (ii i)] []=some ([au.c (st (aK d i).1),au.c (ii (aK d i).2)],[]):=by
 rcases be (jS d i) with z0|z0
 ·rcases be ((bR d (wrap .i64 (i+2))).2==0) with z1|z1
  ·rcases be ((↑((bR d (wrap .i64 (i+2))).1.size):Int)==8) with z2|z2
   ·exact rt (ec (v5 d i (k+2))<|en z0<|ec (uG d (wrap .i64 (i+2)) hc k)<|en z1<|en z2<|e0) (by simp only[aK,z0,z1,z2,vq]<;>rfl)
   ·exact rt (ec (v5 d i (k+2))<|en z0<|ec (uG d (wrap .i64 (i+2)) hc k)<|en z1<|en z2<|e0) (by simp only[aK,z0,z1,z2,vq]<;>rfl)
  ·exact rt (ec (v5 d i (k+2))<|en z0<|ec (uG d (wrap .i64 (i+2)) hc k)<|en z1<|e0) (by simp only[aK,z0,z1,vq]<;>rfl)
 ·exact rt (ec (v5 d i (k+2))<|en z0<|e0) (by simp only[aK,z0,vq]<;>rfl)
theorem ahQ(d:Dk)(i:Int)(data:ByteArray)(hc:(cp d).ar.length<=1000)(h1:((bN d (wrap .i64 (i+2)) data).1.ax).length<=1000000)(h2:((bN d (wrap .i64 (i+2)) data).1.ar).length<=1000000)(k:Nat):EO (k+5) 132 [A.agg d.cs,A.c (ii i),A.c (st data)] []=some ([au.agg ((nL d i data).1.cs),au.c (ii (nL d i data).2)],[]):=by
 rcases be (jS d i) with z0|z0
 ·rcases be ((↑(data.size):Int)==8) with z1|z1
  ·rcases be ((bN d (wrap .i64 (i+2)) data).2==0) with z2|z2
   ·exact rt (ec (v5 d i (k+3))<|en z0<|en z1<|ec (Ae d (wrap .i64 (i+2)) data (show List.length (cp d).ar<=1000000 from by omega) (k+2))<|en z2<|ec (OW (bN d (wrap .i64 (i+2)) data).1 h1 h2 k)<|e0) (by simp only[nL,z0,z1,z2,vq]<;>rfl)
   ·exact rt (ec (v5 d i (k+3))<|en z0<|en z1<|ec (Ae d (wrap .i64 (i+2)) data (show List.length (cp d).ar<=1000000 from by omega) (k+2))<|en z2<|e0) (by simp only[nL,z0,z1,z2,vq]<;>rfl)
  ·exact rt (ec (v5 d i (k+3))<|en z0<|en z1<|e0) (by simp only[nL,z0,z1,vq]<;>rfl)
 ·exact rt (ec (v5 d i (k+3))<|en z0<|e0) (by simp only[nL,z0,vq]<;>rfl)
def JJ(d:Dk)(c0:List (List C))(c1:Int):St:=St.mk (T.bf::T.k (K.v (V.fX 0 0))::T.bf::T.bf::T.k (K.v (V.cX 1 c0 (Tk.tok 0)))::tc (ii c1)::hs 24 []) [[V.c (sS d.ax),V.c (sW d.ar),V.c (ii d.kU),V.c (bo d.gN)]] [c0.length]
theorem adx(d:Dk)(l:List ByteArray)(i:Nat)(hc:d.ar.length<=1000000)(hl:l.length<=1000000)(k:Nat)(z0:(decide ((↑i:Int)<wrap .i64 ((↑(d.ax.length):Int)-2)))=true)(z1:((aK d (↑i:Int)).2==0)=true):bQ (EE (k+4)) (HH 112) NN (LB PP 112 3) 1 1 (JJ d (List.map eS l) (↑i:Int)) (JJ d (List.map eS (l++[(aK d (↑i:Int)).1])) (wrap .i64 ((↑i:Int)+1))):=
 nx (ep (aG (eS) d.ax)<|eg (G.len d.ax.length)<|eb z0<|ec (OY d ((↑i:Int)) hc k)<|en z1<|ep (dH (eS) (l) ([(aK d (↑i:Int)).1]))<|ep (bz (eS) (l:=l++[(aK d (↑i:Int)).1]) (n:=1073741824) (by simp only[vr];omega))<|ep (eN ((List.map eS l).length))<|eg (G.app (List.map eS (l++[(aK d (↑i:Int)).1])))<|e0)
def Af(d:Dk)(l:List ByteArray)(i:Nat):St:=St.mk (T.bf::T.k (K.v (V.fX 0 0))::T.k (K.v (vE))::tc (ii (aK d (↑i:Int)).2)::T.k (K.v (V.cX 1 (List.map eS l) (Tk.tok 0)))::tc (ii (↑i:Int))::tc (st (aK d (↑i:Int)).1)::tc (ii (aK d (↑i:Int)).2)::tc (ii (↑i:Int))::T.k (K.v (V.fX 0 0))::tc (sS d.ax)::tc (ii (↑(d.ax.length):Int))::tc (ii (wrap .i64 ((↑(d.ax.length):Int)-2)))::tc (bo (decide ((↑i:Int)<wrap .i64 ((↑(d.ax.length):Int)-2))))::T.bf::T.bf::T.Kk [K.v (V.c (st (aK d (↑i:Int)).1)),K.v (V.c (ii (aK d (↑i:Int)).2))]::T.k (K.agg [V.c (sS d.ax),V.c (sW d.ar),V.c (ii d.kU),V.c (bo d.gN)])::tc (ii (↑i:Int))::T.Kk [K.v (V.c (st (aK d (↑i:Int)).1)),K.v (V.c (ii (aK d (↑i:Int)).2))]::tc (st (aK d (↑i:Int)).1)::tc (ii (aK d (↑i:Int)).2)::tc (ii (aK d (↑i:Int)).2)::tc (bo ((aK d (↑i:Int)).2 !=0))::tc (ii (aK d (↑i:Int)).2)::hs 5 []) [[V.c (sS d.ax),V.c (sW d.ar),V.c (ii d.kU),V.c (bo d.gN)]] [(List.map eS l).length]
theorem ady(d:Dk)(l:List ByteArray)(i:Nat)(hc:d.ar.length<=1000000)(k:Nat)(z0:(decide ((↑i:Int)<wrap .i64 ((↑(d.ax.length):Int)-2)))=true)(z1:((aK d (↑i:Int)).2==0)=false):dq (EE (k+4)) (HH 112) NN (LB PP 112 3) (JJ d (List.map eS l) (↑i:Int)) (dJ.ret) (Af d l i):=
 ou (ep (aG (eS) d.ax)<|eg (G.len d.ax.length)<|eb z0<|ec (OY d ((↑i:Int)) hc k)<|en z1<|e0)
def Ag(d:Dk)(l:List ByteArray)(i:Nat):St:=St.mk (T.bf::T.k (K.v (V.fX 0 0))::T.bf::T.bf::T.k (K.v (V.cX 1 (List.map eS l) (Tk.tok 0)))::tc (ii (↑i:Int))::T.bf::T.bf::tc (ii (↑i:Int))::T.k (K.v (V.fX 0 0))::tc (sS d.ax)::tc (ii (↑(d.ax.length):Int))::tc (ii (wrap .i64 ((↑(d.ax.length):Int)-2)))::tc (bo (decide ((↑i:Int)<wrap .i64 ((↑(d.ax.length):Int)-2))))::hs 16 []) [[V.c (sS d.ax),V.c (sW d.ar),V.c (ii d.kU),V.c (bo d.gN)]] [(List.map eS l).length]
theorem adz(d:Dk)(l:List ByteArray)(i:Nat)(k:Nat)(z0:(decide ((↑i:Int)<wrap .i64 ((↑(d.ax.length):Int)-2)))=false):dq (EE (k+4)) (HH 112) NN (LB PP 112 3) (JJ d (List.map eS l) (↑i:Int)) (dJ.exit 0) (Ag d l i):=
 ou (ep (aG (eS) d.ax)<|eg (G.len d.ax.length)<|eb z0<|e0)
theorem alT(d:Dk)(hs:d.ax.length<=1000000)(hc:d.ar.length<=1000000):
 ((ld d=((List.range (d.ax.length-2)).map fun(i:Nat)=>(aK d (i:Int)).1,0))/\∀k,bT (EE (k+4)) (HH 112) NN (LB PP 112 3) (JJ d [] 0) (.exit 0) (Ag d ((List.range (d.ax.length-2)).map fun(i:Nat)=>(aK d (i:Int)).1) (d.ax.length-2:Nat)))\/
 ∃(l:List ByteArray) (i:Nat),ld d=([],(aK d (i:Int)).2)/\∀k,bT (EE (k+4)) (HH 112) NN (LB PP 112 3) (JJ d [] 0) .ret (Af d l i):=by
 have hn:∀i:Nat,i<d.ax.length-2->decide ((i:Int)<wrap .i64 ((d.ax.length:Int)-2))=true:=fun i hi=>cJ (by rw[dG (by omega) (by omega)];omega)
 have hn2:decide (((d.ax.length-2:Nat):Int)<wrap .i64 ((d.ax.length:Int)-2))=false:=fN (by rw[dG (by omega) (by omega)];omega)
 rcases pA (E:=fun k=>EE (k+4)) (H:=HH 112) (n:=NN) (b:=LB PP 112 3) (fun i=>JJ d (((List.range i).map fun(i:Nat)=>(aK d (i:Int)).1).map eS) (i:Nat)) (List.range (d.ax.length-2)) (fun(i:Nat)=>!((aK d (i:Int)).2==0)) (fun i x=>Af d ((List.range i).map fun(i:Nat)=>(aK d (i:Int)).1) i) (Ag d ((List.range (d.ax.length-2)).map fun(i:Nat)=>(aK d (i:Int)).1) (d.ax.length-2:Nat)) (nv:=1) (nt:=1) (e:= .ret) (e':= .exit 0) (by kernel_rfl) (by kernel_rfl)
  (fun k i x hx hp=>by
    have hi:=gJ hx
    rw[iM] at hi
    have Wz:x=i:=by have:=(List.getElem?_eq_some_iff.1 hx).2;simpa using this.symm
    subst Wz
    have:=adx d ((List.range x).map fun(i:Nat)=>(aK d (i:Int)).1) x hc (by simp;omega) k (hn x hi) (by simpa using hp)
    rw[RA hi (by omega)] at this
    rw[qW,fA,eY,gp]
    exact this)
  (fun k i x hx hp=>by
    have hi:=gJ hx
    rw[iM] at hi
    have Wz:x=i:=by have:=(List.getElem?_eq_some_iff.1 hx).2;simpa using this.symm
    subst Wz
    exact ady d _ x hc k (hn x hi) (by simpa using hp))
  (fun k=>by rw[iM];exact adz d _ _ k hn2) (by rw[iM];unfold NN;omega) with⟨h1,h2⟩|⟨h1,i,x,hx,hp,hf,_,h2⟩
 ·refine .inl ⟨?_,h2⟩
  unfold ld
  have:(List.range (d.ax.length-2)).find? (fun(i:Nat)=>!((aK d (i:Int)).2==0))=none:=by
   rw[xB]
   rw[pf] at h1
   exact h1
  rw[this]
 ·have Wz:x=i:=by have:=(List.getElem?_eq_some_iff.1 hx).2;simpa using this.symm
  subst Wz
  refine .inr ⟨_,x,?_,h2⟩
  unfold ld
  rw[hf]
theorem alU(d:Dk)(l:List ByteArray)(i:Nat)(hL:∀k,bT (EE (k+4)) (HH 112) NN (LB PP 112 3) (JJ d [] 0) dJ.ret (Af d l i))(k:Nat):EO (k+5) 112 [A.agg d.cs] []=some ([au.top 1 [],au.c (ii (aK d (↑i:Int)).2)],[]):=by
 exact ro (eg (G.loop dJ.ret (Af d l i))<|ep (hL k)<|e0)
theorem alV(d:Dk)(l:List ByteArray)(i:Nat)(hL:∀k,bT (EE (k+4)) (HH 112) NN (LB PP 112 3) (JJ d [] 0) (dJ.exit 0) (Ag d l i))(k:Nat):EO (k+5) 112 [A.agg d.cs] []=some ([au.top 1 (List.map eS l),au.c (ii 0)],[]):=by
 exact ro (eg (G.loop (dJ.exit 0) (Ag d l i))<|ep (hL k)<|jg ((List.map eS l).length)<|e0)
theorem ahR(d:Dk)(hs:d.ax.length<=1000000)(hc:d.ar.length<=1000000)(k:Nat):EO (k+5) 112 [.agg d.cs] []=some ([.top 1 ((ld d).1.map eS), .c (ii (ld d).2)],[]):=by
 rcases alT d hs hc with⟨h1,h2⟩|⟨l,i,h1,h2⟩
 ·rw[h1];exact alV d _ _ h2 k
 ·rw[h1];exact alU d l i h2 k
theorem adA(s:Su)(q:Bool)(m:BitVec 32)(k:Nat):EO (k+1) 133 [A.agg s.cs,A.c (bo q),A.c (w4 (mi m))] []=some ([au.agg ((Gi s q m).cs)],[]):=by
 rcases be s.cH with z0|z0
 ·exact rt (dO z0<|e0) (by simp only[Gi,z0,vq]<;>rfl)
 ·exact rt (dO z0<|e0) (by simp only[Gi,z0,vq]<;>rfl)
theorem jA(h:He)(k:Nat):EO (k+5) 146 [A.agg h.cs] []=some ([au.c (bo (eZ h))],[]):=by
 rcases be (decide (h.an>=1)) with z0|z0
 ·rcases be (decide (h.an<=32)) with z1|z1
  ·rcases be (h.v.bH==0) with z2|z2
   ·exact rt (eo z0<|sy z1<|md z2<|fP<|fP<|e0) (by simp only[eZ,z0,z1,z2,vq]<;>rfl)
   ·rcases be (dP h.cr h.an) with z3|z3
    ·rcases be h.cH with z4|z4
     ·rcases be h.sN with z5|z5
      ·exact rt (eo z0<|sy z1<|CD z2<|ec (vX h.cr h.an k)<|en z2<|dO z3<|ci z4<|eb z3<|eb z4<|ci z3<|md z5<|e0) (by simp only[eZ,z0,z1,z2,z3,z4,z5,vq]<;>rfl)
      ·exact rt (eo z0<|sy z1<|CD z2<|ec (vX h.cr h.an k)<|en z2<|dO z3<|ci z4<|eb z3<|eb z4<|ci z3<|ez z5<|ci z4<|en z5<|eb z4<|iA z5<|e0) (by simp only[eZ,z0,z1,z2,z3,z4,z5,vq]<;>rfl)
     ·exact rt (eo z0<|sy z1<|CD z2<|ec (vX h.cr h.an k)<|en z2<|dO z3<|ci z4<|eb z3<|eb z4<|ci z3<|mc<|ci z4<|et<|eb z4<|K'<|e0) (by simp only[eZ,z0,z1,z2,z3,z4,vq]<;>rfl)
    ·exact rt (eo z0<|sy z1<|CD z2<|ec (vX h.cr h.an k)<|en z2<|hO z3<|fP<|e0) (by simp only[eZ,z0,z1,z2,z3,vq]<;>rfl)
  ·exact rt (eo z0<|sy z1<|fP<|fP<|fP<|e0) (by simp only[eZ,z0,z1,vq]<;>rfl)
 ·exact rt (eo z0<|fP<|fP<|fP<|Cg<|e0) (by simp only[eZ,z0,vq]<;>rfl)
theorem QU(h:He)(k:Nat):EO (k+6) 149 [A.agg h.cs] []=some ([au.c (st (mF h).1),au.c (ii (mF h).2)],[]):=by
 rcases be (eZ h) with z0|z0
 ·exact rt (ec (jA h k)<|en z0<|ec (ac6 h.bp h.sN h.dg h.cH (k+4))<|ep (rfl:some ([wrap .u8 h.an,fl h.bp (1:Int)+fl h.sN (2:Int)+fl h.dg (4:Int)+fl h.cH (8:Int)])=some ([wrap .u8 h.an,fl h.bp (1:Int)+fl h.sN (2:Int)+fl h.dg (4:Int)+fl h.cH (8:Int)]))<|eg (G.str [wrap .u8 h.an,fl h.bp 1+fl h.sN 2+fl h.dg 4+fl h.cH 8])<|ec (uF h.v.bH (k+3))<|ep (show ByteArray.size (dc [wrap .u8 h.an,fl h.bp (1:Int)+fl h.sN (2:Int)+fl h.dg (4:Int)+fl h.cH (8:Int)])+(eR h.v.bH).size<=9223372036854775807 from by first|omega|(simp only[vu] at*;omega))<|eg (G.ok)<|ec (uF h.v.i4 (k+3))<|ep (show ByteArray.size (dc [wrap .u8 h.an,fl h.bp (1:Int)+fl h.sN (2:Int)+fl h.dg (4:Int)+fl h.cH (8:Int)]++eR h.v.bH)+(eR h.v.i4).size<=9223372036854775807 from by first|omega|(simp only[vu] at*;omega))<|eg (G.ok)<|ec (uF h.v.o0 (k+3))<|ep (show ByteArray.size (dc [wrap .u8 h.an,fl h.bp (1:Int)+fl h.sN (2:Int)+fl h.dg (4:Int)+fl h.cH (8:Int)]++eR h.v.bH++eR h.v.i4)+(eR h.v.o0).size<=9223372036854775807 from by first|omega|(simp only[vu] at*;omega))<|eg (G.ok)<|ec (uF h.v.o1 (k+3))<|ep (show ByteArray.size (dc [wrap .u8 h.an,fl h.bp (1:Int)+fl h.sN (2:Int)+fl h.dg (4:Int)+fl h.cH (8:Int)]++eR h.v.bH++eR h.v.i4++eR h.v.o0)+(eR h.v.o1).size<=9223372036854775807 from by first|omega|(simp only[vu] at*;omega))<|eg (G.ok)<|ec (FC (mi h.cr) (k+3))<|ep (show ByteArray.size (dc [wrap .u8 h.an,fl h.bp (1:Int)+fl h.sN (2:Int)+fl h.dg (4:Int)+fl h.cH (8:Int)]++eR h.v.bH++eR h.v.i4++eR h.v.o0++eR h.v.o1)+(ee (mi h.cr)).size<=9223372036854775807 from by first|omega|(simp only[vu] at*;omega))<|eg (G.ok)<|e0) (by simp only[mF,d_,z0,vq]<;>rfl)
 ·exact rt (ec (jA h k)<|en z0<|e0) (by simp only[mF,d_,z0,vq]<;>rfl)
theorem S1(t:ByteArray)(a:Nat)(hw:wrap .i64 ((↑a:Int)+8)=(↑(a+8):Int))(hl:a<=a+8)(hs:a+8<=t.size)(he:(t.extract a (a+8)).size=8)(k:Nat):EO (k+3) 145 [A.c (st t),A.c (ii (↑a:Int))] []=some ([au.c (u (cB t a))],[]):=by
 exact rt (ep hw<|ep (rfl:(↑a:Int)=(↑a:Int))<|ep hl<|ep hs<|eg (G.cut a (a+8) [])<|ec (qP (t.extract a (a+8)) he k)<|e0) (by simp only[cB,vq]<;>rfl)
theorem Ah(t:ByteArray)(a:Nat)(ha:a<=1000)(h:a+8<=t.size)(k:Nat):EO (k+3) 145 [.c (st t), .c (ii (a:Int))] []=some ([.c (u (cB t a))],[]):=
 S1 t a (by rw[dG (by omega) (by omega)];omega) (by omega) h (by rw[uR];omega) k
theorem aby(t:ByteArray)(h:t.size=38)(k:Nat):EO (k+3) 145 [.c (st t), .c (ii 2)] []=some ([.c (u (cB t 2))],[]):=Ah t 2 (by omega) (by omega) k
theorem WA(t:ByteArray)(h:t.size=38)(k:Nat):EO (k+3) 145 [.c (st t), .c (ii 10)] []=some ([.c (u (cB t 10))],[]):=Ah t 10 (by omega) (by omega) k
theorem WB(t:ByteArray)(h:t.size=38)(k:Nat):EO (k+3) 145 [.c (st t), .c (ii 18)] []=some ([.c (u (cB t 18))],[]):=Ah t 18 (by omega) (by omega) k
theorem WC(t:ByteArray)(h:t.size=38)(k:Nat):EO (k+3) 145 [.c (st t), .c (ii 26)] []=some ([.c (u (cB t 26))],[]):=Ah t 26 (by omega) (by omega) k
theorem adB(b:ByteArray)(h1:((↑(b.size):Int)==38)=false)(k:Nat):EO (k+6) 115 [A.c (st b)] []=some ([au.agg ((jL b).1.cs),au.c (ii (jL b).2)],[]):=by
 exact rt (eA h1<|et<|e0) (by simp only[jL,h1,vq]<;>rfl)
theorem adC(b:ByteArray)(h1:((↑(b.size):Int)==38)=true)(h2:b[1]?=some (aq b 1))(h3:decide ((↑(UInt8.toNat (aq b 1)):Int)>15)=true)(k:Nat):EO (k+6) 115 [A.c (st b)] []=some ([au.agg ((jL b).1.cs),au.c (ii (jL b).2)],[]):=by
 exact rt (iA h1<|ep (rfl:(1:Int)=(1:Int))<|ep h2<|eg (G.i7 1 (aq b 1))<|iA h1<|eb h3<|e0) (by simp only[jL,h1,h3,vq]<;>rfl)
theorem adD(b:ByteArray)(h1:((↑(b.size):Int)==38)=true)(hs:b.size=38)(h0:b[0]?=some (aq b 0))(h2:b[1]?=some (aq b 1))(h3:decide ((↑(UInt8.toNat (aq b 1)):Int)>15)=false)(h4:UInt8.toNat (aq b 1)<=15)(h5:(b.extract 34 b.size).size=4)(k:Nat):EO (k+6) 115 [A.c (st b)] []=some ([au.agg ((jL b).1.cs),au.c (ii (jL b).2)],[]):=by
 rcases be (eZ (He.mk (wrap .i64 (↑(UInt8.toNat (aq b 0)):Int)) ((Ve.mk (cB b 2) (cB b 10) (cB b 18) (cB b 26))) (bK (aq b 1) 0) (bK (aq b 1) 1) (bK (aq b 1) 2) (bK (aq b 1) 3) (BitVec.ofInt 32 (gO (b.extract 34 b.size).data.toList)))) with z0|z0
 ·exact rt (iA h1<|ep (rfl:(1:Int)=(1:Int))<|ep h2<|eg (G.i7 1 (aq b 1))<|iA h1<|eb h3<|ep (rfl:(1:Int)=(1:Int))<|ep h2<|eg (G.i7 1 (aq b 1))<|ec (QR (aq b 1) h4 (k+4))<|ep (rfl:b.size=b.size)<|ep (rfl:(34:Int)=(34:Int))<|ep (show(34:Nat)<=b.size from by omega)<|ep (show b.size<=b.size from by omega)<|eg (G.cut 34 b.size [])<|ec (JI (b.extract 34 b.size) h5 (k+3))<|ep (rfl:(0:Int)=(0:Int))<|ep h0<|eg (G.i7 0 (aq b 0))<|ep (rfl:(0:Int)=(0:Int))<|ep (rfl:some ([bo (bK (aq b (1:Nat)) (0:Nat))])=some ([bo (bK (aq b (1:Nat)) (0:Nat))]))<|eg (G.fF 0 [bo (bK (aq b 1) 0)])<|ep (rfl:(1:Int)=(1:Int))<|ep (rfl:some ([bo (bK (aq b (1:Nat)) (1:Nat))])=some ([bo (bK (aq b (1:Nat)) (1:Nat))]))<|eg (G.fF 1 [bo (bK (aq b 1) 1)])<|ep (rfl:(2:Int)=(2:Int))<|ep (rfl:some ([bo (bK (aq b (1:Nat)) (2:Nat))])=some ([bo (bK (aq b (1:Nat)) (2:Nat))]))<|eg (G.fF 2 [bo (bK (aq b 1) 2)])<|ep (rfl:(3:Int)=(3:Int))<|ep (rfl:some ([bo (bK (aq b (1:Nat)) (3:Nat))])=some ([bo (bK (aq b (1:Nat)) (3:Nat))]))<|eg (G.fF 3 [bo (bK (aq b 1) 3)])<|ec (aby b hs (k+2))<|ec (WA b hs (k+2))<|ec (WB b hs (k+2))<|ec (WC b hs (k+2))<|ec (jA ((He.mk (wrap .i64 (↑(UInt8.toNat (aq b 0)):Int)) ((Ve.mk (cB b 2) (cB b 10) (cB b 18) (cB b 26))) (bK (aq b 1) 0) (bK (aq b 1) 1) (bK (aq b 1) 2) (bK (aq b 1) 3) (BitVec.ofInt 32 (gO (b.extract 34 b.size).data.toList)))) k)<|en z0<|e0) (by simp only[jL,N5,h1,h3,z0,vq]<;>rfl)
 ·exact rt (iA h1<|ep (rfl:(1:Int)=(1:Int))<|ep h2<|eg (G.i7 1 (aq b 1))<|iA h1<|eb h3<|ep (rfl:(1:Int)=(1:Int))<|ep h2<|eg (G.i7 1 (aq b 1))<|ec (QR (aq b 1) h4 (k+4))<|ep (rfl:b.size=b.size)<|ep (rfl:(34:Int)=(34:Int))<|ep (show(34:Nat)<=b.size from by omega)<|ep (show b.size<=b.size from by omega)<|eg (G.cut 34 b.size [])<|ec (JI (b.extract 34 b.size) h5 (k+3))<|ep (rfl:(0:Int)=(0:Int))<|ep h0<|eg (G.i7 0 (aq b 0))<|ep (rfl:(0:Int)=(0:Int))<|ep (rfl:some ([bo (bK (aq b (1:Nat)) (0:Nat))])=some ([bo (bK (aq b (1:Nat)) (0:Nat))]))<|eg (G.fF 0 [bo (bK (aq b 1) 0)])<|ep (rfl:(1:Int)=(1:Int))<|ep (rfl:some ([bo (bK (aq b (1:Nat)) (1:Nat))])=some ([bo (bK (aq b (1:Nat)) (1:Nat))]))<|eg (G.fF 1 [bo (bK (aq b 1) 1)])<|ep (rfl:(2:Int)=(2:Int))<|ep (rfl:some ([bo (bK (aq b (1:Nat)) (2:Nat))])=some ([bo (bK (aq b (1:Nat)) (2:Nat))]))<|eg (G.fF 2 [bo (bK (aq b 1) 2)])<|ep (rfl:(3:Int)=(3:Int))<|ep (rfl:some ([bo (bK (aq b (1:Nat)) (3:Nat))])=some ([bo (bK (aq b (1:Nat)) (3:Nat))]))<|eg (G.fF 3 [bo (bK (aq b 1) 3)])<|ec (aby b hs (k+2))<|ec (WA b hs (k+2))<|ec (WB b hs (k+2))<|ec (WC b hs (k+2))<|ec (jA ((He.mk (wrap .i64 (↑(UInt8.toNat (aq b 0)):Int)) ((Ve.mk (cB b 2) (cB b 10) (cB b 18) (cB b 26))) (bK (aq b 1) 0) (bK (aq b 1) 1) (bK (aq b 1) 2) (bK (aq b 1) 3) (BitVec.ofInt 32 (gO (b.extract 34 b.size).data.toList)))) k)<|en z0<|e0) (by simp only[jL,N5,h1,h3,z0,vq]<;>rfl)
theorem CT(b:ByteArray)(k:Nat):EO (k+6) 115 [.c (st b)] []=some ([.agg (jL b).1.cs, .c (ii (jL b).2)],[]):=by
 cases h1:(b.size:Int)==38 with
 |false=>exact adB b h1 k
 |true=>
  have hs:b.size=38:=by have:=eq_of_beq h1;omega
  have h2:=ov (s:=b) (i:=1) (by omega)
  cases h3:decide (((aq b 1).toNat:Int)>15) with
  |true=>exact adC b h1 h2 h3 k
  |false=>
   have h4:=wd h3
   exact adD b h1 hs (ov (by omega)) h2 h3 (by omega) (by rw[uR];omega) k
theorem fE(k':Int)(k:Nat):EO (k+1) 116 [A.c (ii k')] []=some ([au.c (bo (cT k'))],[]):=by
 rcases be (decide (k'>=2)) with z0|z0
 ·exact rt (dO z0<|e0) (by simp only[cT,z0,vq]<;>rfl)
 ·exact rt (dO z0<|e0) (by simp only[cT,z0,vq]<;>rfl)
theorem v6(k':Int)(k:Nat):EO (k+1) 147 [A.c (ii k')] []=some ([au.c (bo (iQ k'))],[]):=by
 rcases be (k'==2) with z0|z0
 ·exact rt (dO z0<|e0) (by simp only[iQ,z0,vq]<;>rfl)
 ·exact rt (dO z0<|e0) (by simp only[iQ,z0,vq]<;>rfl)
theorem iB(p:Pk)(k:Nat):EO (k+6) 117 [A.agg p.cs] []=some ([au.c (bo (cN p))],[]):=by
 rcases be (decide (p.ae<1)) with z0|z0
 ·exact rt (eo z0<|et<|e0) (by simp only[cN,ja,z0,vq]<;>rfl)
 ·rcases be (decide (p.ae>13)) with z1|z1
  ·exact rt (eo z0<|eb z1<|e0) (by simp only[cN,ja,z0,z1,vq]<;>rfl)
  ·rcases be (p.ae==1) with z2|z2
   ·rcases be (eZ p.aw) with z3|z3
    ·rcases be (decide (p.block<0)) with z4|z4
     ·exact rt (eo z0<|eb z1<|dO z2<|ec (jA p.aw k)<|ci z2<|eA z3<|eA z2<|en z3<|en z2<|en z3<|ef<|eo z4<|k_<|K'<|e0) (by simp only[cN,ja,z0,z1,z2,z3,z4,vq]<;>rfl)
     ·rcases be (decide (p.block>31)) with z5|z5
      ·exact rt (eo z0<|eb z1<|dO z2<|ec (jA p.aw k)<|ci z2<|eA z3<|eA z2<|en z3<|en z2<|en z3<|ef<|eo z4<|hO z5<|eb z5<|et<|e0) (by simp only[cN,ja,z0,z1,z2,z3,z4,z5,vq]<;>rfl)
      ·rcases be (cT p.ae) with z6|z6
       ·rcases be (iQ p.ae) with z7|z7
        ·exact rt (eo z0<|eb z1<|dO z2<|ec (jA p.aw k)<|ci z2<|eA z3<|eA z2<|en z3<|en z2<|en z3<|ef<|eo z4<|dO z5<|ec (fE p.ae (k+4))<|ci z5<|ez z6<|eb z5<|en z6<|eb z5<|ef<|ec (v6 p.ae (k+4))<|eb z7<|e0) (by simp only[cN,ja,z0,z1,z2,z3,z4,z5,z6,z7,vq]<;>rfl)
        ·exact rt (eo z0<|eb z1<|dO z2<|ec (jA p.aw k)<|ci z2<|eA z3<|eA z2<|en z3<|en z2<|en z3<|ef<|eo z4<|dO z5<|ec (fE p.ae (k+4))<|ci z5<|ez z6<|eb z5<|en z6<|eb z5<|ef<|ec (v6 p.ae (k+4))<|eb z7<|e0) (by simp only[cN,ja,z0,z1,z2,z3,z4,z5,z6,z7,vq]<;>rfl)
       ·rcases be (p.block==0) with z7|z7
        ·rcases be (iQ p.ae) with z8|z8
         ·exact rt (eo z0<|eb z1<|dO z2<|ec (jA p.aw k)<|ci z2<|eA z3<|eA z2<|en z3<|en z2<|en z3<|ef<|eo z4<|dO z5<|ec (fE p.ae (k+4))<|ci z5<|ez z6<|eb z5<|en z6<|eb z5<|en z7<|ec (v6 p.ae (k+4))<|eb z8<|e0) (by simp only[cN,ja,z0,z1,z2,z3,z4,z5,z6,z7,z8,vq]<;>rfl)
         ·exact rt (eo z0<|eb z1<|dO z2<|ec (jA p.aw k)<|ci z2<|eA z3<|eA z2<|en z3<|en z2<|en z3<|ef<|eo z4<|dO z5<|ec (fE p.ae (k+4))<|ci z5<|ez z6<|eb z5<|en z6<|eb z5<|en z7<|ec (v6 p.ae (k+4))<|eb z8<|e0) (by simp only[cN,ja,z0,z1,z2,z3,z4,z5,z6,z7,z8,vq]<;>rfl)
        ·exact rt (eo z0<|eb z1<|dO z2<|ec (jA p.aw k)<|ci z2<|eA z3<|eA z2<|en z3<|en z2<|en z3<|ef<|eo z4<|dO z5<|ec (fE p.ae (k+4))<|ci z5<|ez z6<|eb z5<|en z6<|eb z5<|en z7<|e0) (by simp only[cN,ja,z0,z1,z2,z3,z4,z5,z6,z7,vq]<;>rfl)
    ·exact rt (eo z0<|eb z1<|dO z2<|ec (jA p.aw k)<|ci z2<|md z3<|et<|e0) (by simp only[cN,ja,z0,z1,z2,z3,vq]<;>rfl)
   ·rcases be (p.aw.an==0&&(p.aw.v.bH==0&&(p.aw.v.i4==0&&(p.aw.v.o0==0&&(p.aw.v.o1==0&&true)&&true))&&(p.aw.bp==false&&(p.aw.sN==false&&(p.aw.dg==false&&(p.aw.cH==false&&(mi p.aw.cr==0&&true))))))) with z3|z3
    ·rcases be (decide (p.block<0)) with z4|z4
     ·exact rt (eo z0<|eb z1<|sy z2<|kT<|eA z2<|ef<|en z2<|ef<|en z3<|eo z4<|k_<|K'<|e0) (by simp only[cN,ja,z0,z1,z2,z3,z4,vq]<;>rfl)
     ·rcases be (decide (p.block>31)) with z5|z5
      ·exact rt (eo z0<|eb z1<|sy z2<|kT<|eA z2<|ef<|en z2<|ef<|en z3<|eo z4<|hO z5<|eb z5<|et<|e0) (by simp only[cN,ja,z0,z1,z2,z3,z4,z5,vq]<;>rfl)
      ·rcases be (cT p.ae) with z6|z6
       ·rcases be (iQ p.ae) with z7|z7
        ·exact rt (eo z0<|eb z1<|sy z2<|kT<|eA z2<|ef<|en z2<|ef<|en z3<|eo z4<|dO z5<|ec (fE p.ae (k+4))<|ci z5<|ez z6<|eb z5<|en z6<|eb z5<|ef<|ec (v6 p.ae (k+4))<|eb z7<|e0) (by simp only[cN,ja,z0,z1,z2,z3,z4,z5,z6,z7,vq]<;>rfl)
        ·exact rt (eo z0<|eb z1<|sy z2<|kT<|eA z2<|ef<|en z2<|ef<|en z3<|eo z4<|dO z5<|ec (fE p.ae (k+4))<|ci z5<|ez z6<|eb z5<|en z6<|eb z5<|ef<|ec (v6 p.ae (k+4))<|eb z7<|e0) (by simp only[cN,ja,z0,z1,z2,z3,z4,z5,z6,z7,vq]<;>rfl)
       ·rcases be (p.block==0) with z7|z7
        ·rcases be (iQ p.ae) with z8|z8
         ·exact rt (eo z0<|eb z1<|sy z2<|kT<|eA z2<|ef<|en z2<|ef<|en z3<|eo z4<|dO z5<|ec (fE p.ae (k+4))<|ci z5<|ez z6<|eb z5<|en z6<|eb z5<|en z7<|ec (v6 p.ae (k+4))<|eb z8<|e0) (by simp only[cN,ja,z0,z1,z2,z3,z4,z5,z6,z7,z8,vq]<;>rfl)
         ·exact rt (eo z0<|eb z1<|sy z2<|kT<|eA z2<|ef<|en z2<|ef<|en z3<|eo z4<|dO z5<|ec (fE p.ae (k+4))<|ci z5<|ez z6<|eb z5<|en z6<|eb z5<|en z7<|ec (v6 p.ae (k+4))<|eb z8<|e0) (by simp only[cN,ja,z0,z1,z2,z3,z4,z5,z6,z7,z8,vq]<;>rfl)
        ·exact rt (eo z0<|eb z1<|sy z2<|kT<|eA z2<|ef<|en z2<|ef<|en z3<|eo z4<|dO z5<|ec (fE p.ae (k+4))<|ci z5<|ez z6<|eb z5<|en z6<|eb z5<|en z7<|e0) (by simp only[cN,ja,z0,z1,z2,z3,z4,z5,z6,z7,vq]<;>rfl)
    ·exact rt (eo z0<|eb z1<|sy z2<|kT<|eA z2<|ef<|en z2<|ef<|en z3<|e0) (by simp only[cN,ja,z0,z1,z2,z3,vq]<;>rfl)
theorem OZ(p:Pk)(hh:(mF p.aw).1.size<=38)(hd:p.data.size<=1000000)(k:Nat):EO (k+7) 118 [A.agg p.cs] []=some ([au.c (st (dy p))],[]):=by
 rcases be (p.ae==1) with z0|z0
 ·rcases be (cT p.ae) with z1|z1
  ·exact rt (ep (rfl:some ([wrap .u8 p.ae])=some ([wrap .u8 p.ae]))<|eg (G.str [wrap .u8 p.ae])<|ec (uF p.bd (k+4))<|ep (show ByteArray.size (dc [wrap .u8 p.ae])+(eR p.bd).size<=9223372036854775807 from by first|omega|(simp only[vu] at*;omega))<|eg (G.ok)<|eb z0<|ec (QU p.aw k)<|ep (show ByteArray.size (dc [wrap .u8 p.ae]++eR p.bd)+(mF p.aw).1.size<=9223372036854775807 from by first|omega|(simp only[vu] at*;omega))<|eg (G.ok)<|ec (fE p.ae (k+5))<|eb z1<|ep (rfl:some ([wrap .u8 p.block])=some ([wrap .u8 p.block]))<|eg (G.str [wrap .u8 p.block])<|ep (show ByteArray.size (dc [wrap .u8 p.ae]++eR p.bd++(mF p.aw).1)+(dc [wrap .u8 p.block]).size<=9223372036854775807 from by first|omega|(simp only[vu] at*;omega))<|eg (G.ok)<|ep (show ByteArray.size (dc [wrap .u8 p.ae]++eR p.bd++(mF p.aw).1++dc [wrap .u8 p.block])+p.data.size<=9223372036854775807 from by first|omega|(simp only[vu] at*;omega))<|eg (G.ok)<|e0) (by simp only[dy,sa,z0,z1,vq]<;>rfl)
  ·exact rt (ep (rfl:some ([wrap .u8 p.ae])=some ([wrap .u8 p.ae]))<|eg (G.str [wrap .u8 p.ae])<|ec (uF p.bd (k+4))<|ep (show ByteArray.size (dc [wrap .u8 p.ae])+(eR p.bd).size<=9223372036854775807 from by first|omega|(simp only[vu] at*;omega))<|eg (G.ok)<|eb z0<|ec (QU p.aw k)<|ep (show ByteArray.size (dc [wrap .u8 p.ae]++eR p.bd)+(mF p.aw).1.size<=9223372036854775807 from by first|omega|(simp only[vu] at*;omega))<|eg (G.ok)<|ec (fE p.ae (k+5))<|eb z1<|ep (show ByteArray.size (dc [wrap .u8 p.ae]++eR p.bd++(mF p.aw).1)+p.data.size<=9223372036854775807 from by first|omega|(simp only[vu] at*;omega))<|eg (G.ok)<|e0) (by simp only[dy,sa,z0,z1,vq]<;>rfl)
 ·rcases be (cT p.ae) with z1|z1
  ·exact rt (ep (rfl:some ([wrap .u8 p.ae])=some ([wrap .u8 p.ae]))<|eg (G.str [wrap .u8 p.ae])<|ec (uF p.bd (k+4))<|ep (show ByteArray.size (dc [wrap .u8 p.ae])+(eR p.bd).size<=9223372036854775807 from by first|omega|(simp only[vu] at*;omega))<|eg (G.ok)<|eb z0<|ec (fE p.ae (k+5))<|eb z1<|ep (rfl:some ([wrap .u8 p.block])=some ([wrap .u8 p.block]))<|eg (G.str [wrap .u8 p.block])<|ep (show ByteArray.size (dc [wrap .u8 p.ae]++eR p.bd)+(dc [wrap .u8 p.block]).size<=9223372036854775807 from by first|omega|(simp only[vu] at*;omega))<|eg (G.ok)<|ep (show ByteArray.size (dc [wrap .u8 p.ae]++eR p.bd++dc [wrap .u8 p.block])+p.data.size<=9223372036854775807 from by first|omega|(simp only[vu] at*;omega))<|eg (G.ok)<|e0) (by simp only[dy,sa,z0,z1,vq]<;>rfl)
  ·exact rt (ep (rfl:some ([wrap .u8 p.ae])=some ([wrap .u8 p.ae]))<|eg (G.str [wrap .u8 p.ae])<|ec (uF p.bd (k+4))<|ep (show ByteArray.size (dc [wrap .u8 p.ae])+(eR p.bd).size<=9223372036854775807 from by first|omega|(simp only[vu] at*;omega))<|eg (G.ok)<|eb z0<|ec (fE p.ae (k+5))<|eb z1<|ep (show ByteArray.size (dc [wrap .u8 p.ae]++eR p.bd)+p.data.size<=9223372036854775807 from by first|omega|(simp only[vu] at*;omega))<|eg (G.ok)<|e0) (by simp only[dy,sa,z0,z1,vq]<;>rfl)
theorem l_(p:Pk)(hd:p.data.size<=1000000)(k:Nat):EO (k+7) 118 [.agg p.cs] []=some ([.c (st (dy p))],[]):=OZ p (xZ _) hd k
theorem Mx(p:Pk):(sa p).size<=48:=by
 have h:=xZ p.aw
 unfold sa
 cases cT p.ae<;>cases p.ae==1<;>simp only[bA,aJ,mQ,cf,bC,cV,eO]<;>omega
theorem JK(p:Pk):(dy p).size<=p.data.size+48:=by
 have:=Mx p
 unfold dy
 rw[mQ]
 omega
theorem WD(p:Pk)(hd:p.data.size<=900000)(hz:(dy p).size<=1000000)(k:Nat):EO (k+8) 96 [A.agg p.cs] []=some ([au.c (st (jl p).1),au.c (ii (jl p).2)],[]):=by
 rcases be (cN p) with z0|z0
 ·exact rt (ec (iB p (k+1))<|en z0<|ec (l_ p (show p.data.size<=1000000 from by first|omega|(simp only[vu] at*;omega)) k)<|ec (Ad (dy p) hz (k+3))<|e0) (by simp only[jl,z0,vq]<;>rfl)
 ·exact rt (ec (iB p (k+1))<|en z0<|e0) (by simp only[jl,z0,vq]<;>rfl)
theorem ZN(p:Pk)(hd:p.data.size<=900000)(k:Nat):EO (k+8) 96 [.agg p.cs] []=some ([.c (st (jl p).1), .c (ii (jl p).2)],[]):=WD p hd (by have:=JK p;omega) k
theorem adE(b:ByteArray)(hb:b.size<=800000)(h1:((aa b).2==0)=false)(k:Nat):EO (k+8) 83 [A.c (st b)] []=some ([au.agg ((cK b).1.cs),au.c (ii (cK b).2)],[]):=by
 exact rt (ec (kW b (show b.size<=1000000 from by omega) (k+2))<|en h1<|e0) (by simp only[cK,h1,vq]<;>rfl)
theorem adF(b:ByteArray)(hb:b.size<=800000)(h1:((aa b).2==0)=true)(h2:decide ((↑((aa b).1.size):Int)<9)=true)(k:Nat):EO (k+8) 83 [A.c (st b)] []=some ([au.agg ((cK b).1.cs),au.c (ii (cK b).2)],[]):=by
 exact rt (ec (kW b (show b.size<=1000000 from by omega) (k+2))<|en h1<|eb h2<|e0) (by simp only[cK,lK,h1,h2,vq]<;>rfl)
theorem adG(b:ByteArray)(hb:b.size<=800000)(h1:((aa b).2==0)=true)(h2:decide ((↑((aa b).1.size):Int)<9)=false)(hs:(9:Nat)<=(aa b).1.size)(X1:(aa b).1.size<=800000)(h3:(aa b).1[0]?=some (aq (aa b).1 0))(h4:((aa b).1.extract 1 9).size=8)(h5:(wrap .i64 (↑(UInt8.toNat (aq (aa b).1 0)):Int)==1)=true)(h6:cT (wrap .i64 (↑(UInt8.toNat (aq (aa b).1 0)):Int))=false)(k:Nat):EO (k+8) 83 [A.c (st b)] []=some ([au.agg ((cK b).1.cs),au.c (ii (cK b).2)],[]):=by
 rcases be ((jL ((aa b).1.extract 9 ((aa b).1.size))).2==0) with z0|z0
 ·rcases be (cN (Pk.mk (wrap .i64 (↑(UInt8.toNat (aq (aa b).1 0)):Int)) (gO ((aa b).1.extract 1 9).data.toList) (jL ((aa b).1.extract 9 ((aa b).1.size))).1 0 ⟨#[]⟩)) with z1|z1
  ·rcases be (dy (Pk.mk (wrap .i64 (↑(UInt8.toNat (aq (aa b).1 0)):Int)) (gO ((aa b).1.extract 1 9).data.toList) (jL ((aa b).1.extract 9 ((aa b).1.size))).1 0 ⟨#[]⟩)==(aa b).1) with z2|z2
   ·exact rt (ec (kW b (show b.size<=1000000 from by omega) (k+2))<|en h1<|eb h2<|ep (rfl:(9:Int)=(9:Int))<|ep (rfl:(1:Int)=(1:Int))<|ep (show(1:Nat)<=9 from by decide)<|ep hs<|eg (G.cut 1 9 [])<|ec (qP ((aa b).1.extract 1 9) h4 (k+5))<|ep (rfl:(0:Int)=(0:Int))<|ep h3<|eg (G.i7 0 (aq (aa b).1 0))<|ep (rfl:(aa b).1.size=(aa b).1.size)<|ep (rfl:(9:Int)=(9:Int))<|ep hs<|ep (show ByteArray.size (aa b).1<=(aa b).1.size from by omega)<|eg (G.cut 9 ((aa b).1.size) [])<|eb h5<|ec (CT ((aa b).1.extract 9 ((aa b).1.size)) (k+1))<|en z0<|ec (fE (wrap .i64 (↑(UInt8.toNat (aq (aa b).1 0)):Int)) (k+6))<|eo h6<|ef<|ec (iB ((Pk.mk (wrap .i64 (↑(UInt8.toNat (aq (aa b).1 0)):Int)) (gO ((aa b).1.extract 1 9).data.toList) (jL ((aa b).1.extract 9 ((aa b).1.size))).1 0 ⟨#[]⟩)) (k+1))<|iA z1<|ec (l_ ((Pk.mk (wrap .i64 (↑(UInt8.toNat (aq (aa b).1 0)):Int)) (gO ((aa b).1.extract 1 9).data.toList) (jL ((aa b).1.extract 9 ((aa b).1.size))).1 0 ⟨#[]⟩)) (show ByteArray.size ⟨#[]⟩<=1000000 from by decide) k)<|ez z1<|en z2<|e0) (by simp only[cK,lK,qF,h1,h2,h5,z0,z1,z2,vq]<;>rfl)
   ·exact rt (ec (kW b (show b.size<=1000000 from by omega) (k+2))<|en h1<|eb h2<|ep (rfl:(9:Int)=(9:Int))<|ep (rfl:(1:Int)=(1:Int))<|ep (show(1:Nat)<=9 from by decide)<|ep hs<|eg (G.cut 1 9 [])<|ec (qP ((aa b).1.extract 1 9) h4 (k+5))<|ep (rfl:(0:Int)=(0:Int))<|ep h3<|eg (G.i7 0 (aq (aa b).1 0))<|ep (rfl:(aa b).1.size=(aa b).1.size)<|ep (rfl:(9:Int)=(9:Int))<|ep hs<|ep (show ByteArray.size (aa b).1<=(aa b).1.size from by omega)<|eg (G.cut 9 ((aa b).1.size) [])<|eb h5<|ec (CT ((aa b).1.extract 9 ((aa b).1.size)) (k+1))<|en z0<|ec (fE (wrap .i64 (↑(UInt8.toNat (aq (aa b).1 0)):Int)) (k+6))<|eo h6<|ef<|ec (iB ((Pk.mk (wrap .i64 (↑(UInt8.toNat (aq (aa b).1 0)):Int)) (gO ((aa b).1.extract 1 9).data.toList) (jL ((aa b).1.extract 9 ((aa b).1.size))).1 0 ⟨#[]⟩)) (k+1))<|iA z1<|ec (l_ ((Pk.mk (wrap .i64 (↑(UInt8.toNat (aq (aa b).1 0)):Int)) (gO ((aa b).1.extract 1 9).data.toList) (jL ((aa b).1.extract 9 ((aa b).1.size))).1 0 ⟨#[]⟩)) (show ByteArray.size ⟨#[]⟩<=1000000 from by decide) k)<|ez z1<|en z2<|e0) (by simp only[cK,lK,qF,h1,h2,h5,z0,z1,z2,vq]<;>rfl)
  ·exact rt (ec (kW b (show b.size<=1000000 from by omega) (k+2))<|en h1<|eb h2<|ep (rfl:(9:Int)=(9:Int))<|ep (rfl:(1:Int)=(1:Int))<|ep (show(1:Nat)<=9 from by decide)<|ep hs<|eg (G.cut 1 9 [])<|ec (qP ((aa b).1.extract 1 9) h4 (k+5))<|ep (rfl:(0:Int)=(0:Int))<|ep h3<|eg (G.i7 0 (aq (aa b).1 0))<|ep (rfl:(aa b).1.size=(aa b).1.size)<|ep (rfl:(9:Int)=(9:Int))<|ep hs<|ep (show ByteArray.size (aa b).1<=(aa b).1.size from by omega)<|eg (G.cut 9 ((aa b).1.size) [])<|eb h5<|ec (CT ((aa b).1.extract 9 ((aa b).1.size)) (k+1))<|en z0<|ec (fE (wrap .i64 (↑(UInt8.toNat (aq (aa b).1 0)):Int)) (k+6))<|eo h6<|ef<|ec (iB ((Pk.mk (wrap .i64 (↑(UInt8.toNat (aq (aa b).1 0)):Int)) (gO ((aa b).1.extract 1 9).data.toList) (jL ((aa b).1.extract 9 ((aa b).1.size))).1 0 ⟨#[]⟩)) (k+1))<|CD z1<|et<|e0) (by simp only[cK,lK,qF,h1,h2,h5,z0,z1,vq]<;>rfl)
 ·exact rt (ec (kW b (show b.size<=1000000 from by omega) (k+2))<|en h1<|eb h2<|ep (rfl:(9:Int)=(9:Int))<|ep (rfl:(1:Int)=(1:Int))<|ep (show(1:Nat)<=9 from by decide)<|ep hs<|eg (G.cut 1 9 [])<|ec (qP ((aa b).1.extract 1 9) h4 (k+5))<|ep (rfl:(0:Int)=(0:Int))<|ep h3<|eg (G.i7 0 (aq (aa b).1 0))<|ep (rfl:(aa b).1.size=(aa b).1.size)<|ep (rfl:(9:Int)=(9:Int))<|ep hs<|ep (show ByteArray.size (aa b).1<=(aa b).1.size from by omega)<|eg (G.cut 9 ((aa b).1.size) [])<|eb h5<|ec (CT ((aa b).1.extract 9 ((aa b).1.size)) (k+1))<|en z0<|e0) (by simp only[cK,lK,qF,h1,h2,h5,z0,vq]<;>rfl)
theorem adH(b:ByteArray)(hb:b.size<=800000)(h1:((aa b).2==0)=true)(h2:decide ((↑((aa b).1.size):Int)<9)=false)(hs:(9:Nat)<=(aa b).1.size)(X1:(aa b).1.size<=800000)(h3:(aa b).1[0]?=some (aq (aa b).1 0))(h4:((aa b).1.extract 1 9).size=8)(h5:(wrap .i64 (↑(UInt8.toNat (aq (aa b).1 0)):Int)==1)=false)(h6:cT (wrap .i64 (↑(UInt8.toNat (aq (aa b).1 0)):Int))=false)(h7:((aa b).1.extract 9 ((aa b).1.size)).size<=800000)(k:Nat):EO (k+8) 83 [A.c (st b)] []=some ([au.agg ((cK b).1.cs),au.c (ii (cK b).2)],[]):=by
 rcases be (cN (Pk.mk (wrap .i64 (↑(UInt8.toNat (aq (aa b).1 0)):Int)) (gO ((aa b).1.extract 1 9).data.toList) fG 0 ((aa b).1.extract 9 ((aa b).1.size)))) with z0|z0
 ·rcases be (dy (Pk.mk (wrap .i64 (↑(UInt8.toNat (aq (aa b).1 0)):Int)) (gO ((aa b).1.extract 1 9).data.toList) fG 0 ((aa b).1.extract 9 ((aa b).1.size)))==(aa b).1) with z1|z1
  ·exact rt (ec (kW b (show b.size<=1000000 from by omega) (k+2))<|en h1<|eb h2<|ep (rfl:(9:Int)=(9:Int))<|ep (rfl:(1:Int)=(1:Int))<|ep (show(1:Nat)<=9 from by decide)<|ep hs<|eg (G.cut 1 9 [])<|ec (qP ((aa b).1.extract 1 9) h4 (k+5))<|ep (rfl:(0:Int)=(0:Int))<|ep h3<|eg (G.i7 0 (aq (aa b).1 0))<|ep (rfl:(aa b).1.size=(aa b).1.size)<|ep (rfl:(9:Int)=(9:Int))<|ep hs<|ep (show ByteArray.size (aa b).1<=(aa b).1.size from by omega)<|eg (G.cut 9 ((aa b).1.size) [])<|eb h5<|ec (fE (wrap .i64 (↑(UInt8.toNat (aq (aa b).1 0)):Int)) (k+6))<|eo h6<|ef<|ec (iB ((Pk.mk (wrap .i64 (↑(UInt8.toNat (aq (aa b).1 0)):Int)) (gO ((aa b).1.extract 1 9).data.toList) fG 0 ((aa b).1.extract 9 ((aa b).1.size)))) (k+1))<|iA z0<|ec (l_ ((Pk.mk (wrap .i64 (↑(UInt8.toNat (aq (aa b).1 0)):Int)) (gO ((aa b).1.extract 1 9).data.toList) fG 0 ((aa b).1.extract 9 ((aa b).1.size)))) (show ByteArray.size ((aa b).1.extract (9:Nat) ((aa b).1.size))<=1000000 from by first|omega|(simp only[vu] at*;omega)) k)<|ez z0<|en z1<|e0) (by simp only[cK,lK,qF,fQ,h1,h2,h5,h6,z0,z1,vq]<;>rfl)
  ·exact rt (ec (kW b (show b.size<=1000000 from by omega) (k+2))<|en h1<|eb h2<|ep (rfl:(9:Int)=(9:Int))<|ep (rfl:(1:Int)=(1:Int))<|ep (show(1:Nat)<=9 from by decide)<|ep hs<|eg (G.cut 1 9 [])<|ec (qP ((aa b).1.extract 1 9) h4 (k+5))<|ep (rfl:(0:Int)=(0:Int))<|ep h3<|eg (G.i7 0 (aq (aa b).1 0))<|ep (rfl:(aa b).1.size=(aa b).1.size)<|ep (rfl:(9:Int)=(9:Int))<|ep hs<|ep (show ByteArray.size (aa b).1<=(aa b).1.size from by omega)<|eg (G.cut 9 ((aa b).1.size) [])<|eb h5<|ec (fE (wrap .i64 (↑(UInt8.toNat (aq (aa b).1 0)):Int)) (k+6))<|eo h6<|ef<|ec (iB ((Pk.mk (wrap .i64 (↑(UInt8.toNat (aq (aa b).1 0)):Int)) (gO ((aa b).1.extract 1 9).data.toList) fG 0 ((aa b).1.extract 9 ((aa b).1.size)))) (k+1))<|iA z0<|ec (l_ ((Pk.mk (wrap .i64 (↑(UInt8.toNat (aq (aa b).1 0)):Int)) (gO ((aa b).1.extract 1 9).data.toList) fG 0 ((aa b).1.extract 9 ((aa b).1.size)))) (show ByteArray.size ((aa b).1.extract (9:Nat) ((aa b).1.size))<=1000000 from by first|omega|(simp only[vu] at*;omega)) k)<|ez z0<|en z1<|e0) (by simp only[cK,lK,qF,fQ,h1,h2,h5,h6,z0,z1,vq]<;>rfl)
 ·exact rt (ec (kW b (show b.size<=1000000 from by omega) (k+2))<|en h1<|eb h2<|ep (rfl:(9:Int)=(9:Int))<|ep (rfl:(1:Int)=(1:Int))<|ep (show(1:Nat)<=9 from by decide)<|ep hs<|eg (G.cut 1 9 [])<|ec (qP ((aa b).1.extract 1 9) h4 (k+5))<|ep (rfl:(0:Int)=(0:Int))<|ep h3<|eg (G.i7 0 (aq (aa b).1 0))<|ep (rfl:(aa b).1.size=(aa b).1.size)<|ep (rfl:(9:Int)=(9:Int))<|ep hs<|ep (show ByteArray.size (aa b).1<=(aa b).1.size from by omega)<|eg (G.cut 9 ((aa b).1.size) [])<|eb h5<|ec (fE (wrap .i64 (↑(UInt8.toNat (aq (aa b).1 0)):Int)) (k+6))<|eo h6<|ef<|ec (iB ((Pk.mk (wrap .i64 (↑(UInt8.toNat (aq (aa b).1 0)):Int)) (gO ((aa b).1.extract 1 9).data.toList) fG 0 ((aa b).1.extract 9 ((aa b).1.size)))) (k+1))<|CD z0<|et<|e0) (by simp only[cK,lK,qF,fQ,h1,h2,h5,h6,z0,vq]<;>rfl)
theorem adI(b:ByteArray)(hb:b.size<=800000)(h1:((aa b).2==0)=true)(h2:decide ((↑((aa b).1.size):Int)<9)=false)(hs:(9:Nat)<=(aa b).1.size)(X1:(aa b).1.size<=800000)(h3:(aa b).1[0]?=some (aq (aa b).1 0))(h4:((aa b).1.extract 1 9).size=8)(h5:(wrap .i64 (↑(UInt8.toNat (aq (aa b).1 0)):Int)==1)=false)(h6:cT (wrap .i64 (↑(UInt8.toNat (aq (aa b).1 0)):Int))=true)(h7:((aa b).1.extract 9 ((aa b).1.size)).size<=800000)(h8:decide ((↑(((aa b).1.extract 9 ((aa b).1.size)).size):Int)>0)=false)(h8r:zx (aa b).1=false)(k:Nat):EO (k+8) 83 [A.c (st b)] []=some ([au.agg ((cK b).1.cs),au.c (ii (cK b).2)],[]):=by
 rcases be (cN (Pk.mk (wrap .i64 (↑(UInt8.toNat (aq (aa b).1 0)):Int)) (gO ((aa b).1.extract 1 9).data.toList) fG 0 ((aa b).1.extract 9 ((aa b).1.size)))) with z0|z0
 ·rcases be (dy (Pk.mk (wrap .i64 (↑(UInt8.toNat (aq (aa b).1 0)):Int)) (gO ((aa b).1.extract 1 9).data.toList) fG 0 ((aa b).1.extract 9 ((aa b).1.size)))==(aa b).1) with z1|z1
  ·exact rt (ec (kW b (show b.size<=1000000 from by omega) (k+2))<|en h1<|eb h2<|ep (rfl:(9:Int)=(9:Int))<|ep (rfl:(1:Int)=(1:Int))<|ep (show(1:Nat)<=9 from by decide)<|ep hs<|eg (G.cut 1 9 [])<|ec (qP ((aa b).1.extract 1 9) h4 (k+5))<|ep (rfl:(0:Int)=(0:Int))<|ep h3<|eg (G.i7 0 (aq (aa b).1 0))<|ep (rfl:(aa b).1.size=(aa b).1.size)<|ep (rfl:(9:Int)=(9:Int))<|ep hs<|ep (show ByteArray.size (aa b).1<=(aa b).1.size from by omega)<|eg (G.cut 9 ((aa b).1.size) [])<|eb h5<|ec (fE (wrap .i64 (↑(UInt8.toNat (aq (aa b).1 0)):Int)) (k+6))<|eo h6<|eb h8<|ec (iB ((Pk.mk (wrap .i64 (↑(UInt8.toNat (aq (aa b).1 0)):Int)) (gO ((aa b).1.extract 1 9).data.toList) fG 0 ((aa b).1.extract 9 ((aa b).1.size)))) (k+1))<|iA z0<|ec (l_ ((Pk.mk (wrap .i64 (↑(UInt8.toNat (aq (aa b).1 0)):Int)) (gO ((aa b).1.extract 1 9).data.toList) fG 0 ((aa b).1.extract 9 ((aa b).1.size)))) (show ByteArray.size ((aa b).1.extract (9:Nat) ((aa b).1.size))<=1000000 from by first|omega|(simp only[vu] at*;omega)) k)<|ez z0<|en z1<|e0) (by simp only[cK,lK,qF,fQ,h1,h2,h5,h6,h8r,z0,z1,vq]<;>rfl)
  ·exact rt (ec (kW b (show b.size<=1000000 from by omega) (k+2))<|en h1<|eb h2<|ep (rfl:(9:Int)=(9:Int))<|ep (rfl:(1:Int)=(1:Int))<|ep (show(1:Nat)<=9 from by decide)<|ep hs<|eg (G.cut 1 9 [])<|ec (qP ((aa b).1.extract 1 9) h4 (k+5))<|ep (rfl:(0:Int)=(0:Int))<|ep h3<|eg (G.i7 0 (aq (aa b).1 0))<|ep (rfl:(aa b).1.size=(aa b).1.size)<|ep (rfl:(9:Int)=(9:Int))<|ep hs<|ep (show ByteArray.size (aa b).1<=(aa b).1.size from by omega)<|eg (G.cut 9 ((aa b).1.size) [])<|eb h5<|ec (fE (wrap .i64 (↑(UInt8.toNat (aq (aa b).1 0)):Int)) (k+6))<|eo h6<|eb h8<|ec (iB ((Pk.mk (wrap .i64 (↑(UInt8.toNat (aq (aa b).1 0)):Int)) (gO ((aa b).1.extract 1 9).data.toList) fG 0 ((aa b).1.extract 9 ((aa b).1.size)))) (k+1))<|iA z0<|ec (l_ ((Pk.mk (wrap .i64 (↑(UInt8.toNat (aq (aa b).1 0)):Int)) (gO ((aa b).1.extract 1 9).data.toList) fG 0 ((aa b).1.extract 9 ((aa b).1.size)))) (show ByteArray.size ((aa b).1.extract (9:Nat) ((aa b).1.size))<=1000000 from by first|omega|(simp only[vu] at*;omega)) k)<|ez z0<|en z1<|e0) (by simp only[cK,lK,qF,fQ,h1,h2,h5,h6,h8r,z0,z1,vq]<;>rfl)
 ·exact rt (ec (kW b (show b.size<=1000000 from by omega) (k+2))<|en h1<|eb h2<|ep (rfl:(9:Int)=(9:Int))<|ep (rfl:(1:Int)=(1:Int))<|ep (show(1:Nat)<=9 from by decide)<|ep hs<|eg (G.cut 1 9 [])<|ec (qP ((aa b).1.extract 1 9) h4 (k+5))<|ep (rfl:(0:Int)=(0:Int))<|ep h3<|eg (G.i7 0 (aq (aa b).1 0))<|ep (rfl:(aa b).1.size=(aa b).1.size)<|ep (rfl:(9:Int)=(9:Int))<|ep hs<|ep (show ByteArray.size (aa b).1<=(aa b).1.size from by omega)<|eg (G.cut 9 ((aa b).1.size) [])<|eb h5<|ec (fE (wrap .i64 (↑(UInt8.toNat (aq (aa b).1 0)):Int)) (k+6))<|eo h6<|eb h8<|ec (iB ((Pk.mk (wrap .i64 (↑(UInt8.toNat (aq (aa b).1 0)):Int)) (gO ((aa b).1.extract 1 9).data.toList) fG 0 ((aa b).1.extract 9 ((aa b).1.size)))) (k+1))<|CD z0<|et<|e0) (by simp only[cK,lK,qF,fQ,h1,h2,h5,h6,h8r,z0,vq]<;>rfl)
theorem adK(b:ByteArray)(hb:b.size<=800000)(h1:((aa b).2==0)=true)(h2:decide ((↑((aa b).1.size):Int)<9)=false)(hs:(9:Nat)<=(aa b).1.size)(X1:(aa b).1.size<=800000)(h3:(aa b).1[0]?=some (aq (aa b).1 0))(h4:((aa b).1.extract 1 9).size=8)(h5:(wrap .i64 (↑(UInt8.toNat (aq (aa b).1 0)):Int)==1)=false)(h6:cT (wrap .i64 (↑(UInt8.toNat (aq (aa b).1 0)):Int))=true)(h7:((aa b).1.extract 9 ((aa b).1.size)).size<=800000)(h8:decide ((↑(((aa b).1.extract 9 ((aa b).1.size)).size):Int)>0)=true)(h8r:zx (aa b).1=true)(h9:((aa b).1.extract 9 ((aa b).1.size))[0]?=some (aq ((aa b).1.extract 9 ((aa b).1.size)) 0))(WE:(1:Nat)<=((aa b).1.extract 9 ((aa b).1.size)).size)(h11:(ByteArray.extract ((aa b).1.extract 9 ((aa b).1.size)) 1 (((aa b).1.extract 9 ((aa b).1.size)).size)).size<=800000)(k:Nat):EO (k+8) 83 [A.c (st b)] []=some ([au.agg ((cK b).1.cs),au.c (ii (cK b).2)],[]):=by
 rcases be (cN (Pk.mk (wrap .i64 (↑(UInt8.toNat (aq (aa b).1 0)):Int)) (gO ((aa b).1.extract 1 9).data.toList) fG (wrap .i64 (↑(UInt8.toNat (aq ((aa b).1.extract 9 ((aa b).1.size)) 0)):Int)) (ByteArray.extract ((aa b).1.extract 9 ((aa b).1.size)) 1 (((aa b).1.extract 9 ((aa b).1.size)).size)))) with z0|z0
 ·rcases be (dy (Pk.mk (wrap .i64 (↑(UInt8.toNat (aq (aa b).1 0)):Int)) (gO ((aa b).1.extract 1 9).data.toList) fG (wrap .i64 (↑(UInt8.toNat (aq ((aa b).1.extract 9 ((aa b).1.size)) 0)):Int)) (ByteArray.extract ((aa b).1.extract 9 ((aa b).1.size)) 1 (((aa b).1.extract 9 ((aa b).1.size)).size)))==(aa b).1) with z1|z1
  ·exact rt (ec (kW b (show b.size<=1000000 from by omega) (k+2))<|en h1<|eb h2<|ep (rfl:(9:Int)=(9:Int))<|ep (rfl:(1:Int)=(1:Int))<|ep (show(1:Nat)<=9 from by decide)<|ep hs<|eg (G.cut 1 9 [])<|ec (qP ((aa b).1.extract 1 9) h4 (k+5))<|ep (rfl:(0:Int)=(0:Int))<|ep h3<|eg (G.i7 0 (aq (aa b).1 0))<|ep (rfl:(aa b).1.size=(aa b).1.size)<|ep (rfl:(9:Int)=(9:Int))<|ep hs<|ep (show ByteArray.size (aa b).1<=(aa b).1.size from by omega)<|eg (G.cut 9 ((aa b).1.size) [])<|eb h5<|ec (fE (wrap .i64 (↑(UInt8.toNat (aq (aa b).1 0)):Int)) (k+6))<|eo h6<|eb h8<|ep (rfl:(0:Int)=(0:Int))<|ep h9<|eg (G.i7 0 (aq ((aa b).1.extract 9 ((aa b).1.size)) 0))<|ep (rfl:((aa b).1.extract (9:Nat) ((aa b).1.size)).size=((aa b).1.extract (9:Nat) ((aa b).1.size)).size)<|ep (rfl:(1:Int)=(1:Int))<|ep WE<|ep (show ByteArray.size ((aa b).1.extract (9:Nat) ((aa b).1.size))<=((aa b).1.extract (9:Nat) ((aa b).1.size)).size from by first|omega|(simp only[vu] at*;omega))<|eg (G.cut 1 (((aa b).1.extract 9 ((aa b).1.size)).size) [])<|ec (iB ((Pk.mk (wrap .i64 (↑(UInt8.toNat (aq (aa b).1 0)):Int)) (gO ((aa b).1.extract 1 9).data.toList) fG (wrap .i64 (↑(UInt8.toNat (aq ((aa b).1.extract 9 ((aa b).1.size)) 0)):Int)) (ByteArray.extract ((aa b).1.extract 9 ((aa b).1.size)) 1 (((aa b).1.extract 9 ((aa b).1.size)).size)))) (k+1))<|iA z0<|ec (l_ ((Pk.mk (wrap .i64 (↑(UInt8.toNat (aq (aa b).1 0)):Int)) (gO ((aa b).1.extract 1 9).data.toList) fG (wrap .i64 (↑(UInt8.toNat (aq ((aa b).1.extract 9 ((aa b).1.size)) 0)):Int)) (ByteArray.extract ((aa b).1.extract 9 ((aa b).1.size)) 1 (((aa b).1.extract 9 ((aa b).1.size)).size)))) (show ByteArray.size (ByteArray.extract ((aa b).1.extract (9:Nat) ((aa b).1.size)) (1:Nat) (((aa b).1.extract (9:Nat) ((aa b).1.size)).size))<=1000000 from by first|omega|(simp only[vu] at*;omega)) k)<|ez z0<|en z1<|e0) (by simp only[cK,lK,qF,fQ,h1,h2,h5,h6,h8r,z0,z1,vq]<;>rfl)
  ·exact rt (ec (kW b (show b.size<=1000000 from by omega) (k+2))<|en h1<|eb h2<|ep (rfl:(9:Int)=(9:Int))<|ep (rfl:(1:Int)=(1:Int))<|ep (show(1:Nat)<=9 from by decide)<|ep hs<|eg (G.cut 1 9 [])<|ec (qP ((aa b).1.extract 1 9) h4 (k+5))<|ep (rfl:(0:Int)=(0:Int))<|ep h3<|eg (G.i7 0 (aq (aa b).1 0))<|ep (rfl:(aa b).1.size=(aa b).1.size)<|ep (rfl:(9:Int)=(9:Int))<|ep hs<|ep (show ByteArray.size (aa b).1<=(aa b).1.size from by omega)<|eg (G.cut 9 ((aa b).1.size) [])<|eb h5<|ec (fE (wrap .i64 (↑(UInt8.toNat (aq (aa b).1 0)):Int)) (k+6))<|eo h6<|eb h8<|ep (rfl:(0:Int)=(0:Int))<|ep h9<|eg (G.i7 0 (aq ((aa b).1.extract 9 ((aa b).1.size)) 0))<|ep (rfl:((aa b).1.extract (9:Nat) ((aa b).1.size)).size=((aa b).1.extract (9:Nat) ((aa b).1.size)).size)<|ep (rfl:(1:Int)=(1:Int))<|ep WE<|ep (show ByteArray.size ((aa b).1.extract (9:Nat) ((aa b).1.size))<=((aa b).1.extract (9:Nat) ((aa b).1.size)).size from by first|omega|(simp only[vu] at*;omega))<|eg (G.cut 1 (((aa b).1.extract 9 ((aa b).1.size)).size) [])<|ec (iB ((Pk.mk (wrap .i64 (↑(UInt8.toNat (aq (aa b).1 0)):Int)) (gO ((aa b).1.extract 1 9).data.toList) fG (wrap .i64 (↑(UInt8.toNat (aq ((aa b).1.extract 9 ((aa b).1.size)) 0)):Int)) (ByteArray.extract ((aa b).1.extract 9 ((aa b).1.size)) 1 (((aa b).1.extract 9 ((aa b).1.size)).size)))) (k+1))<|iA z0<|ec (l_ ((Pk.mk (wrap .i64 (↑(UInt8.toNat (aq (aa b).1 0)):Int)) (gO ((aa b).1.extract 1 9).data.toList) fG (wrap .i64 (↑(UInt8.toNat (aq ((aa b).1.extract 9 ((aa b).1.size)) 0)):Int)) (ByteArray.extract ((aa b).1.extract 9 ((aa b).1.size)) 1 (((aa b).1.extract 9 ((aa b).1.size)).size)))) (show ByteArray.size (ByteArray.extract ((aa b).1.extract (9:Nat) ((aa b).1.size)) (1:Nat) (((aa b).1.extract (9:Nat) ((aa b).1.size)).size))<=1000000 from by first|omega|(simp only[vu] at*;omega)) k)<|ez z0<|en z1<|e0) (by simp only[cK,lK,qF,fQ,h1,h2,h5,h6,h8r,z0,z1,vq]<;>rfl)
 ·exact rt (ec (kW b (show b.size<=1000000 from by omega) (k+2))<|en h1<|eb h2<|ep (rfl:(9:Int)=(9:Int))<|ep (rfl:(1:Int)=(1:Int))<|ep (show(1:Nat)<=9 from by decide)<|ep hs<|eg (G.cut 1 9 [])<|ec (qP ((aa b).1.extract 1 9) h4 (k+5))<|ep (rfl:(0:Int)=(0:Int))<|ep h3<|eg (G.i7 0 (aq (aa b).1 0))<|ep (rfl:(aa b).1.size=(aa b).1.size)<|ep (rfl:(9:Int)=(9:Int))<|ep hs<|ep (show ByteArray.size (aa b).1<=(aa b).1.size from by omega)<|eg (G.cut 9 ((aa b).1.size) [])<|eb h5<|ec (fE (wrap .i64 (↑(UInt8.toNat (aq (aa b).1 0)):Int)) (k+6))<|eo h6<|eb h8<|ep (rfl:(0:Int)=(0:Int))<|ep h9<|eg (G.i7 0 (aq ((aa b).1.extract 9 ((aa b).1.size)) 0))<|ep (rfl:((aa b).1.extract (9:Nat) ((aa b).1.size)).size=((aa b).1.extract (9:Nat) ((aa b).1.size)).size)<|ep (rfl:(1:Int)=(1:Int))<|ep WE<|ep (show ByteArray.size ((aa b).1.extract (9:Nat) ((aa b).1.size))<=((aa b).1.extract (9:Nat) ((aa b).1.size)).size from by first|omega|(simp only[vu] at*;omega))<|eg (G.cut 1 (((aa b).1.extract 9 ((aa b).1.size)).size) [])<|ec (iB ((Pk.mk (wrap .i64 (↑(UInt8.toNat (aq (aa b).1 0)):Int)) (gO ((aa b).1.extract 1 9).data.toList) fG (wrap .i64 (↑(UInt8.toNat (aq ((aa b).1.extract 9 ((aa b).1.size)) 0)):Int)) (ByteArray.extract ((aa b).1.extract 9 ((aa b).1.size)) 1 (((aa b).1.extract 9 ((aa b).1.size)).size)))) (k+1))<|CD z0<|et<|e0) (by simp only[cK,lK,qF,fQ,h1,h2,h5,h6,h8r,z0,vq]<;>rfl)
theorem O0(b:ByteArray):(aa b).1.size<=b.size:=by
 unfold aa
 cases decide ((b.size:Int)<4)
 ·cases cA (b.extract 0 (b.size-4))==b
  ·exact dh _
  ·show(b.extract 0 (b.size-4)).size<=_
   rw[uR];omega
 ·exact dh _
theorem JL(b:ByteArray)(hb:b.size<=800000)(k:Nat):EO (k+8) 83 [.c (st b)] []=some ([.agg (cK b).1.cs, .c (ii (cK b).2)],[]):=by
 cases h1:(aa b).2==0 with
 |false=>exact adE b hb h1 k
 |true=>
  cases h2:decide (((aa b).1.size:Int)<9) with
  |true=>exact adF b hb h1 h2 k
  |false=>
   have Yh:=wd h2
   have hs:=O0 b
   have h3:=ov (s:=(aa b).1) (i:=0) (by omega)
   have h4:((aa b).1.extract 1 9).size=8:=by rw[uR];omega
   have h7:((aa b).1.extract 9 (aa b).1.size).size<=800000:=by rw[uR];omega
   cases h5:wrap .i64 ((aq (aa b).1 0).toNat:Int)==1 with
   |true=>exact adG b hb h1 h2 (by omega) (by omega) h3 h4 h5 (by rw[eq_of_beq h5];rfl) k
   |false=>
    cases h6:cT (wrap .i64 ((aq (aa b).1 0).toNat:Int)) with
    |false=>exact adH b hb h1 h2 (by omega) (by omega) h3 h4 h5 h6 h7 k
    |true=>
     cases h8:decide ((((aa b).1.extract 9 (aa b).1.size).size:Int)>0) with
     |false=>exact adI b hb h1 h2 (by omega) (by omega) h3 h4 h5 h6 h7 h8 h8 k
     |true=>
      have h8':=jG h8
      exact adK b hb h1 h2 (by omega) (by omega) h3 h4 h5 h6 h7 h8 h8 (ov (by omega)) (by omega) (by rw[uR];omega) k
theorem je(b:ByteArray)(bd:Int)(hb:b.size<=800000)(k:Nat):EO (k+9) 43 [A.c (st b),A.c (u bd)] []=some ([au.agg ((bw b bd).1.cs),au.c (ii (bw b bd).2)],[]):=by
 rcases be ((cK b).2==0) with z0|z0
 ·rcases be ((cK b).1.bd==bd) with z1|z1
  ·exact rt (ec (JL b hb k)<|en z0<|en z1<|e0) (by simp only[bw,YP,fQ,z0,z1,vq]<;>rfl)
  ·exact rt (ec (JL b hb k)<|en z0<|en z1<|e0) (by simp only[bw,YP,fQ,z0,z1,vq]<;>rfl)
 ·exact rt (ec (JL b hb k)<|en z0<|e0) (by simp only[bw,YP,fQ,z0,vq]<;>rfl)
theorem QV(l:Lk)(k:Nat):EO (k+1) 65 [A.agg l.cs] []=some ([au.agg ((fU l).cs)],[]):=by
 exact rt (e0) (by simp only[fU,vq]<;>rfl)
theorem My(l:Lk)(k:Nat):EO (k+1) 67 [A.agg l.cs] []=some ([au.agg ((cO l).cs)],[]):=by
 exact rt (e0) (by simp only[cO,vq]<;>rfl)
theorem ZO(l:Lk)(to:Int)(ps:List ByteArray)(h0:l.lI.length+ps.length<=1000000)(h1:l.lJ.length+ps.length<=1000000)(k:Nat):EO (k+1) 84 [A.agg l.cs,A.c (ii to),A.c (sS ps)] []=some ([au.agg ((dQ l to ps).1.cs),au.c (ii (dQ l to ps).2)],[]):=by
 rcases be (to==0) with z0|z0
 ·rcases be l.up with z1|z1
  ·exact rt (ez z0<|ef<|en z1<|ep (eq_of_beq z0)<|eg (G.at 0)<|ep (eF (List.map eS l.lI))<|ep (bz (eS) (l:=l.lI) (n:=1073741824) (by omega))<|eg (G.app (List.map eS l.lI))<|ep (dH (eS) l.lI (ps))<|ep (bz (eS) (l:=l.lI++ps) (n:=1073741824) (by simp only[vr];omega))<|ep (eN ((List.map eS l.lI).length))<|eg (G.app (List.map eS (l.lI++ps)))<|ep (eq_of_beq z0)<|eg (G.at 0)<|e0) (rs:=[au.agg (({l with lI:=l.lI++ps}:Lk).cs),au.c (ii 0)]) (by simp only[dQ,z0,z1,vq]<;>rfl)
  ·exact rt (ez z0<|ef<|en z1<|e0) (rs:=[au.agg l.cs,au.c (ii 7)]) (by simp only[dQ,z0,z1,vq]<;>rfl)
 ·rcases be (to==1) with z1|z1
  ·rcases be l.up with z2|z2
   ·exact rt (ez z0<|en z1<|en z2<|ep (eq_of_beq z1)<|eg (G.at 1)<|ep (eF (List.map eS l.lJ))<|ep (bz (eS) (l:=l.lJ) (n:=1073741824) (by omega))<|eg (G.app (List.map eS l.lJ))<|ep (dH (eS) l.lJ (ps))<|ep (bz (eS) (l:=l.lJ++ps) (n:=1073741824) (by simp only[vr];omega))<|ep (eN ((List.map eS l.lJ).length))<|eg (G.app (List.map eS (l.lJ++ps)))<|ep (eq_of_beq z1)<|eg (G.at 1)<|e0) (rs:=[au.agg (({l with lJ:=l.lJ++ps}:Lk).cs),au.c (ii 0)]) (by simp only[dQ,z0,z1,z2,vq]<;>rfl)
   ·exact rt (ez z0<|en z1<|en z2<|e0) (rs:=[au.agg l.cs,au.c (ii 7)]) (by simp only[dQ,z0,z1,z2,vq]<;>rfl)
  ·exact rt (ez z0<|en z1<|e0) (rs:=[au.agg l.cs,au.c (ii 1)]) (by simp only[dQ,z0,z1,vq]<;>rfl)
theorem ahS(l:Lk)(he:l.lI=[])(k:Nat):EO (k+2) 37 [A.agg [bo l.up,u l.bd,C.slice 1 [],C.slice 1 (strs l.lJ)],A.c (ii 0)] []=some ([au.c (st ByteArray.empty),au.agg [bo l.up,u l.bd,C.slice 1 [],C.slice 1 (strs l.lJ)],au.c (bo false)],[]):=by
 exact rt (fP<|mw<|cP<|mw<|ep (rfl:(0:Nat)=(0:Nat))<|eg (G.len 0)<|mw<|et<|e0) rfl
theorem ahT(l:Lk)(he:l.lJ=[])(k:Nat):EO (k+2) 37 [A.agg [bo l.up,u l.bd,C.slice 1 (strs l.lI),C.slice 1 []],A.c (ii 1)] []=some ([au.c (st ByteArray.empty),au.agg [bo l.up,u l.bd,C.slice 1 (strs l.lI),C.slice 1 []],au.c (bo false)],[]):=by
 exact rt (mc<|Cg<|cQ<|mw<|ep (rfl:(0:Nat)=(0:Nat))<|eg (G.len 0)<|mw<|et<|e0) rfl
theorem ahU(l:Lk)(x:ByteArray)(r:List ByteArray)(hr:r.length<=1000000)(k:Nat):EO (k+2) 37 [A.agg [bo l.up,u l.bd,C.slice 1 (strs (x::r)),C.slice 1 (strs l.lJ)],A.c (ii 0)] []=some ([au.c (st x),au.agg [bo l.up,u l.bd,C.slice 1 (strs r),C.slice 1 (strs l.lJ)],au.c (bo true)],[]):=by
 exact rt (fP<|mw<|cP<|mw<|ep (aG (eS) (x::r))<|eg (G.len ((x::r).length))<|lE<|cP<|ep (rfl:(0:Int)=(0:Int))<|ep (aT (f:=eS) (l:=x::r) (i:=0) (x:=x) rfl)<|eg (G.fF 0 [st x])<|cP<|ep (aG (eS) (x::r)).symm<|ep (rfl:(1:Int)=(1:Int))<|ep (show(1:Nat)<=(x::r).length from by simp only[vr];omega)<|ep (qZ (aG (eS) (x::r)).symm)<|ep (zq (eS) (x::r) 1)<|eg (G.cut 1 ((x::r).length) (List.map eS r))<|ep (eF (List.map eS r))<|ep (bz (eS) (l:=r) (n:=1073741824) (by omega))<|eg (G.app (List.map eS r))<|cP<|e0) rfl
theorem ahV(l:Lk)(x:ByteArray)(r:List ByteArray)(hr:r.length<=1000000)(k:Nat):EO (k+2) 37 [A.agg [bo l.up,u l.bd,C.slice 1 (strs l.lI),C.slice 1 (strs (x::r))],A.c (ii 1)] []=some ([au.c (st x),au.agg [bo l.up,u l.bd,C.slice 1 (strs l.lI),C.slice 1 (strs r)],au.c (bo true)],[]):=by
 exact rt (mc<|Cg<|cQ<|mw<|ep (aG (eS) (x::r))<|eg (G.len ((x::r).length))<|lE<|cQ<|ep (rfl:(0:Int)=(0:Int))<|ep (aT (f:=eS) (l:=x::r) (i:=0) (x:=x) rfl)<|eg (G.fF 0 [st x])<|cQ<|ep (aG (eS) (x::r)).symm<|ep (rfl:(1:Int)=(1:Int))<|ep (show(1:Nat)<=(x::r).length from by simp only[vr];omega)<|ep (qZ (aG (eS) (x::r)).symm)<|ep (zq (eS) (x::r) 1)<|eg (G.cut 1 ((x::r).length) (List.map eS r))<|ep (eF (List.map eS r))<|ep (bz (eS) (l:=r) (n:=1073741824) (by omega))<|eg (G.app (List.map eS r))<|cQ<|e0) rfl
theorem alW(l:Lk)(to:Int)(t0:(to==0)=false)(t1:(to==1)=false)(k:Nat):EO (k+2) 37 [A.agg l.cs,A.c (ii to)] []=some ([au.c (st ByteArray.empty),au.agg l.cs,au.c (bo false)],[]):=by
 exact rt (ez t0<|md t1<|ez t1<|et<|e0) rfl
theorem HJ(to:Int):to=0\/to=1\/((to==0)=false/\(to==1)=false):=by
 by_cases h0:to=0
 ·exact .inl h0
 ·by_cases h1:to=1
  ·exact .inr (.inl h1)
  ·exact .inr (.inr ⟨jE h0,jE h1⟩)
theorem QW(l:Lk)(to:Int)(h0:l.lI.length<=1000000)(h1:l.lJ.length<=1000000)(k:Nat):EO (k+2) 37 [.agg l.cs, .c (ii to)] []=some ([.c (st (ge l to).1), .agg (ge l to).2.1.cs, .c (bo (ge l to).2.2)],[]):=by
 obtain⟨up,bd,lI,lJ⟩:=l
 rcases HJ to with rfl|rfl|⟨t0,t1⟩
 ·cases lI with
  |nil=>exact ahS ⟨up,bd,[],lJ⟩ rfl k
  |cons x r=>exact ahU ⟨up,bd,[],lJ⟩ x r (by simp at h0;omega) k
 ·cases lJ with
  |nil=>exact ahT ⟨up,bd,lI,[]⟩ rfl k
  |cons x r=>exact ahV ⟨up,bd,lI,[]⟩ x r (by simp at h1;omega) k
 ·have:=alW ⟨up,bd,lI,lJ⟩ to t0 t1 k
  simp only[ge,t0,t1,cond]
  exact this
theorem dZ(k:Nat):EO (k+1) 157 [] []=some ([au.agg bv.cs],[]):=by
 exact rt (e0) (by simp only[bv,vq]<;>rfl)
theorem ej(kd:Int)(iY:Int)(t:He)(k:Nat):EO (k+2) 158 [A.c (ii kd),A.c (ii iY),A.agg t.cs] []=some ([au.agg ((bc kd iY t).cs)],[]):=by
 rcases be t.cH with z0|z0
 ·exact rt (dO z0<|et<|ec (dZ k)<|e0) (by simp only[bc,bv,z0,vq]<;>rfl)
 ·rcases be (kd==4) with z1|z1
  ·exact rt (dO z0<|eb z1<|ec (dZ k)<|e0) (by simp only[bc,bv,z0,z1,vq]<;>rfl)
  ·exact rt (dO z0<|eb z1<|e0) (by simp only[bc,bv,z0,z1,vq]<;>rfl)
theorem v7(s:He)(t:He)(k:Nat):EO (k+2) 159 [A.agg s.cs,A.agg t.cs] []=some ([au.c (ii (jM s t))],[]):=by
 rcases be s.dg with z0|z0
 ·exact rt (eb z0<|e0) (by simp only[jM,z0,vq]<;>rfl)
 ·rcases be (decide (bD s.v t.v.i4>=0)) with z1|z1
  ·exact rt (eb z0<|ec (cL s.v t.v.i4 k)<|eb z1<|e0) (by simp only[jM,z0,z1,vq]<;>rfl)
  ·rcases be t.dg with z2|z2
   ·exact rt (eb z0<|ec (cL s.v t.v.i4 k)<|eb z1<|eb z2<|e0) (by simp only[jM,z0,z1,z2,vq]<;>rfl)
   ·rcases be (decide (bD s.v t.v.bH<0)) with z3|z3
    ·exact rt (eb z0<|ec (cL s.v t.v.i4 k)<|eb z1<|eb z2<|ec (cL s.v t.v.bH k)<|eb z3<|e0) (by simp only[jM,z0,z1,z2,z3,vq]<;>rfl)
    ·rcases be (decide (bD s.v t.v.bH<=1)) with z4|z4
     ·exact rt (eb z0<|ec (cL s.v t.v.i4 k)<|eb z1<|eb z2<|ec (cL s.v t.v.bH k)<|eb z3<|eb z4<|e0) (by simp only[jM,z0,z1,z2,z3,z4,vq]<;>rfl)
     ·exact rt (eb z0<|ec (cL s.v t.v.i4 k)<|eb z1<|eb z2<|ec (cL s.v t.v.bH k)<|eb z3<|eb z4<|e0) (by simp only[jM,z0,z1,z2,z3,z4,vq]<;>rfl)
theorem Ai(v:Ve)(g:Int):bD v g= -1\/bD v g=((0:Nat):Int)\/bD v g=((1:Nat):Int)\/bD v g=((2:Nat):Int)\/bD v g=((3:Nat):Int):=by
 unfold bD
 cases g==0<;>cases v.bH==g<;>cases v.i4==g<;>cases v.o0==g<;>cases v.o1==g<;>simp
theorem alX(x:He)(y:He)(c0:(x.an==y.an)=false)(k:Nat):EO (k+4) 134 [A.agg x.cs,A.agg y.cs] []=some ([au.agg ((aI x y).cs)],[]):=by
 exact rt (CD c0<|k_<|RD<|ec (dZ (k+2))<|e0) (by simp only[aI,bc,bv,c0,vq]<;>rfl)
theorem alY(x:He)(y:He)(c0:(x.an==y.an)=true)(c1:x.bp=true)(k:Nat):EO (k+4) 134 [A.agg x.cs,A.agg y.cs] []=some ([au.agg ((aI x y).cs)],[]):=by
 rcases be x.cH with z0|z0
 ·rcases be y.cH with z1|z1
  ·exact rt (ez c0<|ci z0<|en c0<|eb z0<|en c0<|sy z1<|k_<|ec (dZ (k+2))<|e0) (rs:=[au.agg ((Vd.mk 4 ((-1:Int))).cs)]) (by simp only[aI,bc,bv,c0,c1,z0,z1,vq]<;>rfl)
  ·rcases be y.bp with z2|z2
   ·exact rt (ez c0<|ci z0<|en c0<|eb z0<|en c0<|dO z1<|ci c1<|eb z1<|eb c1<|eb z1<|sy z2<|et<|ec (dZ (k+2))<|e0) (rs:=[au.agg ((Vd.mk 4 ((-1:Int))).cs)]) (by simp only[aI,bc,bv,c0,c1,z0,z1,z2,vq]<;>rfl)
   ·rcases be x.dg with z3|z3
    ·rcases be y.dg with z4|z4
     ·exact rt (ez c0<|ci z0<|en c0<|eb z0<|en c0<|dO z1<|ci c1<|eb z1<|eb c1<|eb z1<|dO z2<|ci z3<|eb z2<|eb z3<|eb z2<|eb z4<|ec (dZ (k+2))<|e0) (rs:=[au.agg ((Vd.mk 4 ((-1:Int))).cs)]) (by simp only[aI,bc,bv,c0,c1,z0,z1,z2,z3,z4,vq]<;>rfl)
     ·exact rt (ez c0<|ci z0<|en c0<|eb z0<|en c0<|dO z1<|ci c1<|eb z1<|eb c1<|eb z1<|dO z2<|ci z3<|eb z2<|eb z3<|eb z2<|eb z4<|eb c1<|ec (v7 y x (k+1))<|ec (ej (jM y x) 1 x (k+1))<|e0) (rs:=[au.agg ((bc (jM y x) 1 x).cs)]) (by simp only[aI,bc,bv,c0,c1,z0,z1,z2,z3,z4,vq]<;>rfl)
    ·exact rt (ez c0<|ci z0<|en c0<|eb z0<|en c0<|dO z1<|ci c1<|eb z1<|eb c1<|eb z1<|dO z2<|ci z3<|eb z2<|eb z3<|eb z2<|ef<|eb c1<|ec (v7 y x (k+1))<|ec (ej (jM y x) 1 x (k+1))<|e0) (rs:=[au.agg ((bc (jM y x) 1 x).cs)]) (by simp only[aI,bc,bv,c0,c1,z0,z1,z2,z3,vq]<;>rfl)
 ·rcases be y.bp with z1|z1
  ·exact rt (ez c0<|ci z0<|en c0<|eb z0<|en c0<|lE<|ci c1<|ef<|eb c1<|ef<|sy z1<|et<|ec (dZ (k+2))<|e0) (rs:=[au.agg ((Vd.mk 4 ((-1:Int))).cs)]) (by simp only[aI,bc,bv,c0,c1,z0,z1,vq]<;>rfl)
  ·rcases be x.dg with z2|z2
   ·rcases be y.dg with z3|z3
    ·exact rt (ez c0<|ci z0<|en c0<|eb z0<|en c0<|lE<|ci c1<|ef<|eb c1<|ef<|dO z1<|ci z2<|eb z1<|eb z2<|eb z1<|eb z3<|ec (dZ (k+2))<|e0) (rs:=[au.agg ((Vd.mk 4 ((-1:Int))).cs)]) (by simp only[aI,bc,bv,c0,c1,z0,z1,z2,z3,vq]<;>rfl)
    ·exact rt (ez c0<|ci z0<|en c0<|eb z0<|en c0<|lE<|ci c1<|ef<|eb c1<|ef<|dO z1<|ci z2<|eb z1<|eb z2<|eb z1<|eb z3<|eb c1<|ec (v7 y x (k+1))<|ec (ej (jM y x) 1 x (k+1))<|e0) (rs:=[au.agg ((bc (jM y x) 1 x).cs)]) (by simp only[aI,bc,bv,c0,c1,z0,z1,z2,z3,vq]<;>rfl)
   ·exact rt (ez c0<|ci z0<|en c0<|eb z0<|en c0<|lE<|ci c1<|ef<|eb c1<|ef<|dO z1<|ci z2<|eb z1<|eb z2<|eb z1<|ef<|eb c1<|ec (v7 y x (k+1))<|ec (ej (jM y x) 1 x (k+1))<|e0) (rs:=[au.agg ((bc (jM y x) 1 x).cs)]) (by simp only[aI,bc,bv,c0,c1,z0,z1,z2,vq]<;>rfl)
theorem alZ(x:He)(y:He)(c0:(x.an==y.an)=true)(c1:x.bp=false)(c2:y.bp=true)(k:Nat):EO (k+4) 134 [A.agg x.cs,A.agg y.cs] []=some ([au.agg ((aI x y).cs)],[]):=by
 rcases be x.cH with z0|z0
 ·rcases be y.cH with z1|z1
  ·exact rt (ez c0<|ci z0<|en c0<|eb z0<|en c0<|sy z1<|k_<|ec (dZ (k+2))<|e0) (rs:=[au.agg ((Vd.mk 4 ((-1:Int))).cs)]) (by simp only[aI,bc,bv,c0,c1,c2,z0,z1,vq]<;>rfl)
  ·rcases be x.dg with z2|z2
   ·rcases be y.dg with z3|z3
    ·exact rt (ez c0<|ci z0<|en c0<|eb z0<|en c0<|dO z1<|ci c1<|eb z1<|eb c1<|eb z1<|lE<|ci z2<|ef<|eb z2<|ef<|eb z3<|ec (dZ (k+2))<|e0) (rs:=[au.agg ((Vd.mk 4 ((-1:Int))).cs)]) (by simp only[aI,bc,bv,c0,c1,c2,z0,z1,z2,z3,vq]<;>rfl)
    ·exact rt (ez c0<|ci z0<|en c0<|eb z0<|en c0<|dO z1<|ci c1<|eb z1<|eb c1<|eb z1<|lE<|ci z2<|ef<|eb z2<|ef<|eb z3<|eb c1<|eb c2<|ec (v7 x y (k+1))<|ec (ej (jM x y) 0 y (k+1))<|e0) (rs:=[au.agg ((bc (jM x y) 0 y).cs)]) (by simp only[aI,bc,bv,c0,c1,c2,z0,z1,z2,z3,vq]<;>rfl)
   ·exact rt (ez c0<|ci z0<|en c0<|eb z0<|en c0<|dO z1<|ci c1<|eb z1<|eb c1<|eb z1<|lE<|ci z2<|ef<|eb z2<|mw<|eb c1<|eb c2<|ec (v7 x y (k+1))<|ec (ej (jM x y) 0 y (k+1))<|e0) (rs:=[au.agg ((bc (jM x y) 0 y).cs)]) (by simp only[aI,bc,bv,c0,c1,c2,z0,z1,z2,vq]<;>rfl)
 ·rcases be x.dg with z1|z1
  ·rcases be y.dg with z2|z2
   ·exact rt (ez c0<|ci z0<|en c0<|eb z0<|en c0<|lE<|ci c1<|ef<|eb c1<|kT<|ci z1<|ef<|eb z1<|ef<|eb z2<|ec (dZ (k+2))<|e0) (rs:=[au.agg ((Vd.mk 4 ((-1:Int))).cs)]) (by simp only[aI,bc,bv,c0,c1,c2,z0,z1,z2,vq]<;>rfl)
   ·exact rt (ez c0<|ci z0<|en c0<|eb z0<|en c0<|lE<|ci c1<|ef<|eb c1<|kT<|ci z1<|ef<|eb z1<|ef<|eb z2<|eb c1<|eb c2<|ec (v7 x y (k+1))<|ec (ej (jM x y) 0 y (k+1))<|e0) (rs:=[au.agg ((bc (jM x y) 0 y).cs)]) (by simp only[aI,bc,bv,c0,c1,c2,z0,z1,z2,vq]<;>rfl)
  ·exact rt (ez c0<|ci z0<|en c0<|eb z0<|en c0<|lE<|ci c1<|ef<|eb c1<|kT<|ci z1<|ef<|eb z1<|mw<|eb c1<|eb c2<|ec (v7 x y (k+1))<|ec (ej (jM x y) 0 y (k+1))<|e0) (rs:=[au.agg ((bc (jM x y) 0 y).cs)]) (by simp only[aI,bc,bv,c0,c1,c2,z0,z1,vq]<;>rfl)
theorem al0(x:He)(y:He)(c0:(x.an==y.an)=true)(c1:x.bp=false)(c2:y.bp=false)(c3:x.dg=true)(k:Nat):EO (k+4) 134 [A.agg x.cs,A.agg y.cs] []=some ([au.agg ((aI x y).cs)],[]):=by
 rcases be x.cH with z0|z0
 ·rcases be y.cH with z1|z1
  ·exact rt (ez c0<|ci z0<|en c0<|eb z0<|en c0<|sy z1<|k_<|ec (dZ (k+2))<|e0) (rs:=[au.agg ((Vd.mk 4 ((-1:Int))).cs)]) (by simp only[aI,bc,bv,c0,c1,c2,c3,z0,z1,vq]<;>rfl)
  ·rcases be y.dg with z2|z2
   ·exact rt (ez c0<|ci z0<|en c0<|eb z0<|en c0<|dO z1<|ci c1<|eb z1<|eb c1<|eb z1<|lE<|ci c3<|ef<|eb c3<|ef<|eb z2<|ec (dZ (k+2))<|e0) (rs:=[au.agg ((Vd.mk 4 ((-1:Int))).cs)]) (by simp only[aI,bc,bv,c0,c1,c2,c3,z0,z1,z2,vq]<;>rfl)
   ·exact rt (ez c0<|ci z0<|en c0<|eb z0<|en c0<|dO z1<|ci c1<|eb z1<|eb c1<|eb z1<|lE<|ci c3<|ef<|eb c3<|ef<|eb z2<|eb c1<|eb c2<|eb c3<|ec (ej 3 1 x (k+1))<|e0) (rs:=[au.agg ((bc 3 1 x).cs)]) (by simp only[aI,bc,bv,c0,c1,c2,c3,z0,z1,z2,vq]<;>rfl)
 ·rcases be y.dg with z1|z1
  ·exact rt (ez c0<|ci z0<|en c0<|eb z0<|en c0<|lE<|ci c1<|ef<|eb c1<|kT<|ci c3<|ef<|eb c3<|ef<|eb z1<|ec (dZ (k+2))<|e0) (rs:=[au.agg ((Vd.mk 4 ((-1:Int))).cs)]) (by simp only[aI,bc,bv,c0,c1,c2,c3,z0,z1,vq]<;>rfl)
  ·exact rt (ez c0<|ci z0<|en c0<|eb z0<|en c0<|lE<|ci c1<|ef<|eb c1<|kT<|ci c3<|ef<|eb c3<|ef<|eb z1<|eb c1<|eb c2<|eb c3<|ec (ej 3 1 x (k+1))<|e0) (rs:=[au.agg ((bc 3 1 x).cs)]) (by simp only[aI,bc,bv,c0,c1,c2,c3,z0,z1,vq]<;>rfl)
theorem al1(x:He)(y:He)(c0:(x.an==y.an)=true)(c1:x.bp=false)(c2:y.bp=false)(c3:x.dg=false)(c4:y.dg=true)(k:Nat):EO (k+4) 134 [A.agg x.cs,A.agg y.cs] []=some ([au.agg ((aI x y).cs)],[]):=by
 rcases be x.cH with z0|z0
 ·rcases be y.cH with z1|z1
  ·exact rt (ez c0<|ci z0<|en c0<|eb z0<|en c0<|sy z1<|k_<|ec (dZ (k+2))<|e0) (rs:=[au.agg ((Vd.mk 4 ((-1:Int))).cs)]) (by simp only[aI,bc,bv,c0,c1,c2,c3,c4,z0,z1,vq]<;>rfl)
  ·exact rt (ez c0<|ci z0<|en c0<|eb z0<|en c0<|dO z1<|ci c1<|eb z1<|eb c1<|eb z1<|lE<|ci c3<|ef<|eb c3<|mw<|eb c1<|eb c2<|eb c3<|eb c4<|ec (ej 3 0 y (k+1))<|e0) (rs:=[au.agg ((bc 3 0 y).cs)]) (by simp only[aI,bc,bv,c0,c1,c2,c3,c4,z0,z1,vq]<;>rfl)
 ·exact rt (ez c0<|ci z0<|en c0<|eb z0<|en c0<|lE<|ci c1<|ef<|eb c1<|kT<|ci c3<|ef<|eb c3<|mw<|eb c1<|eb c2<|eb c3<|eb c4<|ec (ej 3 0 y (k+1))<|e0) (rs:=[au.agg ((bc 3 0 y).cs)]) (by simp only[aI,bc,bv,c0,c1,c2,c3,c4,z0,vq]<;>rfl)
theorem al2(x:He)(y:He)(c0:(x.an==y.an)=true)(c1:x.bp=false)(c2:y.bp=false)(c3:x.dg=false)(c4:y.dg=false)(c5:(x.v.bH==y.v.bH)=true)(k:Nat):EO (k+4) 134 [A.agg x.cs,A.agg y.cs] []=some ([au.agg ((aI x y).cs)],[]):=by
 rcases be x.cH with z0|z0
 ·rcases be y.cH with z1|z1
  ·exact rt (ez c0<|ci z0<|en c0<|eb z0<|en c0<|sy z1<|k_<|ec (dZ (k+2))<|e0) (rs:=[au.agg ((Vd.mk 4 ((-1:Int))).cs)]) (by simp only[aI,bc,bv,c0,c1,c2,c3,c4,c5,z0,z1,vq]<;>rfl)
  ·rcases be (mi x.cr==0) with z2|z2
   ·rcases be (mi y.cr==0) with z3|z3
    ·exact rt (ez c0<|ci z0<|en c0<|eb z0<|en c0<|dO z1<|ci c1<|eb z1<|eb c1<|eb z1<|lE<|ci c3<|ef<|eb c3<|mw<|eb c1<|eb c2<|eb c3<|eb c4<|eb c5<|eo z2<|eb z3<|e0) (rs:=[au.agg ((Vd.mk 1 ((-1:Int))).cs)]) (by simp only[aI,bc,bv,c0,c1,c2,c3,c4,c5,z0,z1,z2,z3,vq]<;>rfl)
    ·exact rt (ez c0<|ci z0<|en c0<|eb z0<|en c0<|dO z1<|ci c1<|eb z1<|eb c1<|eb z1<|lE<|ci c3<|ef<|eb c3<|mw<|eb c1<|eb c2<|eb c3<|eb c4<|eb c5<|eo z2<|eb z3<|eo z1<|iA z0<|eb z1<|en z0<|eb z1<|lE<|eb z1<|ef<|eb z1<|ef<|ec (ej 2 0 y (k+1))<|e0) (rs:=[au.agg ((bc 2 0 y).cs)]) (by simp only[aI,bc,bv,c0,c1,c2,c3,c4,c5,z0,z1,z2,z3,vq]<;>rfl)
   ·exact rt (ez c0<|ci z0<|en c0<|eb z0<|en c0<|dO z1<|ci c1<|eb z1<|eb c1<|eb z1<|lE<|ci c3<|ef<|eb c3<|mw<|eb c1<|eb c2<|eb c3<|eb c4<|eb c5<|eo z2<|ef<|eo z1<|iA z0<|eb z1<|en z0<|eb z1<|lE<|eb z1<|ef<|eb z1<|ef<|ec (ej 2 0 y (k+1))<|e0) (rs:=[au.agg ((bc 2 0 y).cs)]) (by simp only[aI,bc,bv,c0,c1,c2,c3,c4,c5,z0,z1,z2,vq]<;>rfl)
 ·rcases be (mi x.cr==0) with z1|z1
  ·rcases be (mi y.cr==0) with z2|z2
   ·exact rt (ez c0<|ci z0<|en c0<|eb z0<|en c0<|lE<|ci c1<|ef<|eb c1<|kT<|ci c3<|ef<|eb c3<|mw<|eb c1<|eb c2<|eb c3<|eb c4<|eb c5<|eo z1<|eb z2<|e0) (rs:=[au.agg ((Vd.mk 1 ((-1:Int))).cs)]) (by simp only[aI,bc,bv,c0,c1,c2,c3,c4,c5,z0,z1,z2,vq]<;>rfl)
   ·rcases be y.cH with z3|z3
    ·exact rt (ez c0<|ci z0<|en c0<|eb z0<|en c0<|lE<|ci c1<|ef<|eb c1<|kT<|ci c3<|ef<|eb c3<|mw<|eb c1<|eb c2<|eb c3<|eb c4<|eb c5<|eo z1<|eb z2<|hO z3<|ci z3<|et<|ec (ej 2 1 x (k+1))<|e0) (rs:=[au.agg ((bc 2 1 x).cs)]) (by simp only[aI,bc,bv,c0,c1,c2,c3,c4,c5,z0,z1,z2,z3,vq]<;>rfl)
    ·rcases be y.sN with z4|z4
     ·rcases be x.sN with z5|z5
      ·exact rt (ez c0<|ci z0<|en c0<|eb z0<|en c0<|lE<|ci c1<|ef<|eb c1<|kT<|ci c3<|ef<|eb c3<|mw<|eb c1<|eb c2<|eb c3<|eb c4<|eb c5<|eo z1<|eb z2<|eo z3<|iA z0<|eb z3<|en z0<|eb z3<|dO z4<|eb z3<|eb z4<|eb z3<|en z5<|ec (ej 2 0 y (k+1))<|e0) (rs:=[au.agg ((bc 2 0 y).cs)]) (by simp only[aI,bc,bv,c0,c1,c2,c3,c4,c5,z0,z1,z2,z3,z4,z5,vq]<;>rfl)
      ·exact rt (ez c0<|ci z0<|en c0<|eb z0<|en c0<|lE<|ci c1<|ef<|eb c1<|kT<|ci c3<|ef<|eb c3<|mw<|eb c1<|eb c2<|eb c3<|eb c4<|eb c5<|eo z1<|eb z2<|eo z3<|iA z0<|eb z3<|en z0<|eb z3<|dO z4<|eb z3<|eb z4<|eb z3<|en z5<|ec (ej 2 1 x (k+1))<|e0) (rs:=[au.agg ((bc 2 1 x).cs)]) (by simp only[aI,bc,bv,c0,c1,c2,c3,c4,c5,z0,z1,z2,z3,z4,z5,vq]<;>rfl)
     ·exact rt (ez c0<|ci z0<|en c0<|eb z0<|en c0<|lE<|ci c1<|ef<|eb c1<|kT<|ci c3<|ef<|eb c3<|mw<|eb c1<|eb c2<|eb c3<|eb c4<|eb c5<|eo z1<|eb z2<|eo z3<|iA z0<|eb z3<|en z0<|eb z3<|dO z4<|eb z3<|eb z4<|eb z3<|ef<|ec (ej 2 0 y (k+1))<|e0) (rs:=[au.agg ((bc 2 0 y).cs)]) (by simp only[aI,bc,bv,c0,c1,c2,c3,c4,c5,z0,z1,z2,z3,z4,vq]<;>rfl)
  ·rcases be y.cH with z2|z2
   ·exact rt (ez c0<|ci z0<|en c0<|eb z0<|en c0<|lE<|ci c1<|ef<|eb c1<|kT<|ci c3<|ef<|eb c3<|mw<|eb c1<|eb c2<|eb c3<|eb c4<|eb c5<|eo z1<|ef<|hO z2<|ci z2<|et<|ec (ej 2 1 x (k+1))<|e0) (rs:=[au.agg ((bc 2 1 x).cs)]) (by simp only[aI,bc,bv,c0,c1,c2,c3,c4,c5,z0,z1,z2,vq]<;>rfl)
   ·rcases be y.sN with z3|z3
    ·rcases be x.sN with z4|z4
     ·exact rt (ez c0<|ci z0<|en c0<|eb z0<|en c0<|lE<|ci c1<|ef<|eb c1<|kT<|ci c3<|ef<|eb c3<|mw<|eb c1<|eb c2<|eb c3<|eb c4<|eb c5<|eo z1<|ef<|eo z2<|iA z0<|eb z2<|en z0<|eb z2<|dO z3<|eb z2<|eb z3<|eb z2<|en z4<|ec (ej 2 0 y (k+1))<|e0) (rs:=[au.agg ((bc 2 0 y).cs)]) (by simp only[aI,bc,bv,c0,c1,c2,c3,c4,c5,z0,z1,z2,z3,z4,vq]<;>rfl)
     ·exact rt (ez c0<|ci z0<|en c0<|eb z0<|en c0<|lE<|ci c1<|ef<|eb c1<|kT<|ci c3<|ef<|eb c3<|mw<|eb c1<|eb c2<|eb c3<|eb c4<|eb c5<|eo z1<|ef<|eo z2<|iA z0<|eb z2<|en z0<|eb z2<|dO z3<|eb z2<|eb z3<|eb z2<|en z4<|ec (ej 2 1 x (k+1))<|e0) (rs:=[au.agg ((bc 2 1 x).cs)]) (by simp only[aI,bc,bv,c0,c1,c2,c3,c4,c5,z0,z1,z2,z3,z4,vq]<;>rfl)
    ·exact rt (ez c0<|ci z0<|en c0<|eb z0<|en c0<|lE<|ci c1<|ef<|eb c1<|kT<|ci c3<|ef<|eb c3<|mw<|eb c1<|eb c2<|eb c3<|eb c4<|eb c5<|eo z1<|ef<|eo z2<|iA z0<|eb z2<|en z0<|eb z2<|dO z3<|eb z2<|eb z3<|eb z2<|ef<|ec (ej 2 0 y (k+1))<|e0) (rs:=[au.agg ((bc 2 0 y).cs)]) (by simp only[aI,bc,bv,c0,c1,c2,c3,c4,c5,z0,z1,z2,z3,vq]<;>rfl)
theorem al3(x:He)(y:He)(c0:(x.an==y.an)=true)(c1:x.bp=false)(c2:y.bp=false)(c3:x.dg=false)(c4:y.dg=false)(c5:(x.v.bH==y.v.bH)=false)(g1:decide (bD x.v y.v.bH>0)=false)(g2:decide (bD y.v x.v.bH>0)=false)(k:Nat):EO (k+4) 134 [A.agg x.cs,A.agg y.cs] []=some ([au.agg ((aI x y).cs)],[]):=by
 rcases be x.cH with z0|z0
 ·rcases be y.cH with z1|z1
  ·exact rt (ez c0<|ci z0<|en c0<|eb z0<|en c0<|sy z1<|k_<|ec (dZ (k+2))<|e0) (by simp only[aI,bc,bv,c0,c1,c2,c3,c4,c5,g1,g2,z0,z1,vq]<;>rfl)
  ·exact rt (ez c0<|ci z0<|en c0<|eb z0<|en c0<|dO z1<|ci c1<|eb z1<|eb c1<|eb z1<|lE<|ci c3<|ef<|eb c3<|mw<|eb c1<|eb c2<|eb c3<|eb c4<|eb c5<|ec (cL x.v y.v.bH (k+2))<|ec (cL y.v x.v.bH (k+2))<|dO g1<|ef<|dO g2<|ef<|ec (dZ (k+2))<|e0) (by simp only[aI,bc,bv,c0,c1,c2,c3,c4,c5,g1,g2,z0,z1,vq]<;>rfl)
 ·exact rt (ez c0<|ci z0<|en c0<|eb z0<|en c0<|lE<|ci c1<|ef<|eb c1<|kT<|ci c3<|ef<|eb c3<|mw<|eb c1<|eb c2<|eb c3<|eb c4<|eb c5<|ec (cL x.v y.v.bH (k+2))<|ec (cL y.v x.v.bH (k+2))<|dO g1<|ef<|dO g2<|ef<|ec (dZ (k+2))<|e0) (by simp only[aI,bc,bv,c0,c1,c2,c3,c4,c5,g1,g2,z0,vq]<;>rfl)
theorem adL(x:He)(y:He)(c0:(x.an==y.an)=true)(c1:x.bp=false)(c2:y.bp=false)(c3:x.dg=false)(c4:y.dg=false)(c5:(x.v.bH==y.v.bH)=false)(p1:(0:Int)<=bD x.v y.v.bH)(p2:bD x.v y.v.bH<=3)(g1:decide (bD x.v y.v.bH>0)=true)(g3:decide (bD x.v y.v.bH<0)=false)(k:Nat):EO (k+4) 134 [A.agg x.cs,A.agg y.cs] []=some ([au.agg ((aI x y).cs)],[]):=by
 rcases be x.cH with z0|z0
 ·rcases be y.cH with z1|z1
  ·exact rt (ez c0<|ci z0<|en c0<|eb z0<|en c0<|sy z1<|k_<|ec (dZ (k+2))<|e0) (rs:=[au.agg ((Vd.mk 4 ((-1:Int))).cs)]) (by simp only[aI,bc,bv,c0,c1,c2,c3,c4,c5,g1,g3,gP,z0,z1,vq]<;>rfl)
  ·rcases be (decide (bD y.v x.v.bH<0)) with z2|z2
   ·rcases be (bD x.v y.v.bH==0) with z3|z3
    ·exact rt (ez c0<|ci z0<|en c0<|eb z0<|en c0<|dO z1<|ci c1<|eb z1<|eb c1<|eb z1<|lE<|ci c3<|ef<|eb c3<|mw<|eb c1<|eb c2<|eb c3<|eb c4<|eb c5<|ec (cL x.v y.v.bH (k+2))<|ec (cL y.v x.v.bH (k+2))<|dO g1<|eb z2<|ep (eq_of_beq z3)<|eg (G.at 0)<|ec (ej 4 0 y (k+1))<|e0) (rs:=[au.agg ((bc 4 0 y).cs)]) (by simp only[aI,bc,bv,c0,c1,c2,c3,c4,c5,g1,g3,gP,z0,z1,z2,z3,vq]<;>rfl)
    ·rcases be (bD x.v y.v.bH==1) with z4|z4
     ·exact rt (ez c0<|ci z0<|en c0<|eb z0<|en c0<|dO z1<|ci c1<|eb z1<|eb c1<|eb z1<|lE<|ci c3<|ef<|eb c3<|mw<|eb c1<|eb c2<|eb c3<|eb c4<|eb c5<|ec (cL x.v y.v.bH (k+2))<|ec (cL y.v x.v.bH (k+2))<|dO g1<|eb z2<|ep (eq_of_beq z4)<|eg (G.at 1)<|ec (ej 2 0 y (k+1))<|e0) (rs:=[au.agg ((bc 2 0 y).cs)]) (by simp only[aI,bc,bv,c0,c1,c2,c3,c4,c5,g1,g3,gP,z0,z1,z2,z3,z4,vq]<;>rfl)
     ·rcases be (bD x.v y.v.bH==2) with z5|z5
      ·exact rt (ez c0<|ci z0<|en c0<|eb z0<|en c0<|dO z1<|ci c1<|eb z1<|eb c1<|eb z1<|lE<|ci c3<|ef<|eb c3<|mw<|eb c1<|eb c2<|eb c3<|eb c4<|eb c5<|ec (cL x.v y.v.bH (k+2))<|ec (cL y.v x.v.bH (k+2))<|dO g1<|eb z2<|ep (eq_of_beq z5)<|eg (G.at 2)<|ec (ej 3 0 y (k+1))<|e0) (rs:=[au.agg ((bc 3 0 y).cs)]) (by simp only[aI,bc,bv,c0,c1,c2,c3,c4,c5,g1,g3,gP,z0,z1,z2,z3,z4,z5,vq]<;>rfl)
      ·exact rt (ez c0<|ci z0<|en c0<|eb z0<|en c0<|dO z1<|ci c1<|eb z1<|eb c1<|eb z1<|lE<|ci c3<|ef<|eb c3<|mw<|eb c1<|eb c2<|eb c3<|eb c4<|eb c5<|ec (cL x.v y.v.bH (k+2))<|ec (cL y.v x.v.bH (k+2))<|dO g1<|eb z2<|ep (show bD x.v y.v.bH=3 from by first|omega|(simp only[rg,ne_eq] at*;omega)|simp_all)<|eg (G.at 3)<|ec (ej 3 0 y (k+1))<|e0) (rs:=[au.agg ((bc 3 0 y).cs)]) (by simp only[aI,bc,bv,c0,c1,c2,c3,c4,c5,g1,g3,gP,z0,z1,z2,z3,z4,z5,vq]<;>rfl)
   ·rcases be (decide (bD y.v x.v.bH>0)) with z3|z3
    ·exact rt (ez c0<|ci z0<|en c0<|eb z0<|en c0<|dO z1<|ci c1<|eb z1<|eb c1<|eb z1<|lE<|ci c3<|ef<|eb c3<|mw<|eb c1<|eb c2<|eb c3<|eb c4<|eb c5<|ec (cL x.v y.v.bH (k+2))<|ec (cL y.v x.v.bH (k+2))<|dO g1<|eb z2<|dO z3<|eb g3<|ec (dZ (k+2))<|e0) (rs:=[au.agg ((Vd.mk 4 ((-1:Int))).cs)]) (by simp only[aI,bc,bv,c0,c1,c2,c3,c4,c5,g1,g3,gP,z0,z1,z2,z3,vq]<;>rfl)
    ·exact rt (ez c0<|ci z0<|en c0<|eb z0<|en c0<|dO z1<|ci c1<|eb z1<|eb c1<|eb z1<|lE<|ci c3<|ef<|eb c3<|mw<|eb c1<|eb c2<|eb c3<|eb c4<|eb c5<|ec (cL x.v y.v.bH (k+2))<|ec (cL y.v x.v.bH (k+2))<|dO g1<|eb z2<|dO z3<|ef<|ec (dZ (k+2))<|e0) (rs:=[au.agg ((Vd.mk 4 ((-1:Int))).cs)]) (by simp only[aI,bc,bv,c0,c1,c2,c3,c4,c5,g1,g3,gP,z0,z1,z2,z3,vq]<;>rfl)
 ·rcases be (decide (bD y.v x.v.bH<0)) with z1|z1
  ·rcases be (bD x.v y.v.bH==0) with z2|z2
   ·exact rt (ez c0<|ci z0<|en c0<|eb z0<|en c0<|lE<|ci c1<|ef<|eb c1<|kT<|ci c3<|ef<|eb c3<|mw<|eb c1<|eb c2<|eb c3<|eb c4<|eb c5<|ec (cL x.v y.v.bH (k+2))<|ec (cL y.v x.v.bH (k+2))<|dO g1<|eb z1<|ep (eq_of_beq z2)<|eg (G.at 0)<|ec (ej 4 0 y (k+1))<|e0) (rs:=[au.agg ((bc 4 0 y).cs)]) (by simp only[aI,bc,bv,c0,c1,c2,c3,c4,c5,g1,g3,gP,z0,z1,z2,vq]<;>rfl)
   ·rcases be (bD x.v y.v.bH==1) with z3|z3
    ·exact rt (ez c0<|ci z0<|en c0<|eb z0<|en c0<|lE<|ci c1<|ef<|eb c1<|kT<|ci c3<|ef<|eb c3<|mw<|eb c1<|eb c2<|eb c3<|eb c4<|eb c5<|ec (cL x.v y.v.bH (k+2))<|ec (cL y.v x.v.bH (k+2))<|dO g1<|eb z1<|ep (eq_of_beq z3)<|eg (G.at 1)<|ec (ej 2 0 y (k+1))<|e0) (rs:=[au.agg ((bc 2 0 y).cs)]) (by simp only[aI,bc,bv,c0,c1,c2,c3,c4,c5,g1,g3,gP,z0,z1,z2,z3,vq]<;>rfl)
    ·rcases be (bD x.v y.v.bH==2) with z4|z4
     ·exact rt (ez c0<|ci z0<|en c0<|eb z0<|en c0<|lE<|ci c1<|ef<|eb c1<|kT<|ci c3<|ef<|eb c3<|mw<|eb c1<|eb c2<|eb c3<|eb c4<|eb c5<|ec (cL x.v y.v.bH (k+2))<|ec (cL y.v x.v.bH (k+2))<|dO g1<|eb z1<|ep (eq_of_beq z4)<|eg (G.at 2)<|ec (ej 3 0 y (k+1))<|e0) (rs:=[au.agg ((bc 3 0 y).cs)]) (by simp only[aI,bc,bv,c0,c1,c2,c3,c4,c5,g1,g3,gP,z0,z1,z2,z3,z4,vq]<;>rfl)
     ·exact rt (ez c0<|ci z0<|en c0<|eb z0<|en c0<|lE<|ci c1<|ef<|eb c1<|kT<|ci c3<|ef<|eb c3<|mw<|eb c1<|eb c2<|eb c3<|eb c4<|eb c5<|ec (cL x.v y.v.bH (k+2))<|ec (cL y.v x.v.bH (k+2))<|dO g1<|eb z1<|ep (show bD x.v y.v.bH=3 from by first|omega|(simp only[rg,ne_eq] at*;omega)|simp_all)<|eg (G.at 3)<|ec (ej 3 0 y (k+1))<|e0) (rs:=[au.agg ((bc 3 0 y).cs)]) (by simp only[aI,bc,bv,c0,c1,c2,c3,c4,c5,g1,g3,gP,z0,z1,z2,z3,z4,vq]<;>rfl)
  ·rcases be (decide (bD y.v x.v.bH>0)) with z2|z2
   ·exact rt (ez c0<|ci z0<|en c0<|eb z0<|en c0<|lE<|ci c1<|ef<|eb c1<|kT<|ci c3<|ef<|eb c3<|mw<|eb c1<|eb c2<|eb c3<|eb c4<|eb c5<|ec (cL x.v y.v.bH (k+2))<|ec (cL y.v x.v.bH (k+2))<|dO g1<|eb z1<|dO z2<|eb g3<|ec (dZ (k+2))<|e0) (rs:=[au.agg ((Vd.mk 4 ((-1:Int))).cs)]) (by simp only[aI,bc,bv,c0,c1,c2,c3,c4,c5,g1,g3,gP,z0,z1,z2,vq]<;>rfl)
   ·exact rt (ez c0<|ci z0<|en c0<|eb z0<|en c0<|lE<|ci c1<|ef<|eb c1<|kT<|ci c3<|ef<|eb c3<|mw<|eb c1<|eb c2<|eb c3<|eb c4<|eb c5<|ec (cL x.v y.v.bH (k+2))<|ec (cL y.v x.v.bH (k+2))<|dO g1<|eb z1<|dO z2<|ef<|ec (dZ (k+2))<|e0) (rs:=[au.agg ((Vd.mk 4 ((-1:Int))).cs)]) (by simp only[aI,bc,bv,c0,c1,c2,c3,c4,c5,g1,g3,gP,z0,z1,z2,vq]<;>rfl)
theorem adM(x:He)(y:He)(c0:(x.an==y.an)=true)(c1:x.bp=false)(c2:y.bp=false)(c3:x.dg=false)(c4:y.dg=false)(c5:(x.v.bH==y.v.bH)=false)(p1:(0:Int)<=bD y.v x.v.bH)(p2:bD y.v x.v.bH<=3)(g1:decide (bD x.v y.v.bH>0)=false)(g2:decide (bD y.v x.v.bH>0)=true)(k:Nat):EO (k+4) 134 [A.agg x.cs,A.agg y.cs] []=some ([au.agg ((aI x y).cs)],[]):=by
 rcases be x.cH with z0|z0
 ·rcases be y.cH with z1|z1
  ·exact rt (ez c0<|ci z0<|en c0<|eb z0<|en c0<|sy z1<|k_<|ec (dZ (k+2))<|e0) (rs:=[au.agg ((Vd.mk 4 ((-1:Int))).cs)]) (by simp only[aI,bc,bv,c0,c1,c2,c3,c4,c5,g1,g2,gP,z0,z1,vq]<;>rfl)
  ·rcases be (decide (bD x.v y.v.bH<0)) with z2|z2
   ·rcases be (bD y.v x.v.bH==0) with z3|z3
    ·exact rt (ez c0<|ci z0<|en c0<|eb z0<|en c0<|dO z1<|ci c1<|eb z1<|eb c1<|eb z1<|lE<|ci c3<|ef<|eb c3<|mw<|eb c1<|eb c2<|eb c3<|eb c4<|eb c5<|ec (cL x.v y.v.bH (k+2))<|ec (cL y.v x.v.bH (k+2))<|dO g1<|ef<|dO g2<|eb z2<|ep (eq_of_beq z3)<|eg (G.at 0)<|ec (ej 4 1 x (k+1))<|e0) (rs:=[au.agg ((bc 4 1 x).cs)]) (by simp only[aI,bc,bv,c0,c1,c2,c3,c4,c5,g1,g2,gP,z0,z1,z2,z3,vq]<;>rfl)
    ·rcases be (bD y.v x.v.bH==1) with z4|z4
     ·exact rt (ez c0<|ci z0<|en c0<|eb z0<|en c0<|dO z1<|ci c1<|eb z1<|eb c1<|eb z1<|lE<|ci c3<|ef<|eb c3<|mw<|eb c1<|eb c2<|eb c3<|eb c4<|eb c5<|ec (cL x.v y.v.bH (k+2))<|ec (cL y.v x.v.bH (k+2))<|dO g1<|ef<|dO g2<|eb z2<|ep (eq_of_beq z4)<|eg (G.at 1)<|ec (ej 2 1 x (k+1))<|e0) (rs:=[au.agg ((bc 2 1 x).cs)]) (by simp only[aI,bc,bv,c0,c1,c2,c3,c4,c5,g1,g2,gP,z0,z1,z2,z3,z4,vq]<;>rfl)
     ·rcases be (bD y.v x.v.bH==2) with z5|z5
      ·exact rt (ez c0<|ci z0<|en c0<|eb z0<|en c0<|dO z1<|ci c1<|eb z1<|eb c1<|eb z1<|lE<|ci c3<|ef<|eb c3<|mw<|eb c1<|eb c2<|eb c3<|eb c4<|eb c5<|ec (cL x.v y.v.bH (k+2))<|ec (cL y.v x.v.bH (k+2))<|dO g1<|ef<|dO g2<|eb z2<|ep (eq_of_beq z5)<|eg (G.at 2)<|ec (ej 3 1 x (k+1))<|e0) (rs:=[au.agg ((bc 3 1 x).cs)]) (by simp only[aI,bc,bv,c0,c1,c2,c3,c4,c5,g1,g2,gP,z0,z1,z2,z3,z4,z5,vq]<;>rfl)
      ·exact rt (ez c0<|ci z0<|en c0<|eb z0<|en c0<|dO z1<|ci c1<|eb z1<|eb c1<|eb z1<|lE<|ci c3<|ef<|eb c3<|mw<|eb c1<|eb c2<|eb c3<|eb c4<|eb c5<|ec (cL x.v y.v.bH (k+2))<|ec (cL y.v x.v.bH (k+2))<|dO g1<|ef<|dO g2<|eb z2<|ep (show bD y.v x.v.bH=3 from by first|omega|(simp only[rg,ne_eq] at*;omega)|simp_all)<|eg (G.at 3)<|ec (ej 3 1 x (k+1))<|e0) (rs:=[au.agg ((bc 3 1 x).cs)]) (by simp only[aI,bc,bv,c0,c1,c2,c3,c4,c5,g1,g2,gP,z0,z1,z2,z3,z4,z5,vq]<;>rfl)
   ·exact rt (ez c0<|ci z0<|en c0<|eb z0<|en c0<|dO z1<|ci c1<|eb z1<|eb c1<|eb z1<|lE<|ci c3<|ef<|eb c3<|mw<|eb c1<|eb c2<|eb c3<|eb c4<|eb c5<|ec (cL x.v y.v.bH (k+2))<|ec (cL y.v x.v.bH (k+2))<|dO g1<|ef<|dO g2<|eb z2<|ec (dZ (k+2))<|e0) (rs:=[au.agg ((Vd.mk 4 ((-1:Int))).cs)]) (by simp only[aI,bc,bv,c0,c1,c2,c3,c4,c5,g1,g2,gP,z0,z1,z2,vq]<;>rfl)
 ·rcases be (decide (bD x.v y.v.bH<0)) with z1|z1
  ·rcases be (bD y.v x.v.bH==0) with z2|z2
   ·exact rt (ez c0<|ci z0<|en c0<|eb z0<|en c0<|lE<|ci c1<|ef<|eb c1<|kT<|ci c3<|ef<|eb c3<|mw<|eb c1<|eb c2<|eb c3<|eb c4<|eb c5<|ec (cL x.v y.v.bH (k+2))<|ec (cL y.v x.v.bH (k+2))<|dO g1<|ef<|dO g2<|eb z1<|ep (eq_of_beq z2)<|eg (G.at 0)<|ec (ej 4 1 x (k+1))<|e0) (rs:=[au.agg ((bc 4 1 x).cs)]) (by simp only[aI,bc,bv,c0,c1,c2,c3,c4,c5,g1,g2,gP,z0,z1,z2,vq]<;>rfl)
   ·rcases be (bD y.v x.v.bH==1) with z3|z3
    ·exact rt (ez c0<|ci z0<|en c0<|eb z0<|en c0<|lE<|ci c1<|ef<|eb c1<|kT<|ci c3<|ef<|eb c3<|mw<|eb c1<|eb c2<|eb c3<|eb c4<|eb c5<|ec (cL x.v y.v.bH (k+2))<|ec (cL y.v x.v.bH (k+2))<|dO g1<|ef<|dO g2<|eb z1<|ep (eq_of_beq z3)<|eg (G.at 1)<|ec (ej 2 1 x (k+1))<|e0) (rs:=[au.agg ((bc 2 1 x).cs)]) (by simp only[aI,bc,bv,c0,c1,c2,c3,c4,c5,g1,g2,gP,z0,z1,z2,z3,vq]<;>rfl)
    ·rcases be (bD y.v x.v.bH==2) with z4|z4
     ·exact rt (ez c0<|ci z0<|en c0<|eb z0<|en c0<|lE<|ci c1<|ef<|eb c1<|kT<|ci c3<|ef<|eb c3<|mw<|eb c1<|eb c2<|eb c3<|eb c4<|eb c5<|ec (cL x.v y.v.bH (k+2))<|ec (cL y.v x.v.bH (k+2))<|dO g1<|ef<|dO g2<|eb z1<|ep (eq_of_beq z4)<|eg (G.at 2)<|ec (ej 3 1 x (k+1))<|e0) (rs:=[au.agg ((bc 3 1 x).cs)]) (by simp only[aI,bc,bv,c0,c1,c2,c3,c4,c5,g1,g2,gP,z0,z1,z2,z3,z4,vq]<;>rfl)
     ·exact rt (ez c0<|ci z0<|en c0<|eb z0<|en c0<|lE<|ci c1<|ef<|eb c1<|kT<|ci c3<|ef<|eb c3<|mw<|eb c1<|eb c2<|eb c3<|eb c4<|eb c5<|ec (cL x.v y.v.bH (k+2))<|ec (cL y.v x.v.bH (k+2))<|dO g1<|ef<|dO g2<|eb z1<|ep (show bD y.v x.v.bH=3 from by first|omega|(simp only[rg,ne_eq] at*;omega)|simp_all)<|eg (G.at 3)<|ec (ej 3 1 x (k+1))<|e0) (rs:=[au.agg ((bc 3 1 x).cs)]) (by simp only[aI,bc,bv,c0,c1,c2,c3,c4,c5,g1,g2,gP,z0,z1,z2,z3,z4,vq]<;>rfl)
  ·exact rt (ez c0<|ci z0<|en c0<|eb z0<|en c0<|lE<|ci c1<|ef<|eb c1<|kT<|ci c3<|ef<|eb c3<|mw<|eb c1<|eb c2<|eb c3<|eb c4<|eb c5<|ec (cL x.v y.v.bH (k+2))<|ec (cL y.v x.v.bH (k+2))<|dO g1<|ef<|dO g2<|eb z1<|ec (dZ (k+2))<|e0) (rs:=[au.agg ((Vd.mk 4 ((-1:Int))).cs)]) (by simp only[aI,bc,bv,c0,c1,c2,c3,c4,c5,g1,g2,gP,z0,z1,vq]<;>rfl)
theorem Mz(x y:He)(k:Nat):EO (k+4) 134 [.agg x.cs, .agg y.cs] []=some ([.agg (aI x y).cs],[]):=by
 cases c0:x.an==y.an with
 |false=>exact alX x y c0 k
 |true=>
  cases c1:x.bp with
  |true=>exact alY x y c0 c1 k
  |false=>
   cases c2:y.bp with
   |true=>exact alZ x y c0 c1 c2 k
   |false=>
    cases c3:x.dg with
    |true=>exact al0 x y c0 c1 c2 c3 k
    |false=>
     cases c4:y.dg with
     |true=>exact al1 x y c0 c1 c2 c3 c4 k
     |false=>
      cases c5:x.v.bH==y.v.bH with
      |true=>exact al2 x y c0 c1 c2 c3 c4 c5 k
      |false=>
       rcases Ai x.v y.v.bH with h|h|h|h|h
       case inr.inr.inl=>exact adL x y c0 c1 c2 c3 c4 c5 (by rw[h];decide) (by rw[h];decide) (by rw[h];rfl) (by rw[h];rfl) k
       case inr.inr.inr.inl=>exact adL x y c0 c1 c2 c3 c4 c5 (by rw[h];decide) (by rw[h];decide) (by rw[h];rfl) (by rw[h];rfl) k
       case inr.inr.inr.inr=>exact adL x y c0 c1 c2 c3 c4 c5 (by rw[h];decide) (by rw[h];decide) (by rw[h];rfl) (by rw[h];rfl) k
       all_goals
        have g1:decide (bD x.v y.v.bH>0)=false:=by rw[h];rfl
        rcases Ai y.v x.v.bH with e|e|e|e|e
        case inr.inr.inl=>exact adM x y c0 c1 c2 c3 c4 c5 (by rw[e];decide) (by rw[e];decide) g1 (by rw[e];rfl) k
        case inr.inr.inr.inl=>exact adM x y c0 c1 c2 c3 c4 c5 (by rw[e];decide) (by rw[e];decide) g1 (by rw[e];rfl) k
        case inr.inr.inr.inr=>exact adM x y c0 c1 c2 c3 c4 c5 (by rw[e];decide) (by rw[e];decide) g1 (by rw[e];rfl) k
        all_goals exact al3 x y c0 c1 c2 c3 c4 c5 g1 (by rw[e];rfl) k
theorem QX(a b:BitVec 32)(k:Nat):EO (k+6) 136 [.c (.slice 1 [[w4 (mi a)],[w4 (mi b)]])] []=some ([.c (w4 (mi (a|||b)))],[]):=
 (adg [a,b] (by simp) k).trans (by simp[orI])
theorem ahW(a:BitVec 32)(i:Int)(k:Nat):EO (k+4) 131 [.c (w4 (mi a)), .c (.slice 1 [[ii i]])] []=some ([.c (w4 (mi (lA a [i])))],[]):=ahu a [i] (by simp) k
theorem JM(a:BitVec 32)(i:Int)(k:Nat):EO (k+4) 163 [.c (w4 (mi a)), .c (.slice 1 [[ii i]])] []=some ([.c (w4 (mi (ik a [i])))],[]):=alM a [i] (by simp) k
theorem WF(v:Vd)(x:He)(y:He)(k:Nat):EO (k+7) 135 [A.agg v.cs,A.agg x.cs,A.agg y.cs] []=some ([au.c (w4 (mi (uD v x y)))],[]):=by
 rcases be (v.ae==2) with z0|z0
 ·exact rt (eb z0<|ec (QX x.cr y.cr k)<|e0) (by simp only[uD,z0,vq]<;>rfl)
 ·rcases be (v.ae==3) with z1|z1
  ·exact rt (eb z0<|eb z1<|ec (alN x.an (k+3))<|e0) (by simp only[uD,z0,z1,vq]<;>rfl)
  ·exact rt (eb z0<|eb z1<|e0) (by simp only[uD,z0,z1,vq]<;>rfl)
theorem MA(d:Dk)(s:Su)(hs:d.ax.length<=1000000)(hc:d.ar.length<=900)(k:Nat):EO (k+6) 127 [.agg d.cs, .agg s.cs] []=some ([.agg (eG d s).1.cs, .c (ii (eG d s).2)],[]):=
 ZM d s (by rw[uw];omega) (by rw[rC];exact hs) (by have:=nM d 0 (bV s).1;omega) k
theorem WG(d:Dk)(m:BitVec 32)(hs:d.ax.length<=1000000)(hc:d.ar.length<=900)(k:Nat):EO (k+6) 154 [.agg d.cs, .c (w4 (mi m))] []=some ([.agg (me d m).1.cs, .c (ii (me d m).2)],[]):=
 ahP d m (by rw[uw];omega) (by rw[G3];exact hs) (by have:=Es d m;omega) k
theorem WH(d:Dk)(m:BitVec 32)(hc:d.ar.length<=900)(k:Nat):EO (k+5) 164 [.agg d.cs, .c (w4 (mi m))] []=some ([.agg (jk d m).1.cs, .c (ii (jk d m).2)],[]):=
 Wx d m (by rw[uw];omega) k
theorem adN(d:Dk)(i:Int)(x:ByteArray)(hs:d.ax.length<=1000000)(hc:d.ar.length<=900)(k:Nat):EO (k+5) 132 [.agg d.cs, .c (ii i), .c (st x)] []=some ([.agg (nL d i x).1.cs, .c (ii (nL d i x).2)],[]):=
 ahQ d i x (by rw[uw];omega) (by rw[rC];exact hs) (by have:=nM d (wrap .i64 (i+2)) x;omega) k
theorem Aj(d:Dk)(hs:d.ax.length<=1000000)(hc:d.ar.length<=900)(h0:(bR d 0).1.size<=1000000)(h1:(bR d 1).1.size<=1000000)(k:Nat):EO (k+8) 82 [A.agg d.cs] []=some ([au.agg ((cd d).1.cs),au.c (ii (cd d).2)],[]):=by
 rcases be ((kf d).2==0) with z0|z0
 ·rcases be ((jW d).2==0) with z1|z1
  ·rcases be ((ld d).2==0) with z2|z2
   ·exact rt (ec (QT d (show d.ar.length<=1000000 from by omega) h0 k)<|en z0<|ec (Ww d (show d.ar.length<=1000000 from by omega) h1 k)<|en z1<|ec (ahR d hs (show d.ar.length<=1000000 from by omega) (k+2))<|en z2<|e0) (by simp only[cd,so0,Kg,z0,z1,z2,vq]<;>rfl)
   ·exact rt (ec (QT d (show d.ar.length<=1000000 from by omega) h0 k)<|en z0<|ec (Ww d (show d.ar.length<=1000000 from by omega) h1 k)<|en z1<|ec (ahR d hs (show d.ar.length<=1000000 from by omega) (k+2))<|en z2<|e0) (by simp only[cd,so0,Kg,z0,z1,z2,vq]<;>rfl)
  ·exact rt (ec (QT d (show d.ar.length<=1000000 from by omega) h0 k)<|en z0<|ec (Ww d (show d.ar.length<=1000000 from by omega) h1 k)<|en z1<|e0) (by simp only[cd,so0,Kg,z0,z1,vq]<;>rfl)
 ·exact rt (ec (QT d (show d.ar.length<=1000000 from by omega) h0 k)<|en z0<|e0) (by simp only[cd,so0,Kg,z0,vq]<;>rfl)
theorem MB(s:So)(b:Su)(hs:s.ao.ax.length<=1000000)(hc:s.ao.ar.length<=900)(k:Nat):EO (k+7) 97 [A.agg s.cs,A.agg b.cs] []=some ([au.agg ((dM s b).1.cs),au.c (ii (dM s b).2)],[]):=by
 rcases be (b.an==s.aj.an&&(b.v.bH==s.aj.v.bH&&(b.v.i4==s.aj.v.i4&&(b.v.o0==s.aj.v.o0&&(b.v.o1==s.aj.v.o1&&true)&&true))&&(b.bp==s.aj.bp&&(b.cH==s.aj.cH&&(b.dg==s.aj.dg&&true))))) with z0|z0
 ·exact rt (eb z0<|e0) (by simp only[dM,Lb,z0,vq]<;>rfl)
 ·rcases be ((eG s.ao b).2==0) with z1|z1
  ·exact rt (eb z0<|ec (MA s.ao b hs hc k)<|eb z1<|e0) (by simp only[dM,Lb,z0,z1,vq]<;>rfl)
  ·exact rt (eb z0<|ec (MA s.ao b hs hc k)<|eb z1<|e0) (by simp only[dM,Lb,z0,z1,vq]<;>rfl)
theorem WI(s:So)(m:BitVec 32)(hs:s.ao.ax.length<=1000000)(hc:s.ao.ar.length<=900)(k:Nat):EO (k+7) 130 [A.agg s.cs,A.c (w4 (mi m))] []=some ([au.agg ((n8 s m).1.cs),au.c (ii (n8 s m).2)],[]):=by
 rcases be (mi m==mi s.cr) with z0|z0
 ·exact rt (eb z0<|e0) (by simp only[n8,z0,vq]<;>rfl)
 ·rcases be ((me s.ao m).2==0) with z1|z1
  ·exact rt (eb z0<|ec (WG s.ao m hs hc k)<|eb z1<|e0) (by simp only[n8,z0,z1,vq]<;>rfl)
  ·exact rt (eb z0<|ec (WG s.ao m hs hc k)<|eb z1<|e0) (by simp only[n8,z0,z1,vq]<;>rfl)
theorem WJ(s:So)(i:Int)(hs:s.ao.ax.length<=1000000)(hc:s.ao.ar.length<=900)(k:Nat):EO (k+8) 100 [A.agg s.cs,A.c (ii i)] []=some ([au.agg ((mZ s i).1.cs),au.c (ii (mZ s i).2)],[]):=by
 rcases be (decide (i<0)) with z0|z0
 ·exact rt (hO z0<|et<|e0) (by simp only[mZ,Ch,z0,vq]<;>rfl)
 ·rcases be (decide (i>=s.aj.an)) with z1|z1
  ·exact rt (hO z0<|eb z1<|e0) (by simp only[mZ,Ch,z0,z1,vq]<;>rfl)
  ·exact rt (hO z0<|eb z1<|ec (ahW s.cr i (k+3))<|ec (WI s (lA s.cr [i]) hs hc k)<|e0) (by simp only[mZ,Ch,z0,z1,vq]<;>rfl)
theorem adO(s:So)(i:Int)(hc:s.ao.ar.length<=900)(k:Nat):EO (k+6) 138 [A.agg s.cs,A.c (ii i)] []=some ([au.agg ((jm s i).1.cs),au.c (ii (jm s i).2)],[]):=by
 rcases be (decide (i<0)) with z0|z0
 ·exact rt (hO z0<|et<|e0) (by simp only[jm,Ch,z0,vq]<;>rfl)
 ·rcases be (decide (i>=s.aj.an)) with z1|z1
  ·exact rt (hO z0<|eb z1<|e0) (by simp only[jm,Ch,z0,z1,vq]<;>rfl)
  ·rcases be (mi (ik s.cr [i])==mi s.cr) with z2|z2
   ·exact rt (hO z0<|eb z1<|ec (JM s.cr i (k+1))<|eb z2<|e0) (by simp only[jm,Ch,z0,z1,z2,vq]<;>rfl)
   ·rcases be ((jk s.ao (ik s.cr [i])).2==0) with z3|z3
    ·exact rt (hO z0<|eb z1<|ec (JM s.cr i (k+1))<|eb z2<|ec (WH s.ao (ik s.cr [i]) hc k)<|eb z3<|e0) (by simp only[jm,Ch,z0,z1,z2,z3,vq]<;>rfl)
    ·exact rt (hO z0<|eb z1<|ec (JM s.cr i (k+1))<|eb z2<|ec (WH s.ao (ik s.cr [i]) hc k)<|eb z3<|e0) (by simp only[jm,Ch,z0,z1,z2,z3,vq]<;>rfl)
theorem JN(s:So)(m:BitVec 32)(hs:s.ao.ax.length<=1000000)(hc:s.ao.ar.length<=900)(k:Nat):EO (k+8) 106 [A.agg s.cs,A.c (w4 (mi m))] []=some ([au.agg ((nN s m).1.cs),au.c (ii (nN s m).2)],[]):=by
 exact rt (ec (QX s.cr m (k+1))<|ec (WI s (s.cr|||m) hs hc k)<|e0) (by simp only[nN,vq]<;>rfl)
theorem QY(s:So)(i:Int)(x:ByteArray)(hs:s.ao.ax.length<=1000000)(hc:s.ao.ar.length<=900)(k:Nat):EO (k+6) 102 [A.agg s.cs,A.c (ii i),A.c (st x)] []=some ([au.agg ((jn s i x).1.cs),au.c (ii (jn s i x).2)],[]):=by
 exact rt (ec (adN s.ao i x hs hc k)<|e0) (by simp only[jn,vq]<;>rfl)
theorem WK(s:So)(i:Int)(hc:s.ao.ar.length<=900)(k:Nat):EO (k+5) 62 [A.agg s.cs,A.c (ii i)] []=some ([au.c (st (aK s.ao i).1),au.c (ii (aK s.ao i).2)],[]):=by
 exact rt (ec (OY s.ao i (show s.ao.ar.length<=1000000 from by omega) k)<|e0) rfl
theorem JO(n:Nd)(k:Nat):EO (k+2) 39 [A.agg n.cs] []=some ([au.agg ((dz n).cs)],[]):=by
 exact rt (ec (adm n.store.ao k)<|e0) (by simp only[dz,iE,fQ,Kg,vq]<;>rfl)
theorem eK(n:Nd)(id:Int)(e:Int)(x:ByteArray)(k:Nat):EO (k+1) 41 [A.agg n.cs,A.c (ii id),A.c (ii e),A.c (st x)] []=some ([au.agg ((ap n id e x).cs)],[]):=by
 exact rt (e0) (by simp only[ap,vq]<;>rfl)
theorem ZP(n:Nd)(p:Pk)(q:Pk)(hq:q=({p with bd:=n.bd}:Pk))(hd:p.data.size<=900000)(hL:∀k,EO (k+8) 96 [A.agg (({p with bd:=n.bd}:Pk).cs)] []=some ([au.c (st (jl q).1),au.c (ii (jl q).2)],[]))(k:Nat):EO (k+9) 60 [A.agg n.cs,A.agg p.cs] []=some ([au.agg ((Ou.mk 1 n.id 0 0 (jl q).1).cs)],[]):=by
 exact rt (ec (hL k)<|e0) rfl
theorem mB(n:Nd)(p:Pk)(hd:p.data.size<=900000)(k:Nat):EO (k+9) 60 [.agg n.cs, .agg p.cs] []=some ([.agg (bE n p).cs],[]):=
 ZP n p _ rfl hd (fun k=>ZN {p with bd:=n.bd} hd k) k
theorem fI(n:Nd)(b:Su)(hs:n.store.ao.ax.length<=1000000)(hc:n.store.ao.ar.length<=900)(k:Nat):EO (k+8) 61 [A.agg n.cs,A.agg b.cs] []=some ([au.agg ((aH n b).1.cs),au.c (bo (aH n b).2)],[]):=by
 rcases be ((dM n.store b).2==0) with z0|z0
 ·exact rt (ec (MB n.store b hs hc k)<|en z0<|e0) (by simp only[aH,z0,vq]<;>rfl)
 ·exact rt (ec (MB n.store b hs hc k)<|en z0<|ec (JO (({n with store:=(dM n.store b).1}:Nd)) (k+5))<|e0) (by simp only[aH,z0,vq]<;>rfl)
theorem iu(n:Nd)(id:Int)(e:Int)(k:Nat):EO (k+2) 58 [A.agg n.cs,A.c (ii id),A.c (ii e)] []=some ([au.agg n.cs,rO [ap n id e ⟨#[]⟩]],[]):=by
 exact rt (ec (eK n id e ⟨#[]⟩ k)<|e0) rfl
theorem v8(n:Nd)(k:Nat):EO (k+1) 59 [A.agg n.cs] []=some ([au.c (bo (kK n))],[]):=by
 rcases be (n.ag==2) with z0|z0
 ·exact rt (eo z0<|e0) (by simp only[kK,z0,vq]<;>rfl)
 ·exact rt (eo z0<|e0) (by simp only[kK,z0,vq]<;>rfl)
theorem HK(n:Nd)(id:Int)(hs:n.store.ao.ax.length<=1000000)(hc:n.store.ao.ar.length<=900)(k:Nat):EO (k+10) 30 [A.agg n.cs,A.c (ii id)] []=some ([au.agg ((cj n id).1.cs),rO (cj n id).2],[]):=by
 rcases be n.up with z0|z0
 ·rcases be n.aN with z1|z1
  ·exact rt (en z0<|eb z1<|ec (iu n id 8 (k+7))<|jg 1<|e0) (rs:=[au.agg n.cs,rO [(Ou.mk 2 n.id id 8 ⟨#[]⟩)]]) (by simp only[cj,ud,fQ,z0,z1,vq]<;>rfl)
  ·rcases be n.store.aj.bp with z2|z2
   ·exact rt (en z0<|eb z1<|eb z2<|ec (iu n id 9 (k+7))<|jg 1<|e0) (rs:=[au.agg n.cs,rO [(Ou.mk 2 n.id id 9 ⟨#[]⟩)]]) (by simp only[cj,ud,fQ,z0,z1,z2,vq]<;>rfl)
   ·rcases be n.store.aj.dg with z3|z3
    ·exact rt (en z0<|eb z1<|eb z2<|eb z3<|ec (iu n id 10 (k+7))<|jg 1<|e0) (rs:=[au.agg n.cs,rO [(Ou.mk 2 n.id id 10 ⟨#[]⟩)]]) (by simp only[cj,ud,fQ,z0,z1,z2,z3,vq]<;>rfl)
    ·rcases be (n.ag==1) with z4|z4
     ·exact rt (en z0<|eb z1<|eb z2<|eb z3<|eo z4<|et4<|ec (iu n id 11 (k+7))<|jg 1<|e0) (rs:=[au.agg n.cs,rO [(Ou.mk 2 n.id id 11 ⟨#[]⟩)]]) (by simp only[cj,ud,fQ,z0,z1,z2,z3,z4,vq]<;>rfl)
     ·rcases be (n.ag==4) with z5|z5
      ·exact rt (en z0<|eb z1<|eb z2<|eb z3<|eo z4<|dO z5<|et<|ec (iu n id 11 (k+7))<|jg 1<|e0) (rs:=[au.agg n.cs,rO [(Ou.mk 2 n.id id 11 ⟨#[]⟩)]]) (by simp only[cj,ud,fQ,z0,z1,z2,z3,z4,z5,vq]<;>rfl)
      ·rcases be n.cb with z6|z6
       ·exact rt (en z0<|eb z1<|eb z2<|eb z3<|eo z4<|dO z5<|eb z6<|ec (iu n id 11 (k+7))<|jg 1<|e0) (rs:=[au.agg n.cs,rO [(Ou.mk 2 n.id id 11 ⟨#[]⟩)]]) (by simp only[cj,ud,fQ,z0,z1,z2,z3,z4,z5,z6,vq]<;>rfl)
       ·rcases be n.cU with z7|z7
        ·exact rt (en z0<|eb z1<|eb z2<|eb z3<|eo z4<|dO z5<|eb z6<|eb z7<|ec (iu n id 12 (k+7))<|jg 1<|e0) (rs:=[au.agg n.cs,rO [(Ou.mk 2 n.id id 12 ⟨#[]⟩)]]) (by simp only[cj,ud,fQ,z0,z1,z2,z3,z4,z5,z6,z7,vq]<;>rfl)
        ·rcases be (kK n) with z8|z8
         ·exact rt (en z0<|eb z1<|eb z2<|eb z3<|eo z4<|dO z5<|eb z6<|eb z7<|ec (v8 n (k+8))<|eb z8<|ec (mB (({n with cb:=true,bM:=id}:Nd)) ((Pk.mk 10 0 fG 0 ⟨#[]⟩)) (show ByteArray.size ⟨#[]⟩<=900000 from by decide) k)<|e0) (rs:=[au.agg (({n with cb:=true,bM:=id}:Nd).cs),rO [bE ({n with cb:=true,bM:=id}:Nd) (Pk.mk 10 0 fG 0 ⟨#[]⟩)]]) (by simp only[cj,ud,fQ,z0,z1,z2,z3,z4,z5,z6,z7,z8,vq]<;>rfl)
         ·rcases be (aH n ({So.aj n.store with cH:=true}:Su)).2 with z9|z9
          ·exact rt (en z0<|eb z1<|eb z2<|eb z3<|eo z4<|dO z5<|eb z6<|eb z7<|ec (v8 n (k+8))<|eb z8<|ec (fI n (({So.aj n.store with cH:=true}:Su)) hs hc (k+1))<|en z9<|ec (eK (({Prod.fst (aH n ({So.aj n.store with cH:=true}:Su)) with aN:=true}:Nd)) id 0 ⟨#[]⟩ (k+8))<|e0) (rs:=[au.agg (({Prod.fst (aH n ({So.aj n.store with cH:=true}:Su)) with aN:=true}:Nd).cs),rO [ap ({Prod.fst (aH n ({So.aj n.store with cH:=true}:Su)) with aN:=true}:Nd) id 0 ⟨#[]⟩]]) (by simp_all only[cj,ud,fQ,vq]<;>rfl)
          ·exact rt (en z0<|eb z1<|eb z2<|eb z3<|eo z4<|dO z5<|eb z6<|eb z7<|ec (v8 n (k+8))<|eb z8<|ec (fI n (({So.aj n.store with cH:=true}:Su)) hs hc (k+1))<|en z9<|e0) (rs:=[au.agg ((aH n ({So.aj n.store with cH:=true}:Su)).1.cs),rO []]) (by simp_all only[cj,ud,fQ,vq]<;>rfl)
 ·exact rt (en z0<|ec (iu n id 7 (k+7))<|jg 1<|e0) (rs:=[au.agg n.cs,rO [(Ou.mk 2 n.id id 7 ⟨#[]⟩)]]) (by simp only[cj,ud,fQ,z0,vq]<;>rfl)
theorem MC(n:Nd)(id:Int)(hs:n.store.ao.ax.length<=1000000)(hc:n.store.ao.ar.length<=900)(k:Nat):EO (k+10) 31 [A.agg n.cs,A.c (ii id)] []=some ([au.agg ((dN n id).1.cs),rO (dN n id).2],[]):=by
 rcases be n.up with z0|z0
 ·rcases be n.aN with z1|z1
  ·rcases be n.bL.on with z2|z2
   ·exact rt (en z0<|en z1<|eo z2<|et<|ec (iu n id 11 (k+7))<|jg 1<|e0) (by simp only[dN,ud,fQ,z0,z1,z2,vq]<;>rfl)
   ·rcases be (n.ag==1) with z3|z3
    ·exact rt (en z0<|en z1<|eo z2<|eb z3<|ec (iu n id 11 (k+7))<|jg 1<|e0) (by simp only[dN,ud,fQ,z0,z1,z2,z3,vq]<;>rfl)
    ·rcases be (aH n ({So.aj n.store with cH:=false}:Su)).2 with z4|z4
     ·rcases be (kK (kY n)) with z5|z5
      ·exact rt (en z0<|en z1<|eo z2<|eb z3<|ec (fI n (({So.aj n.store with cH:=false}:Su)) hs hc (k+1))<|en z4<|ec (v8 (kY n) (k+8))<|eb z5<|ec (mB (kY n) ((Pk.mk 13 0 fG 0 ⟨#[]⟩)) (show ByteArray.size ⟨#[]⟩<=900000 from by decide) k)<|ep (eF ([[ii (bE (kY n) (Pk.mk 13 0 fG 0 ⟨#[]⟩)).ae,ii (bE (kY n) (Pk.mk 13 0 fG 0 ⟨#[]⟩)).node,ii (bE (kY n) (Pk.mk 13 0 fG 0 ⟨#[]⟩)).id,ii (bE (kY n) (Pk.mk 13 0 fG 0 ⟨#[]⟩)).j2,st (bE (kY n) (Pk.mk 13 0 fG 0 ⟨#[]⟩)).data]]))<|ep (show List.length [[ii (bE (kY n) (Pk.mk 13 0 fG 0 ⟨#[]⟩)).ae,ii (bE (kY n) (Pk.mk 13 0 fG 0 ⟨#[]⟩)).node,ii (bE (kY n) (Pk.mk 13 0 fG 0 ⟨#[]⟩)).id,ii (bE (kY n) (Pk.mk 13 0 fG 0 ⟨#[]⟩)).j2,st (bE (kY n) (Pk.mk 13 0 fG 0 ⟨#[]⟩)).data]]<=1073741824 from by simp only[vr];omega)<|eg (G.app [[ii (bE (kY n) (Pk.mk 13 0 fG 0 ⟨#[]⟩)).ae,ii (bE (kY n) (Pk.mk 13 0 fG 0 ⟨#[]⟩)).node,ii (bE (kY n) (Pk.mk 13 0 fG 0 ⟨#[]⟩)).id,ii (bE (kY n) (Pk.mk 13 0 fG 0 ⟨#[]⟩)).j2,st (bE (kY n) (Pk.mk 13 0 fG 0 ⟨#[]⟩)).data]])<|ec (eK (kY n) id 0 ⟨#[]⟩ (k+8))<|ep (rfl:[[ii (bE (kY n) (Pk.mk 13 0 fG 0 ⟨#[]⟩)).ae,ii (bE (kY n) (Pk.mk 13 0 fG 0 ⟨#[]⟩)).node,ii (bE (kY n) (Pk.mk 13 0 fG 0 ⟨#[]⟩)).id,ii (bE (kY n) (Pk.mk 13 0 fG 0 ⟨#[]⟩)).j2,st (bE (kY n) (Pk.mk 13 0 fG 0 ⟨#[]⟩)).data],[ii (ap (kY n) id (0:Int) ⟨#[]⟩).ae,ii (ap (kY n) id (0:Int) ⟨#[]⟩).node,ii (ap (kY n) id (0:Int) ⟨#[]⟩).id,ii (ap (kY n) id (0:Int) ⟨#[]⟩).j2,st (ap (kY n) id (0:Int) ⟨#[]⟩).data]]=[[ii (bE (kY n) (Pk.mk 13 0 fG 0 ⟨#[]⟩)).ae,ii (bE (kY n) (Pk.mk 13 0 fG 0 ⟨#[]⟩)).node,ii (bE (kY n) (Pk.mk 13 0 fG 0 ⟨#[]⟩)).id,ii (bE (kY n) (Pk.mk 13 0 fG 0 ⟨#[]⟩)).j2,st (bE (kY n) (Pk.mk 13 0 fG 0 ⟨#[]⟩)).data],[ii (ap (kY n) id (0:Int) ⟨#[]⟩).ae,ii (ap (kY n) id (0:Int) ⟨#[]⟩).node,ii (ap (kY n) id (0:Int) ⟨#[]⟩).id,ii (ap (kY n) id (0:Int) ⟨#[]⟩).j2,st (ap (kY n) id (0:Int) ⟨#[]⟩).data]])<|ep (show List.length [[ii (bE (kY n) (Pk.mk 13 0 fG 0 ⟨#[]⟩)).ae,ii (bE (kY n) (Pk.mk 13 0 fG 0 ⟨#[]⟩)).node,ii (bE (kY n) (Pk.mk 13 0 fG 0 ⟨#[]⟩)).id,ii (bE (kY n) (Pk.mk 13 0 fG 0 ⟨#[]⟩)).j2,st (bE (kY n) (Pk.mk 13 0 fG 0 ⟨#[]⟩)).data],[ii (ap (kY n) id (0:Int) ⟨#[]⟩).ae,ii (ap (kY n) id (0:Int) ⟨#[]⟩).node,ii (ap (kY n) id (0:Int) ⟨#[]⟩).id,ii (ap (kY n) id (0:Int) ⟨#[]⟩).j2,st (ap (kY n) id (0:Int) ⟨#[]⟩).data]]<=1073741824 from by simp only[vr];omega)<|ep ((rfl:(1:Nat)=(1:Nat))).symm<|eg (G.app [[ii (bE (kY n) (Pk.mk 13 0 fG 0 ⟨#[]⟩)).ae,ii (bE (kY n) (Pk.mk 13 0 fG 0 ⟨#[]⟩)).node,ii (bE (kY n) (Pk.mk 13 0 fG 0 ⟨#[]⟩)).id,ii (bE (kY n) (Pk.mk 13 0 fG 0 ⟨#[]⟩)).j2,st (bE (kY n) (Pk.mk 13 0 fG 0 ⟨#[]⟩)).data],[ii (ap (kY n) id 0 ⟨#[]⟩).ae,ii (ap (kY n) id 0 ⟨#[]⟩).node,ii (ap (kY n) id 0 ⟨#[]⟩).id,ii (ap (kY n) id 0 ⟨#[]⟩).j2,st (ap (kY n) id 0 ⟨#[]⟩).data]])<|ep ((rfl:(2:Nat)=(2:Nat))).symm<|e0) (by simp only[dN,ud,fQ,z0,z1,z2,z3,z4,z5,vq]<;>rfl)
      ·exact rt (en z0<|en z1<|eo z2<|eb z3<|ec (fI n (({So.aj n.store with cH:=false}:Su)) hs hc (k+1))<|en z4<|ec (v8 (kY n) (k+8))<|eb z5<|ec (eK (kY n) id 0 ⟨#[]⟩ (k+8))<|ep (eF ([[ii (ap (kY n) id 0 ⟨#[]⟩).ae,ii (ap (kY n) id 0 ⟨#[]⟩).node,ii (ap (kY n) id 0 ⟨#[]⟩).id,ii (ap (kY n) id 0 ⟨#[]⟩).j2,st (ap (kY n) id 0 ⟨#[]⟩).data]]))<|ep (show List.length [[ii (ap (kY n) id (0:Int) ⟨#[]⟩).ae,ii (ap (kY n) id (0:Int) ⟨#[]⟩).node,ii (ap (kY n) id (0:Int) ⟨#[]⟩).id,ii (ap (kY n) id (0:Int) ⟨#[]⟩).j2,st (ap (kY n) id (0:Int) ⟨#[]⟩).data]]<=1073741824 from by simp only[vr];omega)<|eg (G.app [[ii (ap (kY n) id 0 ⟨#[]⟩).ae,ii (ap (kY n) id 0 ⟨#[]⟩).node,ii (ap (kY n) id 0 ⟨#[]⟩).id,ii (ap (kY n) id 0 ⟨#[]⟩).j2,st (ap (kY n) id 0 ⟨#[]⟩).data]])<|ep ((rfl:(1:Nat)=(1:Nat))).symm<|e0) (by simp only[dN,ud,fQ,z0,z1,z2,z3,z4,z5,vq]<;>rfl)
     ·exact rt (en z0<|en z1<|eo z2<|eb z3<|ec (fI n (({So.aj n.store with cH:=false}:Su)) hs hc (k+1))<|en z4<|e0) (by simp only[dN,ud,fQ,z0,z1,z2,z3,z4,vq]<;>rfl)
  ·exact rt (en z0<|en z1<|ec (iu n id 8 (k+7))<|jg 1<|e0) (by simp only[dN,ud,fQ,z0,z1,vq]<;>rfl)
 ·exact rt (en z0<|ec (iu n id 7 (k+7))<|jg 1<|e0) (by simp only[dN,ud,fQ,z0,vq]<;>rfl)
theorem HL(n:Nd)(id:Int)(hs:n.store.ao.ax.length<=1000000)(hc:n.store.ao.ar.length<=900)(k:Nat):EO (k+10) 32 [A.agg n.cs,A.c (ii id)] []=some ([au.agg ((dj n id).1.cs),rO (dj n id).2],[]):=by
 rcases be n.up with z0|z0
 ·rcases be n.aN with z1|z1
  ·exact rt (en z0<|eb z1<|ec (iu n id 8 (k+7))<|jg 1<|e0) (by simp only[dj,z0,z1,vq]<;>rfl)
  ·rcases be (n.ag==0) with z2|z2
   ·rcases be (aH n ({So.aj n.store with dg:=true}:Su)).2 with z3|z3
    ·exact rt (en z0<|eb z1<|en z2<|ec (fI n (({So.aj n.store with dg:=true}:Su)) hs hc (k+1))<|en z3<|ec (eK (aH n ({So.aj n.store with dg:=true}:Su)).1 id 0 ⟨#[]⟩ (k+8))<|e0) (by simp only[dj,z0,z1,z2,z3,vq]<;>rfl)
    ·exact rt (en z0<|eb z1<|en z2<|ec (fI n (({So.aj n.store with dg:=true}:Su)) hs hc (k+1))<|en z3<|e0) (by simp only[dj,z0,z1,z2,z3,vq]<;>rfl)
   ·exact rt (en z0<|eb z1<|en z2<|ec (iu n id 11 (k+7))<|jg 1<|e0) (by simp only[dj,z0,z1,z2,vq]<;>rfl)
 ·exact rt (en z0<|ec (iu n id 7 (k+7))<|jg 1<|e0) (by simp only[dj,z0,vq]<;>rfl)
theorem QZ(n:Nd)(id:Int)(block:Int)(hc:n.store.ao.ar.length<=900)(k:Nat):EO (k+6) 33 [A.agg n.cs,A.c (ii id),A.c (ii block)] []=some ([au.agg ((js n id block).1.cs),rO (js n id block).2],[]):=by
 rcases be n.up with z0|z0
 ·rcases be n.aN with z1|z1
  ·exact rt (en z0<|en z1<|ec (WK n.store block hc k)<|ec (eK n id (aK n.store.ao block).2 (aK n.store.ao block).1 (k+4))<|e0) (by simp only[js,z0,z1,vq]<;>rfl)
  ·exact rt (en z0<|en z1<|ec (iu n id 8 (k+3))<|jg 1<|e0) (by simp only[js,z0,z1,vq]<;>rfl)
 ·exact rt (en z0<|ec (iu n id 7 (k+3))<|jg 1<|e0) (by simp only[js,z0,vq]<;>rfl)
theorem FG(n:Nd)(s:So)(e:Int)(k:Nat):EO (k+3) 101 [A.agg n.cs,A.agg s.cs,A.c (ii e)] []=some ([au.agg ((gy n s e).1.cs),au.c (bo (gy n s e).2)],[]):=by
 rcases be (e==0) with z0|z0
 ·exact rt (en z0<|e0) (by simp only[gy,z0,vq]<;>rfl)
 ·exact rt (en z0<|ec (JO (({n with store:=s}:Nd)) k)<|e0) (by simp only[gy,z0,vq]<;>rfl)
theorem adP(n:Nd)(block:Int)(x:ByteArray)(hs:n.store.ao.ax.length<=1000000)(hc:n.store.ao.ar.length<=890)(h1:(((gj n block).1.store).ao.ax).length<=1000000)(h2:(((gj n block).1.store).ao.ar).length<=900)(hL:∀k,EO (k+3) 101 [A.agg n.cs,A.agg ((mZ n.store block).1.cs),A.c (ii (mZ n.store block).2)] []=some ([au.agg ((gj n block).1.cs),au.c (bo (gj n block).2)],[]))(k:Nat):EO (k+9) 64 [A.agg n.cs,A.c (ii block),A.c (st x)] []=some ([au.agg ((im n block x).1.cs),au.c (bo (im n block x).2)],[]):=by
 rcases be (gj n block).2 with z0|z0
 ·exact rt (ec (WJ n.store block hs (show n.store.ao.ar.length<=900 from by omega) k)<|ec (hL (k+5))<|en z0<|ec (QY ((gj n block).1.store) block x h1 h2 (k+2))<|ec (FG (gj n block).1 (jn ((gj n block).1.store) block x).1 (jn ((gj n block).1.store) block x).2 (k+5))<|e0) (by simp only[im,z0,vq]<;>rfl)
 ·exact rt (ec (WJ n.store block hs (show n.store.ao.ar.length<=900 from by omega) k)<|ec (hL (k+5))<|en z0<|e0) (by simp only[im,z0,vq]<;>rfl)
theorem FH(n:Nd)(block:Int):(gj n block).1.store.ao.ax.length=n.store.ao.ax.length/\(gj n block).1.store.ao.ar.length<=n.store.ao.ar.length+1:=by
 unfold gj
 rw[N6,Ld]
 exact RG _ _
theorem v9(n:Nd)(block:Int)(x:ByteArray)(hs:n.store.ao.ax.length<=1000000)(hc:n.store.ao.ar.length<=890)(k:Nat):EO (k+9) 64 [.agg n.cs, .c (ii block), .c (st x)] []=some ([.agg (im n block x).1.cs, .c (bo (im n block x).2)],[]):=
 adP n block x hs hc (by have:=(FH n block).1;omega) (by have:=(FH n block).2;omega) (fun k=>FG n _ _ k) k
theorem ux(n:Nd)(block:Int)(hc:n.store.ao.ar.length<=890)(k:Nat):EO (k+7) 109 [A.agg n.cs,A.c (ii block)] []=some ([au.agg ((bi n block).1.cs),au.c (bo (bi n block).2)],[]):=by
 exact rt (ec (adO n.store block (show n.store.ao.ar.length<=900 from by omega) k)<|ec (FG n (jm n.store block).1 (jm n.store block).2 (k+3))<|e0) (by simp only[bi,vq]<;>rfl)
theorem ZQ(n:Nd)(block:Int)(hc:n.store.ao.ar.length<=890)(k:Nat):EO (k+10) 72 [A.agg n.cs,A.c (ii block)] []=some ([au.agg ((iR n block).1.cs),rO (iR n block).2],[]):=by
 rcases be n.bL.on with z0|z0
 ·rcases be (n.bL.block==block) with z1|z1
  ·rcases be (bi ({n with bL:=zw}:Nd) block).2 with z2|z2
   ·exact rt (md z0<|en z1<|ec (eK n n.bL.id 0 ⟨#[]⟩ (k+8))<|ec (ux (({n with bL:=zw}:Nd)) block hc (k+2))<|en z2<|ec (mB (bi ({n with bL:=zw}:Nd) block).1 ((Pk.mk 4 0 fG block ⟨#[]⟩)) (show ByteArray.size ⟨#[]⟩<=900000 from by decide) k)<|ep (rfl:[[ii (ap n n.bL.id (0:Int) ⟨#[]⟩).ae,ii (ap n n.bL.id (0:Int) ⟨#[]⟩).node,ii (ap n n.bL.id (0:Int) ⟨#[]⟩).id,ii (ap n n.bL.id (0:Int) ⟨#[]⟩).j2,st (ap n n.bL.id (0:Int) ⟨#[]⟩).data],[ii (bE (bi ({n with bL:=zw}:Nd) block).1 (Pk.mk 4 0 fG block ⟨#[]⟩)).ae,ii (bE (bi ({n with bL:=zw}:Nd) block).1 (Pk.mk 4 0 fG block ⟨#[]⟩)).node,ii (bE (bi ({n with bL:=zw}:Nd) block).1 (Pk.mk 4 0 fG block ⟨#[]⟩)).id,ii (bE (bi ({n with bL:=zw}:Nd) block).1 (Pk.mk 4 0 fG block ⟨#[]⟩)).j2,st (bE (bi ({n with bL:=zw}:Nd) block).1 (Pk.mk 4 0 fG block ⟨#[]⟩)).data]]=[[ii (ap n n.bL.id (0:Int) ⟨#[]⟩).ae,ii (ap n n.bL.id (0:Int) ⟨#[]⟩).node,ii (ap n n.bL.id (0:Int) ⟨#[]⟩).id,ii (ap n n.bL.id (0:Int) ⟨#[]⟩).j2,st (ap n n.bL.id (0:Int) ⟨#[]⟩).data],[ii (bE (bi ({n with bL:=zw}:Nd) block).1 (Pk.mk 4 0 fG block ⟨#[]⟩)).ae,ii (bE (bi ({n with bL:=zw}:Nd) block).1 (Pk.mk 4 0 fG block ⟨#[]⟩)).node,ii (bE (bi ({n with bL:=zw}:Nd) block).1 (Pk.mk 4 0 fG block ⟨#[]⟩)).id,ii (bE (bi ({n with bL:=zw}:Nd) block).1 (Pk.mk 4 0 fG block ⟨#[]⟩)).j2,st (bE (bi ({n with bL:=zw}:Nd) block).1 (Pk.mk 4 0 fG block ⟨#[]⟩)).data]])<|ep (show List.length [[ii (ap n n.bL.id (0:Int) ⟨#[]⟩).ae,ii (ap n n.bL.id (0:Int) ⟨#[]⟩).node,ii (ap n n.bL.id (0:Int) ⟨#[]⟩).id,ii (ap n n.bL.id (0:Int) ⟨#[]⟩).j2,st (ap n n.bL.id (0:Int) ⟨#[]⟩).data],[ii (bE (bi ({n with bL:=zw}:Nd) block).1 (Pk.mk 4 0 fG block ⟨#[]⟩)).ae,ii (bE (bi ({n with bL:=zw}:Nd) block).1 (Pk.mk 4 0 fG block ⟨#[]⟩)).node,ii (bE (bi ({n with bL:=zw}:Nd) block).1 (Pk.mk 4 0 fG block ⟨#[]⟩)).id,ii (bE (bi ({n with bL:=zw}:Nd) block).1 (Pk.mk 4 0 fG block ⟨#[]⟩)).j2,st (bE (bi ({n with bL:=zw}:Nd) block).1 (Pk.mk 4 0 fG block ⟨#[]⟩)).data]]<=1073741824 from by simp only[vr];omega)<|eg (G.app [[ii (ap n n.bL.id 0 ⟨#[]⟩).ae,ii (ap n n.bL.id 0 ⟨#[]⟩).node,ii (ap n n.bL.id 0 ⟨#[]⟩).id,ii (ap n n.bL.id 0 ⟨#[]⟩).j2,st (ap n n.bL.id 0 ⟨#[]⟩).data],[ii (bE (bi ({n with bL:=zw}:Nd) block).1 (Pk.mk 4 0 fG block ⟨#[]⟩)).ae,ii (bE (bi ({n with bL:=zw}:Nd) block).1 (Pk.mk 4 0 fG block ⟨#[]⟩)).node,ii (bE (bi ({n with bL:=zw}:Nd) block).1 (Pk.mk 4 0 fG block ⟨#[]⟩)).id,ii (bE (bi ({n with bL:=zw}:Nd) block).1 (Pk.mk 4 0 fG block ⟨#[]⟩)).j2,st (bE (bi ({n with bL:=zw}:Nd) block).1 (Pk.mk 4 0 fG block ⟨#[]⟩)).data]])<|ep ((rfl:(2:Nat)=(2:Nat))).symm<|e0) (by simp only[iR,iE,Et,fQ,z0,z1,z2,vq]<;>rfl)
   ·exact rt (md z0<|en z1<|ec (eK n n.bL.id 0 ⟨#[]⟩ (k+8))<|ec (ux (({n with bL:=zw}:Nd)) block hc (k+2))<|en z2<|e0) (by simp only[iR,iE,Et,fQ,z0,z1,z2,vq]<;>rfl)
  ·exact rt (md z0<|en z1<|e0) (by simp only[iR,iE,Et,fQ,z0,z1,vq]<;>rfl)
 ·exact rt (md z0<|et<|e0) (by simp only[iR,iE,Et,fQ,z0,vq]<;>rfl)
theorem ZR(n:Nd)(block:Int)(x:ByteArray)(hs:n.store.ao.ax.length<=1000000)(hc:n.store.ao.ar.length<=890)(k:Nat):EO (k+10) 71 [A.agg n.cs,A.c (ii block),A.c (st x)] []=some ([au.agg ((jt n block x).1.cs),rO (jt n block x).2],[]):=by
 rcases be (im n block x).2 with z0|z0
 ·exact rt (ec (v9 n block x hs hc k)<|en z0<|ec (mB (im n block x).1 ((Pk.mk 3 0 fG block ⟨#[]⟩)) (show ByteArray.size ⟨#[]⟩<=900000 from by decide) k)<|e0) (by simp only[jt,Et,fQ,z0,vq]<;>rfl)
 ·exact rt (ec (v9 n block x hs hc k)<|en z0<|e0) (by simp only[jt,Et,fQ,z0,vq]<;>rfl)
theorem S2(n:Nd)(block:Int)(hc:n.store.ao.ar.length<=890)(k:Nat):EO (k+8) 73 [A.agg n.cs,A.c (ii block)] []=some ([au.agg ((bi n block).1.cs),rO []],[]):=by
 exact rt (ec (ux n block hc k)<|e0) rfl
theorem WL(n:Nd)(block:Int)(hc:n.store.ao.ar.length<=890)(k:Nat):EO (k+8) 76 [A.agg n.cs,A.c (ii block)] []=some ([au.agg ((io n block).cs),rO []],[]):=by
 rcases be n.bL.on with z0|z0
 ·rcases be (n.bL.block==block) with z1|z1
  ·exact rt (hO z0<|eb z1<|e0) (by simp only[io,z0,z1,vq]<;>rfl)
  ·exact rt (hO z0<|eb z1<|ec (ux n block hc k)<|e0) (by simp only[io,z0,z1,vq]<;>rfl)
 ·exact rt (hO z0<|ef<|ec (ux n block hc k)<|e0) (by simp only[io,z0,vq]<;>rfl)
theorem adQ(n:Nd)(block:Int)(hc:n.store.ao.ar.length<=890)(h1:(aK n.store.ao block).1.size<=900000)(k:Nat):EO (k+10) 74 [A.agg n.cs,A.c (ii block)] []=some ([au.agg n.cs,rO (Eu n block)],[]):=by
 exact rt (ec (WK n.store block (show n.store.ao.ar.length<=900 from by omega) (k+4))<|ec (mB n ((Pk.mk 6 0 fG block (aK n.store.ao block).1)) h1 k)<|e0) (by simp only[Eu,CF,fQ,vq]<;>rfl)
theorem ZS(n:Nd)(hs:n.store.ao.ax.length<=1000000)(hc:n.store.ao.ar.length<=890)(k:Nat):EO (k+10) 77 [A.agg n.cs] []=some ([au.agg ((ju n).1.cs),rO (ju n).2],[]):=by
 rcases be (aH n ({So.aj n.store with v:=bP n.store.aj.v,cH:=n.aN}:Su)).2 with z0|z0
 ·exact rt (ec (wS n.store.aj.v (k+8))<|ec (fI n (({So.aj n.store with v:=bP n.store.aj.v,cH:=n.aN}:Su)) hs (show n.store.ao.ar.length<=900 from by omega) (k+1))<|en z0<|ec (mB (({Prod.fst (aH n ({So.aj n.store with v:=bP n.store.aj.v,cH:=n.aN}:Su)) with ag:=2}:Nd)) ((Pk.mk 9 0 fG 0 ⟨#[]⟩)) (show ByteArray.size ⟨#[]⟩<=900000 from by decide) k)<|e0) (by simp only[ju,hZ,ud,fQ,z0,vq]<;>rfl)
 ·exact rt (ec (wS n.store.aj.v (k+8))<|ec (fI n (({So.aj n.store with v:=bP n.store.aj.v,cH:=n.aN}:Su)) hs (show n.store.ao.ar.length<=900 from by omega) (k+1))<|en z0<|e0) (by simp only[ju,hZ,ud,fQ,z0,vq]<;>rfl)
theorem adR(n:Nd)(k:Nat):EO (k+1) 78 [A.agg n.cs] []=some ([au.agg (({n with ag:=2}:Nd).cs)],[]):=by
 exact rt (e0) rfl
theorem Q0(n:Nd)(k:Nat):EO (k+2) 103 [A.agg n.cs] []=some ([au.agg ((ji n).cs)],[]):=by
 exact rt (ec (adA n.store.aj n.aN n.store.cr k)<|e0) (by simp only[ji,vq]<;>rfl)
theorem CU(n:Nd)(bd:Int)(k:Nat):EO (k+10) 66 [A.agg n.cs,A.c (u bd)] []=some ([au.agg ((d7 n bd).1.cs),rO (d7 n bd).2],[]):=by
 exact rt (ec (Q0 (({n with ag:=1,bd:=bd,bZ:=false}:Nd)) (k+7))<|ec (mB (({n with ag:=1,bd:=bd,bZ:=false}:Nd)) ((Pk.mk 1 0 (ji ({n with ag:=1,bd:=bd,bZ:=false}:Nd)) 0 ⟨#[]⟩)) (show ByteArray.size ⟨#[]⟩<=900000 from by decide) k)<|e0) (by simp only[d7,jT,vq]<;>rfl)
theorem S3(n:Nd)(h:He)(k:Nat):EO (k+8) 104 [A.agg n.cs,A.agg h.cs] []=some ([au.agg ((b9 n h).1.cs),au.c (w4 (mi (b9 n h).2))],[]):=by
 rcases be (n.id==1) with z0|z0
 ·exact rt (ec (Q0 n (k+5))<|eb z0<|ec (Q0 n (k+5))<|ec (Mz h (ji n) (k+3))<|ec (WF (aI h (ji n)) h (ji n) k)<|e0) (by simp only[b9,z0,vq]<;>rfl)
 ·exact rt (ec (Q0 n (k+5))<|eb z0<|ec (Mz (ji n) h (k+3))<|ec (WF (aI (ji n) h) (ji n) h k)<|e0) (by simp only[b9,z0,vq]<;>rfl)
theorem Q1(v:Ve)(g:Int)(h:(g==0)=false)(k:Nat):EO (k+1) 99 [.agg v.cs, .c (u g)] []=some ([.agg (fK v g).cs, .c (ii 0)],[]):=by
 have:=adn v g k
 rw[h] at this
 exact this
theorem WM(n:Nd)(p:Pk)(k:Nat):EO (k+1) 69 [A.agg n.cs,A.agg [ii 1,u p.bd,ii p.aw.an,u p.aw.v.bH,u p.aw.v.i4,u p.aw.v.o0,u p.aw.v.o1,bo p.aw.bp,bo p.aw.sN,bo p.aw.dg,bo p.aw.cH,w4 (mi p.aw.cr),ii p.block,st p.data]] []=some ([au.c (bo (bO n ({p with ae:=1}:Pk)))],[]):=by
 rcases be n.up with z0|z0
 ·exact rt (eA z0<|lE<|en z0<|ef<|en z0<|fP<|ef<|en z0<|ef<|en z0<|ef<|et<|e0) (by simp only[bO,z0,vq]<;>rfl)
 ·exact rt (md z0<|iA z0<|et<|e0) (by simp only[bO,z0,vq]<;>rfl)
theorem WN(n:Nd)(p:Pk)(k:Nat):EO (k+1) 69 [A.agg n.cs,A.agg [ii 2,u p.bd,ii p.aw.an,u p.aw.v.bH,u p.aw.v.i4,u p.aw.v.o0,u p.aw.v.o1,bo p.aw.bp,bo p.aw.sN,bo p.aw.dg,bo p.aw.cH,w4 (mi p.aw.cr),ii p.block,st p.data]] []=some ([au.c (bo (bO n ({p with ae:=2}:Pk)))],[]):=by
 rcases be n.up with z0|z0
 ·rcases be (decide (p.block>=n.store.aj.an)) with z1|z1
  ·exact rt (eA z0<|mc<|en z0<|et<|en z0<|k_<|et<|en z0<|et<|en z0<|eb z1<|e0) (by simp only[bO,z0,z1,vq]<;>rfl)
  ·rcases be n.aN with z2|z2
   ·exact rt (eA z0<|mc<|en z0<|et<|en z0<|k_<|et<|en z0<|et<|en z0<|eb z1<|ef<|et<|eA z2<|e0) (by simp only[bO,z0,z1,z2,vq]<;>rfl)
   ·rcases be (n.ag==2) with z3|z3
    ·exact rt (eA z0<|mc<|en z0<|et<|en z0<|k_<|et<|en z0<|et<|en z0<|eb z1<|ef<|et<|iA z2<|eb z3<|en z2<|eb z3<|en z2<|e0) (by simp only[bO,z0,z1,z2,z3,vq]<;>rfl)
    ·exact rt (eA z0<|mc<|en z0<|et<|en z0<|k_<|et<|en z0<|et<|en z0<|eb z1<|ef<|et<|iA z2<|eb z3<|en z2<|eb z3<|en z2<|e0) (by simp only[bO,z0,z1,z2,z3,vq]<;>rfl)
 ·exact rt (md z0<|iA z0<|et<|e0) (by simp only[bO,z0,vq]<;>rfl)
theorem WO(n:Nd)(p:Pk)(k:Nat):EO (k+1) 69 [A.agg n.cs,A.agg [ii 3,u p.bd,ii p.aw.an,u p.aw.v.bH,u p.aw.v.i4,u p.aw.v.o0,u p.aw.v.o1,bo p.aw.bp,bo p.aw.sN,bo p.aw.dg,bo p.aw.cH,w4 (mi p.aw.cr),ii p.block,st p.data]] []=some ([au.c (bo (bO n ({p with ae:=3}:Pk)))],[]):=by
 rcases be n.up with z0|z0
 ·rcases be (decide (p.block>=n.store.aj.an)) with z1|z1
  ·exact rt (eA z0<|mc<|en z0<|et<|en z0<|k_<|et<|en z0<|et<|en z0<|eb z1<|e0) (by simp only[bO,z0,z1,vq]<;>rfl)
  ·rcases be (n.ag==2) with z2|z2
   ·exact rt (eA z0<|mc<|en z0<|et<|en z0<|k_<|et<|en z0<|et<|en z0<|eb z1<|mw<|et<|ci z2<|e0) (by simp only[bO,z0,z1,z2,vq]<;>rfl)
   ·exact rt (eA z0<|mc<|en z0<|et<|en z0<|k_<|et<|en z0<|et<|en z0<|eb z1<|mw<|et<|ci z2<|e0) (by simp only[bO,z0,z1,z2,vq]<;>rfl)
 ·exact rt (md z0<|iA z0<|et<|e0) (by simp only[bO,z0,vq]<;>rfl)
theorem WP(n:Nd)(p:Pk)(k:Nat):EO (k+1) 69 [A.agg n.cs,A.agg [ii 4,u p.bd,ii p.aw.an,u p.aw.v.bH,u p.aw.v.i4,u p.aw.v.o0,u p.aw.v.o1,bo p.aw.bp,bo p.aw.sN,bo p.aw.dg,bo p.aw.cH,w4 (mi p.aw.cr),ii p.block,st p.data]] []=some ([au.c (bo (bO n ({p with ae:=4}:Pk)))],[]):=by
 rcases be n.up with z0|z0
 ·rcases be (decide (p.block>=n.store.aj.an)) with z1|z1
  ·exact rt (eA z0<|mc<|en z0<|et<|en z0<|k_<|et<|en z0<|et<|en z0<|eb z1<|e0) (by simp only[bO,z0,z1,vq]<;>rfl)
  ·rcases be (n.ag==2) with z2|z2
   ·exact rt (eA z0<|mc<|en z0<|et<|en z0<|k_<|et<|en z0<|et<|en z0<|eb z1<|lE<|et<|ci z2<|e0) (by simp only[bO,z0,z1,z2,vq]<;>rfl)
   ·exact rt (eA z0<|mc<|en z0<|et<|en z0<|k_<|et<|en z0<|et<|en z0<|eb z1<|lE<|et<|ci z2<|e0) (by simp only[bO,z0,z1,z2,vq]<;>rfl)
 ·exact rt (md z0<|iA z0<|et<|e0) (by simp only[bO,z0,vq]<;>rfl)
theorem WQ(n:Nd)(p:Pk)(k:Nat):EO (k+1) 69 [A.agg n.cs,A.agg [ii 5,u p.bd,ii p.aw.an,u p.aw.v.bH,u p.aw.v.i4,u p.aw.v.o0,u p.aw.v.o1,bo p.aw.bp,bo p.aw.sN,bo p.aw.dg,bo p.aw.cH,w4 (mi p.aw.cr),ii p.block,st p.data]] []=some ([au.c (bo (bO n ({p with ae:=5}:Pk)))],[]):=by
 rcases be n.up with z0|z0
 ·rcases be (decide (p.block>=n.store.aj.an)) with z1|z1
  ·exact rt (eA z0<|mc<|en z0<|et<|en z0<|k_<|et<|en z0<|et<|en z0<|eb z1<|e0) (by simp only[bO,z0,z1,vq]<;>rfl)
  ·exact rt (eA z0<|mc<|en z0<|et<|en z0<|k_<|et<|en z0<|et<|en z0<|eb z1<|kT<|K'<|e0) (by simp only[bO,z0,z1,vq]<;>rfl)
 ·exact rt (md z0<|iA z0<|et<|e0) (by simp only[bO,z0,vq]<;>rfl)
theorem WR(n:Nd)(p:Pk)(k:Nat):EO (k+1) 69 [A.agg n.cs,A.agg [ii 6,u p.bd,ii p.aw.an,u p.aw.v.bH,u p.aw.v.i4,u p.aw.v.o0,u p.aw.v.o1,bo p.aw.bp,bo p.aw.sN,bo p.aw.dg,bo p.aw.cH,w4 (mi p.aw.cr),ii p.block,st p.data]] []=some ([au.c (bo (bO n ({p with ae:=6}:Pk)))],[]):=by
 rcases be n.up with z0|z0
 ·rcases be (decide (p.block>=n.store.aj.an)) with z1|z1
  ·exact rt (eA z0<|mc<|en z0<|et<|en z0<|k_<|et<|en z0<|et<|en z0<|eb z1<|e0) (by simp only[bO,z0,z1,vq]<;>rfl)
  ·exact rt (eA z0<|mc<|en z0<|et<|en z0<|k_<|et<|en z0<|et<|en z0<|eb z1<|fP<|ef<|et<|e0) (by simp only[bO,z0,z1,vq]<;>rfl)
 ·exact rt (md z0<|iA z0<|et<|e0) (by simp only[bO,z0,vq]<;>rfl)
theorem WS(n:Nd)(p:Pk)(k:Nat):EO (k+1) 69 [A.agg n.cs,A.agg [ii 7,u p.bd,ii p.aw.an,u p.aw.v.bH,u p.aw.v.i4,u p.aw.v.o0,u p.aw.v.o1,bo p.aw.bp,bo p.aw.sN,bo p.aw.dg,bo p.aw.cH,w4 (mi p.aw.cr),ii p.block,st p.data]] []=some ([au.c (bo (bO n ({p with ae:=7}:Pk)))],[]):=by
 rcases be n.up with z0|z0
 ·rcases be (decide (p.block>=n.store.aj.an)) with z1|z1
  ·exact rt (eA z0<|mc<|en z0<|et<|en z0<|k_<|et<|en z0<|et<|en z0<|eb z1<|e0) (by simp only[bO,z0,z1,vq]<;>rfl)
  ·exact rt (eA z0<|mc<|en z0<|et<|en z0<|k_<|et<|en z0<|et<|en z0<|eb z1<|Cg<|K'<|e0) (by simp only[bO,z0,z1,vq]<;>rfl)
 ·exact rt (md z0<|iA z0<|et<|e0) (by simp only[bO,z0,vq]<;>rfl)
theorem WT(n:Nd)(p:Pk)(k:Nat):EO (k+1) 69 [A.agg n.cs,A.agg [ii 8,u p.bd,ii p.aw.an,u p.aw.v.bH,u p.aw.v.i4,u p.aw.v.o0,u p.aw.v.o1,bo p.aw.bp,bo p.aw.sN,bo p.aw.dg,bo p.aw.cH,w4 (mi p.aw.cr),ii p.block,st p.data]] []=some ([au.c (bo (bO n ({p with ae:=8}:Pk)))],[]):=by
 rcases be n.up with z0|z0
 ·exact rt (eA z0<|mc<|en z0<|et<|en z0<|fP<|ef<|en z0<|ef<|en z0<|fP<|ef<|et<|e0) (by simp only[bO,z0,vq]<;>rfl)
 ·exact rt (md z0<|iA z0<|et<|e0) (by simp only[bO,z0,vq]<;>rfl)
theorem WU(n:Nd)(p:Pk)(k:Nat):EO (k+1) 69 [A.agg n.cs,A.agg [ii 9,u p.bd,ii p.aw.an,u p.aw.v.bH,u p.aw.v.i4,u p.aw.v.o0,u p.aw.v.o1,bo p.aw.bp,bo p.aw.sN,bo p.aw.dg,bo p.aw.cH,w4 (mi p.aw.cr),ii p.block,st p.data]] []=some ([au.c (bo (bO n ({p with ae:=9}:Pk)))],[]):=by
 rcases be n.up with z0|z0
 ·rcases be (n.ag==4) with z1|z1
  ·exact rt (eA z0<|mc<|en z0<|et<|en z0<|fP<|ef<|en z0<|ef<|en z0<|fP<|lE<|et<|hO z1<|e0) (by simp only[bO,z0,z1,vq]<;>rfl)
  ·exact rt (eA z0<|mc<|en z0<|et<|en z0<|fP<|ef<|en z0<|ef<|en z0<|fP<|lE<|et<|hO z1<|e0) (by simp only[bO,z0,z1,vq]<;>rfl)
 ·exact rt (md z0<|iA z0<|et<|e0) (by simp only[bO,z0,vq]<;>rfl)
theorem S4(n:Nd)(p:Pk)(k:Nat):EO (k+1) 69 [A.agg n.cs,A.agg [ii 10,u p.bd,ii p.aw.an,u p.aw.v.bH,u p.aw.v.i4,u p.aw.v.o0,u p.aw.v.o1,bo p.aw.bp,bo p.aw.sN,bo p.aw.dg,bo p.aw.cH,w4 (mi p.aw.cr),ii p.block,st p.data]] []=some ([au.c (bo (bO n ({p with ae:=10}:Pk)))],[]):=by
 rcases be n.up with z0|z0
 ·rcases be (n.ag==2) with z1|z1
  ·exact rt (eA z0<|mc<|en z0<|et<|en z0<|fP<|ef<|en z0<|ef<|en z0<|fP<|kT<|K'<|ci z1<|K'<|e0) (by simp only[bO,z0,z1,vq]<;>rfl)
  ·rcases be (n.ag==3) with z2|z2
   ·exact rt (eA z0<|mc<|en z0<|et<|en z0<|fP<|ef<|en z0<|ef<|en z0<|fP<|kT<|K'<|ci z1<|ci z2<|e0) (by simp only[bO,z0,z1,z2,vq]<;>rfl)
   ·exact rt (eA z0<|mc<|en z0<|et<|en z0<|fP<|ef<|en z0<|ef<|en z0<|fP<|kT<|K'<|ci z1<|ci z2<|e0) (by simp only[bO,z0,z1,z2,vq]<;>rfl)
 ·exact rt (md z0<|iA z0<|et<|e0) (by simp only[bO,z0,vq]<;>rfl)
theorem S5(n:Nd)(p:Pk)(k:Nat):EO (k+1) 69 [A.agg n.cs,A.agg [ii 11,u p.bd,ii p.aw.an,u p.aw.v.bH,u p.aw.v.i4,u p.aw.v.o0,u p.aw.v.o1,bo p.aw.bp,bo p.aw.sN,bo p.aw.dg,bo p.aw.cH,w4 (mi p.aw.cr),ii p.block,st p.data]] []=some ([au.c (bo (bO n ({p with ae:=11}:Pk)))],[]):=by
 rcases be n.up with z0|z0
 ·rcases be n.cb with z1|z1
  ·rcases be (n.ag==2) with z2|z2
   ·exact rt (eA z0<|mc<|en z0<|et<|en z0<|fP<|ef<|en z0<|ef<|en z0<|fP<|fP<|K'<|ci z1<|eb z2<|eb z1<|eb z2<|eb z1<|et<|eb z1<|et<|eb z1<|e0) (by simp only[bO,z0,z1,z2,vq]<;>rfl)
   ·rcases be (n.ag==3) with z3|z3
    ·exact rt (eA z0<|mc<|en z0<|et<|en z0<|fP<|ef<|en z0<|ef<|en z0<|fP<|fP<|K'<|ci z1<|eb z2<|eb z1<|eb z2<|eb z1<|eb z3<|eb z1<|eb z3<|eb z1<|e0) (by simp only[bO,z0,z1,z2,z3,vq]<;>rfl)
    ·exact rt (eA z0<|mc<|en z0<|et<|en z0<|fP<|ef<|en z0<|ef<|en z0<|fP<|fP<|K'<|ci z1<|eb z2<|eb z1<|eb z2<|eb z1<|eb z3<|eb z1<|eb z3<|eb z1<|e0) (by simp only[bO,z0,z1,z2,z3,vq]<;>rfl)
  ·exact rt (eA z0<|mc<|en z0<|et<|en z0<|fP<|ef<|en z0<|ef<|en z0<|fP<|fP<|K'<|hO z1<|e0) (by simp only[bO,z0,z1,vq]<;>rfl)
 ·exact rt (md z0<|iA z0<|et<|e0) (by simp only[bO,z0,vq]<;>rfl)
theorem S6(n:Nd)(p:Pk)(k:Nat):EO (k+1) 69 [A.agg n.cs,A.agg [ii 12,u p.bd,ii p.aw.an,u p.aw.v.bH,u p.aw.v.i4,u p.aw.v.o0,u p.aw.v.o1,bo p.aw.bp,bo p.aw.sN,bo p.aw.dg,bo p.aw.cH,w4 (mi p.aw.cr),ii p.block,st p.data]] []=some ([au.c (bo (bO n ({p with ae:=12}:Pk)))],[]):=by
 rcases be n.up with z0|z0
 ·rcases be n.cb with z1|z1
  ·rcases be (n.ag==2) with z2|z2
   ·exact rt (eA z0<|mc<|en z0<|et<|en z0<|fP<|ef<|en z0<|ef<|en z0<|fP<|fP<|ef<|et<|ci z1<|eb z2<|eb z1<|eb z2<|eb z1<|et<|eb z1<|et<|eb z1<|e0) (by simp only[bO,z0,z1,z2,vq]<;>rfl)
   ·rcases be (n.ag==3) with z3|z3
    ·exact rt (eA z0<|mc<|en z0<|et<|en z0<|fP<|ef<|en z0<|ef<|en z0<|fP<|fP<|ef<|et<|ci z1<|eb z2<|eb z1<|eb z2<|eb z1<|eb z3<|eb z1<|eb z3<|eb z1<|e0) (by simp only[bO,z0,z1,z2,z3,vq]<;>rfl)
    ·exact rt (eA z0<|mc<|en z0<|et<|en z0<|fP<|ef<|en z0<|ef<|en z0<|fP<|fP<|ef<|et<|ci z1<|eb z2<|eb z1<|eb z2<|eb z1<|eb z3<|eb z1<|eb z3<|eb z1<|e0) (by simp only[bO,z0,z1,z2,z3,vq]<;>rfl)
  ·exact rt (eA z0<|mc<|en z0<|et<|en z0<|fP<|ef<|en z0<|ef<|en z0<|fP<|fP<|ef<|et<|hO z1<|e0) (by simp only[bO,z0,z1,vq]<;>rfl)
 ·exact rt (md z0<|iA z0<|et<|e0) (by simp only[bO,z0,vq]<;>rfl)
theorem S7(n:Nd)(p:Pk)(k:Nat):EO (k+1) 69 [A.agg n.cs,A.agg [ii 13,u p.bd,ii p.aw.an,u p.aw.v.bH,u p.aw.v.i4,u p.aw.v.o0,u p.aw.v.o1,bo p.aw.bp,bo p.aw.sN,bo p.aw.dg,bo p.aw.cH,w4 (mi p.aw.cr),ii p.block,st p.data]] []=some ([au.c (bo (bO n ({p with ae:=13}:Pk)))],[]):=by
 rcases be n.up with z0|z0
 ·rcases be (n.ag==2) with z1|z1
  ·exact rt (eA z0<|mc<|en z0<|et<|en z0<|fP<|ef<|en z0<|ef<|en z0<|fP<|Cg<|et<|ci z1<|K'<|e0) (by simp only[bO,z0,z1,vq]<;>rfl)
  ·rcases be (n.ag==3) with z2|z2
   ·exact rt (eA z0<|mc<|en z0<|et<|en z0<|fP<|ef<|en z0<|ef<|en z0<|fP<|Cg<|et<|ci z1<|ci z2<|e0) (by simp only[bO,z0,z1,z2,vq]<;>rfl)
   ·exact rt (eA z0<|mc<|en z0<|et<|en z0<|fP<|ef<|en z0<|ef<|en z0<|fP<|Cg<|et<|ci z1<|ci z2<|e0) (by simp only[bO,z0,z1,z2,vq]<;>rfl)
 ·exact rt (md z0<|iA z0<|et<|e0) (by simp only[bO,z0,vq]<;>rfl)
theorem WV(n:Nd)(p:Pk)(h1:(p.ae==1)=false)(h2:(p.ae==2)=false)(h3:(p.ae==3)=false)(h4:(p.ae==4)=false)(h5:(p.ae==5)=false)(h6:(p.ae==6)=false)(h7:(p.ae==7)=false)(h8:(p.ae==8)=false)(h9:(p.ae==9)=false)(WE:(p.ae==10)=false)(h11:(p.ae==11)=false)(h12:(p.ae==12)=false)(Ar:(p.ae==13)=false)(k:Nat):EO (k+1) 69 [A.agg n.cs,A.agg p.cs] []=some ([au.c (bo (bO n p))],[]):=by
 rcases be n.up with z0|z0
 ·rcases be (decide (p.ae>=2)) with z1|z1
  ·rcases be (decide (p.ae<=7)) with z2|z2
   ·rcases be (decide (p.block>=n.store.aj.an)) with z3|z3
    ·exact rt (eA z0<|dO z1<|en z0<|eb z1<|en z0<|hO z2<|eb z2<|en z0<|eb z2<|en z0<|eb z3<|e0) (by simp only[bO,z0,z1,z2,z3,vq]<;>rfl)
    ·exact rt (eA z0<|dO z1<|en z0<|eb z1<|en z0<|hO z2<|eb z2<|en z0<|eb z2<|en z0<|eb z3<|eb h1<|eb h2<|eb h3<|eb h4<|eb h5<|eb h7<|eb h8<|eb h6<|eb h9<|eb WE<|eb Ar<|eb h11<|eb h12<|e0) (by simp_all only[bO,vq]<;>rfl)
   ·exact rt (eA z0<|dO z1<|en z0<|eb z1<|en z0<|hO z2<|eb z2<|en z0<|eb z2<|en z0<|ef<|eb h1<|eb h2<|eb h3<|eb h4<|eb h5<|eb h7<|eb h8<|eb h6<|eb h9<|eb WE<|eb Ar<|eb h11<|eb h12<|e0) (by simp_all only[bO,vq]<;>rfl)
  ·exact rt (eA z0<|dO z1<|en z0<|eb z1<|en z0<|fP<|ef<|en z0<|ef<|en z0<|ef<|eb h1<|eb h2<|eb h3<|eb h4<|eb h5<|eb h7<|eb h8<|eb h6<|eb h9<|eb WE<|eb Ar<|eb h11<|eb h12<|e0) (by simp_all only[bO,vq]<;>rfl)
 ·exact rt (md z0<|iA z0<|et<|e0) (by simp only[bO,z0,vq]<;>rfl)
theorem qQ(n:Nd)(p:Pk)(k:Nat):EO (k+1) 69 [.agg n.cs, .agg p.cs] []=some ([.c (bo (bO n p))],[]):=by
 obtain⟨ae,bd,aw,block,data⟩:=p
 by_cases k1:ae=1
 ·subst k1;exact WM n ⟨1,bd,aw,block,data⟩ k
 by_cases k2:ae=2
 ·subst k2;exact WN n ⟨2,bd,aw,block,data⟩ k
 by_cases k3:ae=3
 ·subst k3;exact WO n ⟨3,bd,aw,block,data⟩ k
 by_cases k4:ae=4
 ·subst k4;exact WP n ⟨4,bd,aw,block,data⟩ k
 by_cases k5:ae=5
 ·subst k5;exact WQ n ⟨5,bd,aw,block,data⟩ k
 by_cases k6:ae=6
 ·subst k6;exact WR n ⟨6,bd,aw,block,data⟩ k
 by_cases k7:ae=7
 ·subst k7;exact WS n ⟨7,bd,aw,block,data⟩ k
 by_cases k8:ae=8
 ·subst k8;exact WT n ⟨8,bd,aw,block,data⟩ k
 by_cases k9:ae=9
 ·subst k9;exact WU n ⟨9,bd,aw,block,data⟩ k
 by_cases X':ae=10
 ·subst X';exact S4 n ⟨10,bd,aw,block,data⟩ k
 by_cases Ya:ae=11
 ·subst Ya;exact S5 n ⟨11,bd,aw,block,data⟩ k
 by_cases Yb:ae=12
 ·subst Yb;exact S6 n ⟨12,bd,aw,block,data⟩ k
 by_cases Yc:ae=13
 ·subst Yc;exact S7 n ⟨13,bd,aw,block,data⟩ k
 exact WV n ⟨ae,bd,aw,block,data⟩ (jE k1) (jE k2) (jE k3) (jE k4) (jE k5) (jE k6) (jE k7) (jE k8) (jE k9) (jE X') (jE Ya) (jE Yb) (jE Yc) k
theorem WW(n:Nd)(hs:n.store.ao.ax.length<=1000000)(hc:n.store.ao.ar.length<=890)(k:Nat):EO (k+10) 108 [A.agg n.cs] []=some ([au.agg ((fZ n).1.cs),rO (fZ n).2],[]):=by
 rcases be n.store.aj.bp with z0|z0
 ·rcases be (n.wanted==0) with z1|z1
  ·rcases be (Option.isSome (n7 n.store.cr 0)) with z2|z2
   ·exact rt (eA z0<|en z1<|ec (Wn n.store.cr 0 (k+5))<|eb z2<|ec (mB (({n with wanted:=wrap .i64 (Option.getD (n7 n.store.cr 0) 0+1)}:Nd)) ((Pk.mk 5 0 fG (Option.getD (n7 n.store.cr 0) 0) ⟨#[]⟩)) (show ByteArray.size ⟨#[]⟩<=900000 from by decide) k)<|e0) (by simp only[fZ,n9,ud,Et,fQ,z0,z1,z2,vq]<;>rfl)
   ·rcases be (aH n (Su.mk n.store.aj.an (bP n.eQ.v) false false false)).2 with z3|z3
    ·exact rt (eA z0<|en z1<|ec (Wn n.store.cr 0 (k+5))<|eb z2<|ec (wS n.eQ.v (k+8))<|ec (fI n ((Su.mk n.store.aj.an (bP n.eQ.v) false false false)) hs (show n.store.ao.ar.length<=900 from by omega) (k+1))<|en z3<|ec (mB (aH n (Su.mk n.store.aj.an (bP n.eQ.v) false false false)).1 ((Pk.mk 8 0 fG 0 ⟨#[]⟩)) (show ByteArray.size ⟨#[]⟩<=900000 from by decide) k)<|e0) (by simp only[fZ,n9,ud,Et,fQ,z0,z1,z2,z3,vq]<;>rfl)
    ·exact rt (eA z0<|en z1<|ec (Wn n.store.cr 0 (k+5))<|eb z2<|ec (wS n.eQ.v (k+8))<|ec (fI n ((Su.mk n.store.aj.an (bP n.eQ.v) false false false)) hs (show n.store.ao.ar.length<=900 from by omega) (k+1))<|en z3<|e0) (by simp only[fZ,n9,ud,Et,fQ,z0,z1,z2,z3,vq]<;>rfl)
  ·exact rt (eA z0<|en z1<|e0) (by simp only[fZ,n9,ud,Et,fQ,z0,z1,vq]<;>rfl)
 ·exact rt (eA z0<|et<|e0) (by simp only[fZ,n9,ud,Et,fQ,z0,vq]<;>rfl)
theorem ahX(n:Nd)(k:Nat):EO (k+9) 63 [A.agg (Nd.csd n [])] []=some ([au.agg (Nd.csd n []),au.c (ii 14)],[]):=by
 exact rt (ep (rfl:(0:Nat)=(0:Nat))<|eg (G.len 0)<|et<|e0) rfl
theorem ahY(n:Nd)(g:Int)(r:List Int)(h0:(g==0)=true)(hr:r.length<=1000000)(k:Nat):EO (k+9) 63 [A.agg (({n with aQ:=g::r}:Nd).cs)] []=some ([au.agg ((jo n g r).1.cs),au.c (ii (jo n g r).2)],[]):=by
 exact rt (ep (aG (eU) (g::r))<|eg (G.len ((g::r).length))<|ef<|ep (rfl:(0:Int)=(0:Int))<|ep (aT (f:=eU) (l:=g::r) (i:=0) (x:=g) rfl)<|eg (G.fF 0 [u g])<|ep (aG (eU) (g::r)).symm<|ep (rfl:(1:Int)=(1:Int))<|ep (show(1:Nat)<=(g::r).length from by simp only[vr];omega)<|ep (qZ (aG (eU) (g::r)).symm)<|ep (zq (eU) (g::r) 1)<|eg (G.cut 1 ((g::r).length) (List.map eU r))<|ep (eF (List.map eU r))<|ep (bz (eU) (l:=r) (n:=1073741824) (by omega))<|eg (G.app (List.map eU r))<|eb h0<|e0) (by simp only[jo,UK,h0,vq]<;>rfl)
theorem ahZ(n:Nd)(g:Int)(r:List Int)(h0:(g==0)=false)(hr:r.length<=1000000)(hm:n.bh.length<=1000000)(hs:n.store.ao.ax.length<=1000000)(hc:n.store.ao.ar.length<=890)(k:Nat):EO (k+9) 63 [A.agg (({n with aQ:=g::r}:Nd).cs)] []=some ([au.agg ((jo n g r).1.cs),au.c (ii (jo n g r).2)],[]):=by
 rcases be (aH ({n with aQ:=r,bh:=n.bh++[(Mi.mk g n.store.aj.v.bH n.id)]}:Nd) ({So.aj n.store with v:=fK n.store.aj.v g}:Su)).2 with z0|z0
 ·exact rt (ep (aG (eU) (g::r))<|eg (G.len ((g::r).length))<|ef<|ep (rfl:(0:Int)=(0:Int))<|ep (aT (f:=eU) (l:=g::r) (i:=0) (x:=g) rfl)<|eg (G.fF 0 [u g])<|ep (aG (eU) (g::r)).symm<|ep (rfl:(1:Int)=(1:Int))<|ep (show(1:Nat)<=(g::r).length from by simp only[vr];omega)<|ep (qZ (aG (eU) (g::r)).symm)<|ep (zq (eU) (g::r) 1)<|eg (G.cut 1 ((g::r).length) (List.map eU r))<|ep (eF (List.map eU r))<|ep (bz (eU) (l:=r) (n:=1073741824) (by omega))<|eg (G.app (List.map eU r))<|eb h0<|ep (eF (List.map Mi.cs n.bh))<|ep (bz (Mi.cs) (l:=n.bh) (n:=1073741824) (by omega))<|eg (G.app (List.map Mi.cs n.bh))<|ep (dH (Mi.cs) n.bh ([(Mi.mk g n.store.aj.v.bH n.id)]))<|ep (bz (Mi.cs) (l:=n.bh++[(Mi.mk g n.store.aj.v.bH n.id)]) (n:=1073741824) (by simp only[vr];omega))<|ep (eN ((List.map Mi.cs n.bh).length))<|eg (G.app (List.map Mi.cs (n.bh++[(Mi.mk g n.store.aj.v.bH n.id)])))<|ec (Q1 n.store.aj.v g h0 (k+7))<|ec (fI (({n with aQ:=r,bh:=n.bh++[(Mi.mk g n.store.aj.v.bH n.id)]}:Nd)) (({So.aj n.store with v:=fK n.store.aj.v g}:Su)) hs (show n.store.ao.ar.length<=900 from by omega) k)<|en z0<|e0) (by simp only[jo,nO,pI,h0,z0,vq]<;>rfl)
 ·exact rt (ep (aG (eU) (g::r))<|eg (G.len ((g::r).length))<|ef<|ep (rfl:(0:Int)=(0:Int))<|ep (aT (f:=eU) (l:=g::r) (i:=0) (x:=g) rfl)<|eg (G.fF 0 [u g])<|ep (aG (eU) (g::r)).symm<|ep (rfl:(1:Int)=(1:Int))<|ep (show(1:Nat)<=(g::r).length from by simp only[vr];omega)<|ep (qZ (aG (eU) (g::r)).symm)<|ep (zq (eU) (g::r) 1)<|eg (G.cut 1 ((g::r).length) (List.map eU r))<|ep (eF (List.map eU r))<|ep (bz (eU) (l:=r) (n:=1073741824) (by omega))<|eg (G.app (List.map eU r))<|eb h0<|ep (eF (List.map Mi.cs n.bh))<|ep (bz (Mi.cs) (l:=n.bh) (n:=1073741824) (by omega))<|eg (G.app (List.map Mi.cs n.bh))<|ep (dH (Mi.cs) n.bh ([(Mi.mk g n.store.aj.v.bH n.id)]))<|ep (bz (Mi.cs) (l:=n.bh++[(Mi.mk g n.store.aj.v.bH n.id)]) (n:=1073741824) (by simp only[vr];omega))<|ep (eN ((List.map Mi.cs n.bh).length))<|eg (G.app (List.map Mi.cs (n.bh++[(Mi.mk g n.store.aj.v.bH n.id)])))<|ec (Q1 n.store.aj.v g h0 (k+7))<|ec (fI (({n with aQ:=r,bh:=n.bh++[(Mi.mk g n.store.aj.v.bH n.id)]}:Nd)) (({So.aj n.store with v:=fK n.store.aj.v g}:Su)) hs (show n.store.ao.ar.length<=900 from by omega) k)<|en z0<|e0) (by simp only[jo,nO,pI,h0,z0,vq]<;>rfl)
theorem uy(n:Nd)(hr:n.aQ.length<=1000000)(hm:n.bh.length<=1000000)(hs:n.store.ao.ax.length<=1000000)(hc:n.store.ao.ar.length<=890)(k:Nat):EO (k+9) 63 [.agg n.cs] []=some ([.agg (a9 n).1.cs, .c (ii (a9 n).2)],[]):=by
 obtain⟨a,b,s,c,d,e,f,g,h,i,j,l,m,ds,ms⟩:=n
 cases ds with
 |nil=>exact ahX ⟨a,b,s,c,d,e,f,g,h,i,j,l,m,[],ms⟩ k
 |cons x r=>
  have xk:r.length<=1000000:=by simp at hr;omega
  cases h0:x==0 with
  |true=>exact ahY ⟨a,b,s,c,d,e,f,g,h,i,j,l,m,x::r,ms⟩ x r h0 xk k
  |false=>exact ahZ ⟨a,b,s,c,d,e,f,g,h,i,j,l,m,x::r,ms⟩ x r h0 xk hm hs hc k
end Go.Dm
