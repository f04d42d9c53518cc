/-
  A part of the proofs over this seat: its functions, one by one (the file in which the theorems stand says what is proved).
-/
import Derived.Test.YtnilacbgecakcaaGreatXxL0
set_option linter.unusedSimpArgs false
set_option linter.unusedVariables false
set_option maxRecDepth 100000
set_option maxHeartbeats 4000000
namespace Go.Dm
open Go
set_option maxHeartbeats 1000000
theorem D1 (n : Nd) (block : Int) (x : ByteArray) (hs : n.store.disk.sure.length ≤ 1000000) (hc : n.store.disk.cache.length ≤ 890) (h1 : List.length (Dk.sure (Nd.store (cX n block).1).disk) ≤ 1000000) (h2 : List.length (Dk.cache (Nd.store (cX n block).1).disk) ≤ 900) (hL : ∀ k, ag PP GL XX HH NN (k + 3) 101 [A.agg (Nd.cs n), A.agg (So.cs (gR n.store block).1), A.c (ii (gR n.store block).2)] [] = some ([Res.agg (Nd.cs (cX n block).1), Res.c (bo (cX n block).2)], [])) (k : Nat) : ag PP GL XX HH NN (k + 9) 64 [A.agg (Nd.cs n), A.c (ii block), A.c (st x)] [] = some ([Res.agg (Nd.cs (fj n block x).1), Res.c (bo (fj n block x).2)], []) := by
  rcases bft (cX n block).2 with z0 | z0
  · exact rt (ec (zN n.store block hs (show n.store.disk.cache.length ≤ 900 from by omega) k) <| ec (hL (k + 5)) <| en z0 <| ec (ze (Nd.store (cX n block).1) block x h1 h2 (k + 2)) <| ec (po (cX n block).1 (ft (Nd.store (cX n block).1) block x).1 (ft (Nd.store (cX n block).1) block x).2 (k + 5)) <| e0) (by simp only [fj, z0, vq] <;> rfl)
  · exact rt (ec (zN n.store block hs (show n.store.disk.cache.length ≤ 900 from by omega) k) <| ec (hL (k + 5)) <| en z0 <| e0) (by simp only [fj, z0, vq] <;> rfl)
theorem mW (n : Nd) (block : Int) : (cX n block).1.store.disk.sure.length = n.store.disk.sure.length ∧ (cX n block).1.store.disk.cache.length ≤ n.store.disk.cache.length + 1 := by
  unfold cX
  rw [t6, rm]
  exact vB _ _
theorem lg (n : Nd) (block : Int) (x : ByteArray) (hs : n.store.disk.sure.length ≤ 1000000) (hc : n.store.disk.cache.length ≤ 890) (k : Nat) : ag PP GL XX HH NN (k + 9) 64 [.agg n.cs, .c (ii block), .c (st x)] [] = some ([.agg (fj n block x).1.cs, .c (bo (fj n block x).2)], []) :=
  D1 n block x hs hc (by have := (mW n block).1; omega) (by have := (mW n block).2; omega) (fun k => po n _ _ k) k
theorem hZ (n : Nd) (block : Int) (hc : n.store.disk.cache.length ≤ 890) (k : Nat) : ag PP GL XX HH NN (k + 7) 109 [A.agg (Nd.cs n), A.c (ii block)] [] = some ([Res.agg (Nd.cs (au n block).1), Res.c (bo (au n block).2)], []) := by
  exact rt (ec (CQ n.store block (show n.store.disk.cache.length ≤ 900 from by omega) k) <| ec (po n (gD n.store block).1 (gD n.store block).2 (k + 3)) <| e0) (by simp only [au, vq] <;> rfl)
theorem Bm (n : Nd) (block : Int) (hc : n.store.disk.cache.length ≤ 890) (k : Nat) : ag PP GL XX HH NN (k + 10) 72 [A.agg (Nd.cs n), A.c (ii block)] [] = some ([Res.agg (Nd.cs (d5 n block).1), Res.top 5 (List.map Ou.cs (d5 n block).2)], []) := by
  rcases bft n.req.on with z0 | z0
  · rcases bft (Rq.block n.req == block) with z1 | z1
    · rcases bft (au ({ n with req := rqz } : Nd) block).2 with z2 | z2
      · exact rt (en6 z0 <| en z1 <| ec (br n n.req.id 0 ⟨#[]⟩ (k + 8)) <| ec (hZ (({ n with req := rqz } : Nd)) block hc (k + 2)) <| en z2 <| ec (d4 (au ({ n with req := rqz } : Nd) block).1 ((Pk.mk 4 0 hz0 block ⟨#[]⟩)) (show ByteArray.size ⟨#[]⟩ ≤ 900000 from by decide) k) <| ep (rfl : [[ii (ae n n.req.id (0 : Int) ⟨#[]⟩).kind, ii (ae n n.req.id (0 : Int) ⟨#[]⟩).node, ii (ae n n.req.id (0 : Int) ⟨#[]⟩).id, ii (ae n n.req.id (0 : Int) ⟨#[]⟩).err, st (ae n n.req.id (0 : Int) ⟨#[]⟩).data], [ii (az (au ({ n with req := rqz } : Nd) block).1 (Pk.mk 4 0 hz0 block ⟨#[]⟩)).kind, ii (az (au ({ n with req := rqz } : Nd) block).1 (Pk.mk 4 0 hz0 block ⟨#[]⟩)).node, ii (az (au ({ n with req := rqz } : Nd) block).1 (Pk.mk 4 0 hz0 block ⟨#[]⟩)).id, ii (az (au ({ n with req := rqz } : Nd) block).1 (Pk.mk 4 0 hz0 block ⟨#[]⟩)).err, st (az (au ({ n with req := rqz } : Nd) block).1 (Pk.mk 4 0 hz0 block ⟨#[]⟩)).data]] = [[ii (ae n n.req.id (0 : Int) ⟨#[]⟩).kind, ii (ae n n.req.id (0 : Int) ⟨#[]⟩).node, ii (ae n n.req.id (0 : Int) ⟨#[]⟩).id, ii (ae n n.req.id (0 : Int) ⟨#[]⟩).err, st (ae n n.req.id (0 : Int) ⟨#[]⟩).data], [ii (az (au ({ n with req := rqz } : Nd) block).1 (Pk.mk 4 0 hz0 block ⟨#[]⟩)).kind, ii (az (au ({ n with req := rqz } : Nd) block).1 (Pk.mk 4 0 hz0 block ⟨#[]⟩)).node, ii (az (au ({ n with req := rqz } : Nd) block).1 (Pk.mk 4 0 hz0 block ⟨#[]⟩)).id, ii (az (au ({ n with req := rqz } : Nd) block).1 (Pk.mk 4 0 hz0 block ⟨#[]⟩)).err, st (az (au ({ n with req := rqz } : Nd) block).1 (Pk.mk 4 0 hz0 block ⟨#[]⟩)).data]]) <| ep (show List.length [[ii (ae n n.req.id (0 : Int) ⟨#[]⟩).kind, ii (ae n n.req.id (0 : Int) ⟨#[]⟩).node, ii (ae n n.req.id (0 : Int) ⟨#[]⟩).id, ii (ae n n.req.id (0 : Int) ⟨#[]⟩).err, st (ae n n.req.id (0 : Int) ⟨#[]⟩).data], [ii (az (au ({ n with req := rqz } : Nd) block).1 (Pk.mk 4 0 hz0 block ⟨#[]⟩)).kind, ii (az (au ({ n with req := rqz } : Nd) block).1 (Pk.mk 4 0 hz0 block ⟨#[]⟩)).node, ii (az (au ({ n with req := rqz } : Nd) block).1 (Pk.mk 4 0 hz0 block ⟨#[]⟩)).id, ii (az (au ({ n with req := rqz } : Nd) block).1 (Pk.mk 4 0 hz0 block ⟨#[]⟩)).err, st (az (au ({ n with req := rqz } : Nd) block).1 (Pk.mk 4 0 hz0 block ⟨#[]⟩)).data]] ≤ 1073741824 from by simp only [vr]; omega) <| eg (G.app [[ii (ae n n.req.id 0 ⟨#[]⟩).kind, ii (ae n n.req.id 0 ⟨#[]⟩).node, ii (ae n n.req.id 0 ⟨#[]⟩).id, ii (ae n n.req.id 0 ⟨#[]⟩).err, st (ae n n.req.id 0 ⟨#[]⟩).data], [ii (az (au ({ n with req := rqz } : Nd) block).1 (Pk.mk 4 0 hz0 block ⟨#[]⟩)).kind, ii (az (au ({ n with req := rqz } : Nd) block).1 (Pk.mk 4 0 hz0 block ⟨#[]⟩)).node, ii (az (au ({ n with req := rqz } : Nd) block).1 (Pk.mk 4 0 hz0 block ⟨#[]⟩)).id, ii (az (au ({ n with req := rqz } : Nd) block).1 (Pk.mk 4 0 hz0 block ⟨#[]⟩)).err, st (az (au ({ n with req := rqz } : Nd) block).1 (Pk.mk 4 0 hz0 block ⟨#[]⟩)).data]]) <| ep ((rfl : (2 : Nat) = (2 : Nat))).symm <| e0) (by simp only [d5, rq0, pkb, he0, z0, z1, z2, vq] <;> rfl)
      · exact rt (en6 z0 <| en z1 <| ec (br n n.req.id 0 ⟨#[]⟩ (k + 8)) <| ec (hZ (({ n with req := rqz } : Nd)) block hc (k + 2)) <| en z2 <| e0) (by simp only [d5, rq0, pkb, he0, z0, z1, z2, vq] <;> rfl)
    · exact rt (en6 z0 <| en z1 <| e0) (by simp only [d5, rq0, pkb, he0, z0, z1, vq] <;> rfl)
  · exact rt (en6 z0 <| et <| e0) (by simp only [d5, rq0, pkb, he0, z0, vq] <;> rfl)
theorem Bw (n : Nd) (block : Int) (x : ByteArray) (hs : n.store.disk.sure.length ≤ 1000000) (hc : n.store.disk.cache.length ≤ 890) (k : Nat) : ag PP GL XX HH NN (k + 10) 71 [A.agg (Nd.cs n), A.c (ii block), A.c (st x)] [] = some ([Res.agg (Nd.cs (eX n block x).1), Res.top 5 (List.map Ou.cs (eX n block x).2)], []) := by
  rcases bft (fj n block x).2 with z0 | z0
  · exact rt (ec (lg n block x hs hc k) <| en z0 <| ec (d4 (fj n block x).1 ((Pk.mk 3 0 hz0 block ⟨#[]⟩)) (show ByteArray.size ⟨#[]⟩ ≤ 900000 from by decide) k) <| e0) (by simp only [eX, pkb, he0, z0, vq] <;> rfl)
  · exact rt (ec (lg n block x hs hc k) <| en z0 <| e0) (by simp only [eX, pkb, he0, z0, vq] <;> rfl)
theorem wQ (n : Nd) (block : Int) (hc : n.store.disk.cache.length ≤ 890) (k : Nat) : ag PP GL XX HH NN (k + 8) 73 [A.agg (Nd.cs n), A.c (ii block)] [] = some ([Res.agg (Nd.cs (au n block).1), Res.top 5 (List.map Ou.cs [])], []) := by
  exact rt (ec (hZ n block hc k) <| e0) rfl
theorem zw (n : Nd) (block : Int) (hc : n.store.disk.cache.length ≤ 890) (k : Nat) : ag PP GL XX HH NN (k + 8) 76 [A.agg (Nd.cs n), A.c (ii block)] [] = some ([Res.agg (Nd.cs (eJ n block)), Res.top 5 (List.map Ou.cs [])], []) := by
  rcases bft n.req.on with z0 | z0
  · rcases bft (Rq.block n.req == block) with z1 | z1
    · exact rt (eb6 z0 <| eb z1 <| e0) (by simp only [eJ, z0, z1, vq] <;> rfl)
    · exact rt (eb6 z0 <| eb z1 <| ec (hZ n block hc k) <| e0) (by simp only [eJ, z0, z1, vq] <;> rfl)
  · exact rt (eb6 z0 <| ef <| ec (hZ n block hc k) <| e0) (by simp only [eJ, z0, vq] <;> rfl)
theorem CT (n : Nd) (block : Int) (hc : n.store.disk.cache.length ≤ 890) (h1 : ByteArray.size (ak n.store.disk block).1 ≤ 900000) (k : Nat) : ag PP GL XX HH NN (k + 10) 74 [A.agg (Nd.cs n), A.c (ii block)] [] = some ([Res.agg (Nd.cs n), Res.top 5 (List.map Ou.cs (xZ n block))], []) := by
  exact rt (ec (Ap n.store block (show n.store.disk.cache.length ≤ 900 from by omega) (k + 4)) <| ec (d4 n ((Pk.mk 6 0 hz0 block (ak n.store.disk block).1)) h1 k) <| e0) (by simp only [xZ, pkd, he0, vq] <;> rfl)
theorem B5 (n : Nd) (hs : n.store.disk.sure.length ≤ 1000000) (hc : n.store.disk.cache.length ≤ 890) (k : Nat) : ag PP GL XX HH NN (k + 10) 77 [A.agg (Nd.cs n)] [] = some ([Res.agg (Nd.cs (fa n).1), Res.top 5 (List.map Ou.cs (fa n).2)], []) := by
  rcases bft (ab n ({ So.super n.store with v := cF n.store.super.v, pri := Nd.primary n } : Su)).2 with z0 | z0
  · exact rt (ec (jI n.store.super.v (k + 8)) <| ec (bw n (({ So.super n.store with v := cF n.store.super.v, pri := Nd.primary n } : Su)) hs (show n.store.disk.cache.length ≤ 900 from by omega) (k + 1)) <| en z0 <| ec (d4 (({ Prod.fst (ab n ({ So.super n.store with v := cF n.store.super.v, pri := Nd.primary n } : Su)) with state := 2 } : Nd)) ((Pk.mk 9 0 hz0 0 ⟨#[]⟩)) (show ByteArray.size ⟨#[]⟩ ≤ 900000 from by decide) k) <| e0) (by simp only [fa, cU, pkk, he0, z0, vq] <;> rfl)
  · exact rt (ec (jI n.store.super.v (k + 8)) <| ec (bw n (({ So.super n.store with v := cF n.store.super.v, pri := Nd.primary n } : Su)) hs (show n.store.disk.cache.length ≤ 900 from by omega) (k + 1)) <| en z0 <| e0) (by simp only [fa, cU, pkk, he0, z0, vq] <;> rfl)
theorem Dx (n : Nd) (k : Nat) : ag PP GL XX HH NN (k + 1) 78 [A.agg (Nd.cs n)] [] = some ([Res.agg (Nd.cs ({ n with state := 2 } : Nd))], []) := by
  exact rt (e0) rfl
theorem yL (n : Nd) (k : Nat) : ag PP GL XX HH NN (k + 2) 103 [A.agg (Nd.cs n)] [] = some ([Res.agg (He.cs (mP n))], []) := by
  exact rt (ec (DN n.store.super n.primary n.store.mask k) <| e0) (by simp only [mP, vq] <;> rfl)
theorem n8 (n : Nd) (ses : Int) (k : Nat) : ag PP GL XX HH NN (k + 10) 66 [A.agg (Nd.cs n), A.c (u ses)] [] = some ([Res.agg (Nd.cs (cM n ses).1), Res.top 5 (List.map Ou.cs (cM n ses).2)], []) := by
  exact rt (ec (yL (({ n with state := 1, ses := ses, minted := false } : Nd)) (k + 7)) <| ec (d4 (({ n with state := 1, ses := ses, minted := false } : Nd)) ((Pk.mk 1 0 (mP ({ n with state := 1, ses := ses, minted := false } : Nd)) 0 ⟨#[]⟩)) (show ByteArray.size ⟨#[]⟩ ≤ 900000 from by decide) k) <| e0) (by simp only [cM, r2, vq] <;> rfl)
theorem uL (n : Nd) (h : He) (k : Nat) : ag PP GL XX HH NN (k + 8) 104 [A.agg (Nd.cs n), A.agg (He.cs h)] [] = some ([Res.agg (Vd.cs (ch n h).1), Res.c (w4 (mi (ch n h).2))], []) := by
  rcases bft (Nd.id n == 1) with z0 | z0
  · exact rt (ec (yL n (k + 5)) <| eb z0 <| ec (yL n (k + 5)) <| ec (sM h (mP n) (k + 3)) <| ec (Ad (ap h (mP n)) h (mP n) k) <| e0) (by simp only [ch, z0, vq] <;> rfl)
  · exact rt (ec (yL n (k + 5)) <| eb z0 <| ec (sM (mP n) h (k + 3)) <| ec (Ad (ap (mP n) h) (mP n) h k) <| e0) (by simp only [ch, z0, vq] <;> rfl)
end Go.Dm
namespace Go.Dm
open Go
set_option maxHeartbeats 1000000
theorem w7 (v : Ve) (g : Int) (h : (g == 0) = false) (k : Nat) : ag PP GL XX HH NN (k + 1) 99 [.agg v.cs, .c (u g)] [] = some ([.agg (iF v g).cs, .c (ii 0)], []) := by
  have := C2 v g k
  rw [h] at this
  exact this
theorem y5 (n : Nd) (p : Pk) (k : Nat) : ag PP GL XX HH NN (k + 1) 69 [A.agg (Nd.cs n), A.agg [ii 1, u p.ses, ii p.hello.blocks, u p.hello.v.cur, u p.hello.v.bit, u p.hello.v.o0, u p.hello.v.o1, bo p.hello.inc, bo p.hello.was, bo p.hello.dis, bo p.hello.pri, w4 (mi p.hello.mask), ii p.block, st p.data]] [] = some ([Res.c (bo (a6 n ({ p with kind := 1 } : Pk)))], []) := by
  rcases bft n.up with z0 | z0
  · exact rt (en4 z0 <| ef3 <| en z0 <| ef <| en z0 <| ef7 <| en z0 <| ef <| en z0 <| ef <| et <| e0) (by simp only [a6, z0, vq] <;> rfl)
  · exact rt (en8 z0 <| et <| e0) (by simp only [a6, z0, vq] <;> rfl)
theorem xX (n : Nd) (p : Pk) (k : Nat) : ag PP GL XX HH NN (k + 1) 69 [A.agg (Nd.cs n), A.agg [ii 2, u p.ses, ii p.hello.blocks, u p.hello.v.cur, u p.hello.v.bit, u p.hello.v.o0, u p.hello.v.o1, bo p.hello.inc, bo p.hello.was, bo p.hello.dis, bo p.hello.pri, w4 (mi p.hello.mask), ii p.block, st p.data]] [] = some ([Res.c (bo (a6 n ({ p with kind := 2 } : Pk)))], []) := by
  rcases bft n.up with z0 | z0
  · rcases bft (decide (Pk.block p ≥ Su.blocks n.store.super)) with z1 | z1
    · exact rt (en4 z0 <| et3 <| en z0 <| et <| en z0 <| et7 <| en z0 <| et <| en z0 <| eb z1 <| e0) (by simp only [a6, z0, z1, vq] <;> rfl)
    · rcases bft n.primary with z2 | z2
      · exact rt (en4 z0 <| et3 <| en z0 <| et <| en z0 <| et7 <| en z0 <| et <| en z0 <| eb z1 <| ef <| et <| en4 z2 <| e0) (by simp only [a6, z0, z1, z2, vq] <;> rfl)
      · rcases bft (Nd.state n == 2) with z3 | z3
        · exact rt (en4 z0 <| et3 <| en z0 <| et <| en z0 <| et7 <| en z0 <| et <| en z0 <| eb z1 <| ef <| et <| en2 z2 <| eb z3 <| en z2 <| eb z3 <| en z2 <| e0) (by simp only [a6, z0, z1, z2, z3, vq] <;> rfl)
        · exact rt (en4 z0 <| et3 <| en z0 <| et <| en z0 <| et7 <| en z0 <| et <| en z0 <| eb z1 <| ef <| et <| en2 z2 <| eb z3 <| en z2 <| eb z3 <| en z2 <| e0) (by simp only [a6, z0, z1, z2, z3, vq] <;> rfl)
  · exact rt (en8 z0 <| et <| e0) (by simp only [a6, z0, vq] <;> rfl)
theorem zr (n : Nd) (p : Pk) (k : Nat) : ag PP GL XX HH NN (k + 1) 69 [A.agg (Nd.cs n), A.agg [ii 3, u p.ses, ii p.hello.blocks, u p.hello.v.cur, u p.hello.v.bit, u p.hello.v.o0, u p.hello.v.o1, bo p.hello.inc, bo p.hello.was, bo p.hello.dis, bo p.hello.pri, w4 (mi p.hello.mask), ii p.block, st p.data]] [] = some ([Res.c (bo (a6 n ({ p with kind := 3 } : Pk)))], []) := by
  rcases bft n.up with z0 | z0
  · rcases bft (decide (Pk.block p ≥ Su.blocks n.store.super)) with z1 | z1
    · exact rt (en4 z0 <| et3 <| en z0 <| et <| en z0 <| et7 <| en z0 <| et <| en z0 <| eb z1 <| e0) (by simp only [a6, z0, z1, vq] <;> rfl)
    · rcases bft (Nd.state n == 2) with z2 | z2
      · exact rt (en4 z0 <| et3 <| en z0 <| et <| en z0 <| et7 <| en z0 <| et <| en z0 <| eb z1 <| ef2 <| et <| eb2 z2 <| e0) (by simp only [a6, z0, z1, z2, vq] <;> rfl)
      · exact rt (en4 z0 <| et3 <| en z0 <| et <| en z0 <| et7 <| en z0 <| et <| en z0 <| eb z1 <| ef2 <| et <| eb2 z2 <| e0) (by simp only [a6, z0, z1, z2, vq] <;> rfl)
  · exact rt (en8 z0 <| et <| e0) (by simp only [a6, z0, vq] <;> rfl)
theorem yw (n : Nd) (p : Pk) (k : Nat) : ag PP GL XX HH NN (k + 1) 69 [A.agg (Nd.cs n), A.agg [ii 4, u p.ses, ii p.hello.blocks, u p.hello.v.cur, u p.hello.v.bit, u p.hello.v.o0, u p.hello.v.o1, bo p.hello.inc, bo p.hello.was, bo p.hello.dis, bo p.hello.pri, w4 (mi p.hello.mask), ii p.block, st p.data]] [] = some ([Res.c (bo (a6 n ({ p with kind := 4 } : Pk)))], []) := by
  rcases bft n.up with z0 | z0
  · rcases bft (decide (Pk.block p ≥ Su.blocks n.store.super)) with z1 | z1
    · exact rt (en4 z0 <| et3 <| en z0 <| et <| en z0 <| et7 <| en z0 <| et <| en z0 <| eb z1 <| e0) (by simp only [a6, z0, z1, vq] <;> rfl)
    · rcases bft (Nd.state n == 2) with z2 | z2
      · exact rt (en4 z0 <| et3 <| en z0 <| et <| en z0 <| et7 <| en z0 <| et <| en z0 <| eb z1 <| ef3 <| et <| eb2 z2 <| e0) (by simp only [a6, z0, z1, z2, vq] <;> rfl)
      · exact rt (en4 z0 <| et3 <| en z0 <| et <| en z0 <| et7 <| en z0 <| et <| en z0 <| eb z1 <| ef3 <| et <| eb2 z2 <| e0) (by simp only [a6, z0, z1, z2, vq] <;> rfl)
  · exact rt (en8 z0 <| et <| e0) (by simp only [a6, z0, vq] <;> rfl)
theorem yX (n : Nd) (p : Pk) (k : Nat) : ag PP GL XX HH NN (k + 1) 69 [A.agg (Nd.cs n), A.agg [ii 5, u p.ses, ii p.hello.blocks, u p.hello.v.cur, u p.hello.v.bit, u p.hello.v.o0, u p.hello.v.o1, bo p.hello.inc, bo p.hello.was, bo p.hello.dis, bo p.hello.pri, w4 (mi p.hello.mask), ii p.block, st p.data]] [] = some ([Res.c (bo (a6 n ({ p with kind := 5 } : Pk)))], []) := by
  rcases bft n.up with z0 | z0
  · rcases bft (decide (Pk.block p ≥ Su.blocks n.store.super)) with z1 | z1
    · exact rt (en4 z0 <| et3 <| en z0 <| et <| en z0 <| et7 <| en z0 <| et <| en z0 <| eb z1 <| e0) (by simp only [a6, z0, z1, vq] <;> rfl)
    · exact rt (en4 z0 <| et3 <| en z0 <| et <| en z0 <| et7 <| en z0 <| et <| en z0 <| eb z1 <| ef4 <| et2 <| e0) (by simp only [a6, z0, z1, vq] <;> rfl)
  · exact rt (en8 z0 <| et <| e0) (by simp only [a6, z0, vq] <;> rfl)
theorem yI (n : Nd) (p : Pk) (k : Nat) : ag PP GL XX HH NN (k + 1) 69 [A.agg (Nd.cs n), A.agg [ii 6, u p.ses, ii p.hello.blocks, u p.hello.v.cur, u p.hello.v.bit, u p.hello.v.o0, u p.hello.v.o1, bo p.hello.inc, bo p.hello.was, bo p.hello.dis, bo p.hello.pri, w4 (mi p.hello.mask), ii p.block, st p.data]] [] = some ([Res.c (bo (a6 n ({ p with kind := 6 } : Pk)))], []) := by
  rcases bft n.up with z0 | z0
  · rcases bft (decide (Pk.block p ≥ Su.blocks n.store.super)) with z1 | z1
    · exact rt (en4 z0 <| et3 <| en z0 <| et <| en z0 <| et7 <| en z0 <| et <| en z0 <| eb z1 <| e0) (by simp only [a6, z0, z1, vq] <;> rfl)
    · exact rt (en4 z0 <| et3 <| en z0 <| et <| en z0 <| et7 <| en z0 <| et <| en z0 <| eb z1 <| ef7 <| et <| e0) (by simp only [a6, z0, z1, vq] <;> rfl)
  · exact rt (en8 z0 <| et <| e0) (by simp only [a6, z0, vq] <;> rfl)
theorem ye (n : Nd) (p : Pk) (k : Nat) : ag PP GL XX HH NN (k + 1) 69 [A.agg (Nd.cs n), A.agg [ii 7, u p.ses, ii p.hello.blocks, u p.hello.v.cur, u p.hello.v.bit, u p.hello.v.o0, u p.hello.v.o1, bo p.hello.inc, bo p.hello.was, bo p.hello.dis, bo p.hello.pri, w4 (mi p.hello.mask), ii p.block, st p.data]] [] = some ([Res.c (bo (a6 n ({ p with kind := 7 } : Pk)))], []) := by
  rcases bft n.up with z0 | z0
  · rcases bft (decide (Pk.block p ≥ Su.blocks n.store.super)) with z1 | z1
    · exact rt (en4 z0 <| et3 <| en z0 <| et <| en z0 <| et7 <| en z0 <| et <| en z0 <| eb z1 <| e0) (by simp only [a6, z0, z1, vq] <;> rfl)
    · exact rt (en4 z0 <| et3 <| en z0 <| et <| en z0 <| et7 <| en z0 <| et <| en z0 <| eb z1 <| ef5 <| et2 <| e0) (by simp only [a6, z0, z1, vq] <;> rfl)
  · exact rt (en8 z0 <| et <| e0) (by simp only [a6, z0, vq] <;> rfl)
theorem zA (n : Nd) (p : Pk) (k : Nat) : ag PP GL XX HH NN (k + 1) 69 [A.agg (Nd.cs n), A.agg [ii 8, u p.ses, ii p.hello.blocks, u p.hello.v.cur, u p.hello.v.bit, u p.hello.v.o0, u p.hello.v.o1, bo p.hello.inc, bo p.hello.was, bo p.hello.dis, bo p.hello.pri, w4 (mi p.hello.mask), ii p.block, st p.data]] [] = some ([Res.c (bo (a6 n ({ p with kind := 8 } : Pk)))], []) := by
  rcases bft n.up with z0 | z0
  · exact rt (en4 z0 <| et3 <| en z0 <| et <| en z0 <| ef7 <| en z0 <| ef <| en z0 <| ef7 <| et <| e0) (by simp only [a6, z0, vq] <;> rfl)
  · exact rt (en8 z0 <| et <| e0) (by simp only [a6, z0, vq] <;> rfl)
theorem zi (n : Nd) (p : Pk) (k : Nat) : ag PP GL XX HH NN (k + 1) 69 [A.agg (Nd.cs n), A.agg [ii 9, u p.ses, ii p.hello.blocks, u p.hello.v.cur, u p.hello.v.bit, u p.hello.v.o0, u p.hello.v.o1, bo p.hello.inc, bo p.hello.was, bo p.hello.dis, bo p.hello.pri, w4 (mi p.hello.mask), ii p.block, st p.data]] [] = some ([Res.c (bo (a6 n ({ p with kind := 9 } : Pk)))], []) := by
  rcases bft n.up with z0 | z0
  · rcases bft (Nd.state n == 4) with z1 | z1
    · exact rt (en4 z0 <| et3 <| en z0 <| et <| en z0 <| ef7 <| en z0 <| ef <| en z0 <| ef9 <| et <| eb6 z1 <| e0) (by simp only [a6, z0, z1, vq] <;> rfl)
    · exact rt (en4 z0 <| et3 <| en z0 <| et <| en z0 <| ef7 <| en z0 <| ef <| en z0 <| ef9 <| et <| eb6 z1 <| e0) (by simp only [a6, z0, z1, vq] <;> rfl)
  · exact rt (en8 z0 <| et <| e0) (by simp only [a6, z0, vq] <;> rfl)
theorem uP (n : Nd) (p : Pk) (k : Nat) : ag PP GL XX HH NN (k + 1) 69 [A.agg (Nd.cs n), A.agg [ii 10, u p.ses, ii p.hello.blocks, u p.hello.v.cur, u p.hello.v.bit, u p.hello.v.o0, u p.hello.v.o1, bo p.hello.inc, bo p.hello.was, bo p.hello.dis, bo p.hello.pri, w4 (mi p.hello.mask), ii p.block, st p.data]] [] = some ([Res.c (bo (a6 n ({ p with kind := 10 } : Pk)))], []) := by
  rcases bft n.up with z0 | z0
  · rcases bft (Nd.state n == 2) with z1 | z1
    · exact rt (en4 z0 <| et3 <| en z0 <| et <| en z0 <| ef7 <| en z0 <| ef <| en z0 <| zZ <| et2 <| eb2 z1 <| et2 <| e0) (by simp only [a6, z0, z1, vq] <;> rfl)
    · rcases bft (Nd.state n == 3) with z2 | z2
      · exact rt (en4 z0 <| et3 <| en z0 <| et <| en z0 <| ef7 <| en z0 <| ef <| en z0 <| zZ <| et2 <| eb2 z1 <| eb2 z2 <| e0) (by simp only [a6, z0, z1, z2, vq] <;> rfl)
      · exact rt (en4 z0 <| et3 <| en z0 <| et <| en z0 <| ef7 <| en z0 <| ef <| en z0 <| zZ <| et2 <| eb2 z1 <| eb2 z2 <| e0) (by simp only [a6, z0, z1, z2, vq] <;> rfl)
  · exact rt (en8 z0 <| et <| e0) (by simp only [a6, z0, vq] <;> rfl)
theorem wP (n : Nd) (p : Pk) (k : Nat) : ag PP GL XX HH NN (k + 1) 69 [A.agg (Nd.cs n), A.agg [ii 11, u p.ses, ii p.hello.blocks, u p.hello.v.cur, u p.hello.v.bit, u p.hello.v.o0, u p.hello.v.o1, bo p.hello.inc, bo p.hello.was, bo p.hello.dis, bo p.hello.pri, w4 (mi p.hello.mask), ii p.block, st p.data]] [] = some ([Res.c (bo (a6 n ({ p with kind := 11 } : Pk)))], []) := by
  rcases bft n.up with z0 | z0
  · rcases bft n.asking with z1 | z1
    · rcases bft (Nd.state n == 2) with z2 | z2
      · exact rt (en4 z0 <| et3 <| en z0 <| et <| en z0 <| ef7 <| en z0 <| ef <| en z0 <| kj <| et2 <| eb2 z1 <| eb z2 <| eb z1 <| eb z2 <| eb z1 <| et <| eb z1 <| et <| eb z1 <| e0) (by simp only [a6, z0, z1, z2, vq] <;> rfl)
      · rcases bft (Nd.state n == 3) with z3 | z3
        · exact rt (en4 z0 <| et3 <| en z0 <| et <| en z0 <| ef7 <| en z0 <| ef <| en z0 <| kj <| et2 <| eb2 z1 <| eb z2 <| eb z1 <| eb z2 <| eb z1 <| eb z3 <| eb z1 <| eb z3 <| eb z1 <| e0) (by simp only [a6, z0, z1, z2, z3, vq] <;> rfl)
        · exact rt (en4 z0 <| et3 <| en z0 <| et <| en z0 <| ef7 <| en z0 <| ef <| en z0 <| kj <| et2 <| eb2 z1 <| eb z2 <| eb z1 <| eb z2 <| eb z1 <| eb z3 <| eb z1 <| eb z3 <| eb z1 <| e0) (by simp only [a6, z0, z1, z2, z3, vq] <;> rfl)
    · exact rt (en4 z0 <| et3 <| en z0 <| et <| en z0 <| ef7 <| en z0 <| ef <| en z0 <| kj <| et2 <| eb6 z1 <| e0) (by simp only [a6, z0, z1, vq] <;> rfl)
  · exact rt (en8 z0 <| et <| e0) (by simp only [a6, z0, vq] <;> rfl)
theorem uX (n : Nd) (p : Pk) (k : Nat) : ag PP GL XX HH NN (k + 1) 69 [A.agg (Nd.cs n), A.agg [ii 12, u p.ses, ii p.hello.blocks, u p.hello.v.cur, u p.hello.v.bit, u p.hello.v.o0, u p.hello.v.o1, bo p.hello.inc, bo p.hello.was, bo p.hello.dis, bo p.hello.pri, w4 (mi p.hello.mask), ii p.block, st p.data]] [] = some ([Res.c (bo (a6 n ({ p with kind := 12 } : Pk)))], []) := by
  rcases bft n.up with z0 | z0
  · rcases bft n.asking with z1 | z1
    · rcases bft (Nd.state n == 2) with z2 | z2
      · exact rt (en4 z0 <| et3 <| en z0 <| et <| en z0 <| ef7 <| en z0 <| ef <| en z0 <| kj <| ef <| et <| eb2 z1 <| eb z2 <| eb z1 <| eb z2 <| eb z1 <| et <| eb z1 <| et <| eb z1 <| e0) (by simp only [a6, z0, z1, z2, vq] <;> rfl)
      · rcases bft (Nd.state n == 3) with z3 | z3
        · exact rt (en4 z0 <| et3 <| en z0 <| et <| en z0 <| ef7 <| en z0 <| ef <| en z0 <| kj <| ef <| et <| eb2 z1 <| eb z2 <| eb z1 <| eb z2 <| eb z1 <| eb z3 <| eb z1 <| eb z3 <| eb z1 <| e0) (by simp only [a6, z0, z1, z2, z3, vq] <;> rfl)
        · exact rt (en4 z0 <| et3 <| en z0 <| et <| en z0 <| ef7 <| en z0 <| ef <| en z0 <| kj <| ef <| et <| eb2 z1 <| eb z2 <| eb z1 <| eb z2 <| eb z1 <| eb z3 <| eb z1 <| eb z3 <| eb z1 <| e0) (by simp only [a6, z0, z1, z2, z3, vq] <;> rfl)
    · exact rt (en4 z0 <| et3 <| en z0 <| et <| en z0 <| ef7 <| en z0 <| ef <| en z0 <| kj <| ef <| et <| eb6 z1 <| e0) (by simp only [a6, z0, z1, vq] <;> rfl)
  · exact rt (en8 z0 <| et <| e0) (by simp only [a6, z0, vq] <;> rfl)
theorem uI (n : Nd) (p : Pk) (k : Nat) : ag PP GL XX HH NN (k + 1) 69 [A.agg (Nd.cs n), A.agg [ii 13, u p.ses, ii p.hello.blocks, u p.hello.v.cur, u p.hello.v.bit, u p.hello.v.o0, u p.hello.v.o1, bo p.hello.inc, bo p.hello.was, bo p.hello.dis, bo p.hello.pri, w4 (mi p.hello.mask), ii p.block, st p.data]] [] = some ([Res.c (bo (a6 n ({ p with kind := 13 } : Pk)))], []) := by
  rcases bft n.up with z0 | z0
  · rcases bft (Nd.state n == 2) with z1 | z1
    · exact rt (en4 z0 <| et3 <| en z0 <| et <| en z0 <| ef7 <| en z0 <| ef <| en z0 <| qu <| et <| eb2 z1 <| et2 <| e0) (by simp only [a6, z0, z1, vq] <;> rfl)
    · rcases bft (Nd.state n == 3) with z2 | z2
      · exact rt (en4 z0 <| et3 <| en z0 <| et <| en z0 <| ef7 <| en z0 <| ef <| en z0 <| qu <| et <| eb2 z1 <| eb2 z2 <| e0) (by simp only [a6, z0, z1, z2, vq] <;> rfl)
      · exact rt (en4 z0 <| et3 <| en z0 <| et <| en z0 <| ef7 <| en z0 <| ef <| en z0 <| qu <| et <| eb2 z1 <| eb2 z2 <| e0) (by simp only [a6, z0, z1, z2, vq] <;> rfl)
  · exact rt (en8 z0 <| et <| e0) (by simp only [a6, z0, vq] <;> rfl)
theorem xP (n : Nd) (p : Pk) (h1 : (Pk.kind p == 1) = false) (h2 : (Pk.kind p == 2) = false) (h3 : (Pk.kind p == 3) = false) (h4 : (Pk.kind p == 4) = false) (h5 : (Pk.kind p == 5) = false) (h6 : (Pk.kind p == 6) = false) (h7 : (Pk.kind p == 7) = false) (h8 : (Pk.kind p == 8) = false) (h9 : (Pk.kind p == 9) = false) (h10 : (Pk.kind p == 10) = false) (h11 : (Pk.kind p == 11) = false) (h12 : (Pk.kind p == 12) = false) (h13 : (Pk.kind p == 13) = false) (k : Nat) : ag PP GL XX HH NN (k + 1) 69 [A.agg (Nd.cs n), A.agg (Pk.cs p)] [] = some ([Res.c (bo (a6 n p))], []) := by
  rcases bft n.up with z0 | z0
  · rcases bft (decide (Pk.kind p ≥ 2)) with z1 | z1
    · rcases bft (decide (Pk.kind p ≤ 7)) with z2 | z2
      · rcases bft (decide (Pk.block p ≥ Su.blocks n.store.super)) with z3 | z3
        · exact rt (en4 z0 <| eb3 z1 <| en z0 <| eb z1 <| en z0 <| eb7 z2 <| en z0 <| eb z2 <| en z0 <| eb z3 <| e0) (by simp only [a6, z0, z1, z2, z3, vq] <;> rfl)
        · exact rt (en4 z0 <| eb3 z1 <| en z0 <| eb z1 <| en z0 <| eb7 z2 <| en z0 <| eb z2 <| en z0 <| eb z3 <| eb h1 <| eb h2 <| eb h3 <| eb h4 <| eb h5 <| eb h7 <| eb h8 <| eb h6 <| eb h9 <| eb h10 <| eb h13 <| eb h11 <| eb h12 <| e0) (by simp_all only [a6, vq] <;> rfl)
      · exact rt (en4 z0 <| eb3 z1 <| en z0 <| eb z1 <| en z0 <| eb7 z2 <| en z0 <| eb z2 <| en z0 <| ef <| eb h1 <| eb h2 <| eb h3 <| eb h4 <| eb h5 <| eb h7 <| eb h8 <| eb h6 <| eb h9 <| eb h10 <| eb h13 <| eb h11 <| eb h12 <| e0) (by simp_all only [a6, vq] <;> rfl)
    · exact rt (en4 z0 <| eb3 z1 <| en z0 <| eb z1 <| en z0 <| ef7 <| en z0 <| ef <| en z0 <| ef <| eb h1 <| eb h2 <| eb h3 <| eb h4 <| eb h5 <| eb h7 <| eb h8 <| eb h6 <| eb h9 <| eb h10 <| eb h13 <| eb h11 <| eb h12 <| e0) (by simp_all only [a6, vq] <;> rfl)
  · exact rt (en8 z0 <| et <| e0) (by simp only [a6, z0, vq] <;> rfl)
theorem gj (n : Nd) (p : Pk) (k : Nat) : ag PP GL XX HH NN (k + 1) 69 [.agg n.cs, .agg p.cs] [] = some ([.c (bo (a6 n p))], []) := by
  obtain ⟨kind, ses, hello, block, data⟩ := p
  by_cases k1 : kind = 1
  · subst k1; exact y5 n ⟨1, ses, hello, block, data⟩ k
  by_cases k2 : kind = 2
  · subst k2; exact xX n ⟨2, ses, hello, block, data⟩ k
  by_cases k3 : kind = 3
  · subst k3; exact zr n ⟨3, ses, hello, block, data⟩ k
  by_cases k4 : kind = 4
  · subst k4; exact yw n ⟨4, ses, hello, block, data⟩ k
  by_cases k5 : kind = 5
  · subst k5; exact yX n ⟨5, ses, hello, block, data⟩ k
  by_cases k6 : kind = 6
  · subst k6; exact yI n ⟨6, ses, hello, block, data⟩ k
  by_cases k7 : kind = 7
  · subst k7; exact ye n ⟨7, ses, hello, block, data⟩ k
  by_cases k8 : kind = 8
  · subst k8; exact zA n ⟨8, ses, hello, block, data⟩ k
  by_cases k9 : kind = 9
  · subst k9; exact zi n ⟨9, ses, hello, block, data⟩ k
  by_cases k10 : kind = 10
  · subst k10; exact uP n ⟨10, ses, hello, block, data⟩ k
  by_cases k11 : kind = 11
  · subst k11; exact wP n ⟨11, ses, hello, block, data⟩ k
  by_cases k12 : kind = 12
  · subst k12; exact uX n ⟨12, ses, hello, block, data⟩ k
  by_cases k13 : kind = 13
  · subst k13; exact uI n ⟨13, ses, hello, block, data⟩ k
  exact xP n ⟨kind, ses, hello, block, data⟩ (beq_false_of_ne k1) (beq_false_of_ne k2) (beq_false_of_ne k3) (beq_false_of_ne k4) (beq_false_of_ne k5) (beq_false_of_ne k6) (beq_false_of_ne k7) (beq_false_of_ne k8) (beq_false_of_ne k9) (beq_false_of_ne k10) (beq_false_of_ne k11) (beq_false_of_ne k12) (beq_false_of_ne k13) k
theorem Ay (n : Nd) (hs : n.store.disk.sure.length ≤ 1000000) (hc : n.store.disk.cache.length ≤ 890) (k : Nat) : ag PP GL XX HH NN (k + 10) 108 [A.agg (Nd.cs n)] [] = some ([Res.agg (Nd.cs (dP n).1), Res.top 5 (List.map Ou.cs (dP n).2)], []) := by
  rcases bft n.store.super.inc with z0 | z0
  · rcases bft (Nd.wanted n == 0) with z1 | z1
    · rcases bft (Option.isSome (kG n.store.mask 0)) with z2 | z2
      · exact rt (en4 z0 <| en z1 <| ec (Co n.store.mask 0 (k + 5)) <| eb z2 <| ec (d4 (({ n with wanted := IntKind.wrap .i64 (Option.getD (kG n.store.mask 0) 0 + 1) } : Nd)) ((Pk.mk 5 0 hz0 (Option.getD (kG n.store.mask 0) 0) ⟨#[]⟩)) (show ByteArray.size ⟨#[]⟩ ≤ 900000 from by decide) k) <| e0) (by simp only [dP, js, pkk, pkb, he0, z0, z1, z2, vq] <;> rfl)
      · rcases bft (ab n (Su.mk n.store.super.blocks (cF n.peer.v) false false false)).2 with z3 | z3
        · exact rt (en4 z0 <| en z1 <| ec (Co n.store.mask 0 (k + 5)) <| eb z2 <| ec (jI n.peer.v (k + 8)) <| ec (bw n ((Su.mk n.store.super.blocks (cF n.peer.v) false false false)) hs (show n.store.disk.cache.length ≤ 900 from by omega) (k + 1)) <| en z3 <| ec (d4 (ab n (Su.mk n.store.super.blocks (cF n.peer.v) false false false)).1 ((Pk.mk 8 0 hz0 0 ⟨#[]⟩)) (show ByteArray.size ⟨#[]⟩ ≤ 900000 from by decide) k) <| e0) (by simp only [dP, js, pkk, pkb, he0, z0, z1, z2, z3, vq] <;> rfl)
        · exact rt (en4 z0 <| en z1 <| ec (Co n.store.mask 0 (k + 5)) <| eb z2 <| ec (jI n.peer.v (k + 8)) <| ec (bw n ((Su.mk n.store.super.blocks (cF n.peer.v) false false false)) hs (show n.store.disk.cache.length ≤ 900 from by omega) (k + 1)) <| en z3 <| e0) (by simp only [dP, js, pkk, pkb, he0, z0, z1, z2, z3, vq] <;> rfl)
    · exact rt (en4 z0 <| en z1 <| e0) (by simp only [dP, js, pkk, pkb, he0, z0, z1, vq] <;> rfl)
  · exact rt (en4 z0 <| et <| e0) (by simp only [dP, js, pkk, pkb, he0, z0, vq] <;> rfl)
theorem Gb (n : Nd) (k : Nat) : ag PP GL XX HH NN (k + 9) 63 [A.agg (Nd.csd n [])] [] = some ([Res.agg (Nd.csd n []), Res.c (ii 14)], []) := by
  exact rt (ep (rfl : (0 : Nat) = (0 : Nat)) <| eg (G.len 0) <| et <| e0) rfl
theorem Fi (n : Nd) (g : Int) (r : List Int) (h0 : (g == 0) = true) (hr : r.length ≤ 1000000) (k : Nat) : ag PP GL XX HH NN (k + 9) 63 [A.agg (Nd.cs ({ n with draws := g :: r } : Nd))] [] = some ([Res.agg (Nd.cs (fU n g r).1), Res.c (ii (fU n g r).2)], []) := by
  exact rt (ep (af (eU) (g :: r)) <| eg (G.len (List.length (g :: r))) <| ef <| ep (rfl : (0 : Int) = (0 : Int)) <| ep (ao (f := eU) (l := g :: r) (i := 0) (x := g) rfl) <| eg (G.idx 0 [u g]) <| ep (af (eU) (g :: r)).symm <| ep (rfl : (1 : Int) = (1 : Int)) <| ep (show (1 : Nat) ≤ List.length (g :: r) from by simp only [vr]; omega) <| ep (Nat.le_of_eq (af (eU) (g :: r)).symm) <| ep (lz (eU) (g :: r) 1) <| eg (G.cut 1 (List.length (g :: r)) (List.map eU r)) <| ep (bq (List.map eU r)) <| ep (ar (eU) (l := r) (n := 1073741824) (by omega)) <| eg (G.app (List.map eU r)) <| eb h0 <| e0) (by simp only [fU, zX, h0, vq] <;> rfl)
theorem F7 (n : Nd) (g : Int) (r : List Int) (h0 : (g == 0) = false) (hr : r.length ≤ 1000000) (hm : n.mints.length ≤ 1000000) (hs : n.store.disk.sure.length ≤ 1000000) (hc : n.store.disk.cache.length ≤ 890) (k : Nat) : ag PP GL XX HH NN (k + 9) 63 [A.agg (Nd.cs ({ n with draws := g :: r } : Nd))] [] = some ([Res.agg (Nd.cs (fU n g r).1), Res.c (ii (fU n g r).2)], []) := by
  rcases bft (ab ({ n with draws := r, mints := Nd.mints n ++ [(Mi.mk g n.store.super.v.cur n.id)] } : Nd) ({ So.super n.store with v := iF n.store.super.v g } : Su)).2 with z0 | z0
  · exact rt (ep (af (eU) (g :: r)) <| eg (G.len (List.length (g :: r))) <| ef <| ep (rfl : (0 : Int) = (0 : Int)) <| ep (ao (f := eU) (l := g :: r) (i := 0) (x := g) rfl) <| eg (G.idx 0 [u g]) <| ep (af (eU) (g :: r)).symm <| ep (rfl : (1 : Int) = (1 : Int)) <| ep (show (1 : Nat) ≤ List.length (g :: r) from by simp only [vr]; omega) <| ep (Nat.le_of_eq (af (eU) (g :: r)).symm) <| ep (lz (eU) (g :: r) 1) <| eg (G.cut 1 (List.length (g :: r)) (List.map eU r)) <| ep (bq (List.map eU r)) <| ep (ar (eU) (l := r) (n := 1073741824) (by omega)) <| eg (G.app (List.map eU r)) <| eb h0 <| ep (bq (List.map Mi.cs n.mints)) <| ep (ar (Mi.cs) (l := Nd.mints n) (n := 1073741824) (by omega)) <| eg (G.app (List.map Mi.cs n.mints)) <| ep (a9 (Mi.cs) n.mints ([(Mi.mk g n.store.super.v.cur n.id)])) <| ep (ar (Mi.cs) (l := Nd.mints n ++ [(Mi.mk g n.store.super.v.cur n.id)]) (n := 1073741824) (by simp only [vr]; omega)) <| ep (Eq.refl (List.length (List.map Mi.cs n.mints))) <| eg (G.app (List.map Mi.cs (Nd.mints n ++ [(Mi.mk g n.store.super.v.cur n.id)]))) <| ec (w7 n.store.super.v g h0 (k + 7)) <| ec (bw (({ n with draws := r, mints := Nd.mints n ++ [(Mi.mk g n.store.super.v.cur n.id)] } : Nd)) (({ So.super n.store with v := iF n.store.super.v g } : Su)) hs (show n.store.disk.cache.length ≤ 900 from by omega) k) <| en z0 <| e0) (by simp only [fU, jr, mv, h0, z0, vq] <;> rfl)
  · exact rt (ep (af (eU) (g :: r)) <| eg (G.len (List.length (g :: r))) <| ef <| ep (rfl : (0 : Int) = (0 : Int)) <| ep (ao (f := eU) (l := g :: r) (i := 0) (x := g) rfl) <| eg (G.idx 0 [u g]) <| ep (af (eU) (g :: r)).symm <| ep (rfl : (1 : Int) = (1 : Int)) <| ep (show (1 : Nat) ≤ List.length (g :: r) from by simp only [vr]; omega) <| ep (Nat.le_of_eq (af (eU) (g :: r)).symm) <| ep (lz (eU) (g :: r) 1) <| eg (G.cut 1 (List.length (g :: r)) (List.map eU r)) <| ep (bq (List.map eU r)) <| ep (ar (eU) (l := r) (n := 1073741824) (by omega)) <| eg (G.app (List.map eU r)) <| eb h0 <| ep (bq (List.map Mi.cs n.mints)) <| ep (ar (Mi.cs) (l := Nd.mints n) (n := 1073741824) (by omega)) <| eg (G.app (List.map Mi.cs n.mints)) <| ep (a9 (Mi.cs) n.mints ([(Mi.mk g n.store.super.v.cur n.id)])) <| ep (ar (Mi.cs) (l := Nd.mints n ++ [(Mi.mk g n.store.super.v.cur n.id)]) (n := 1073741824) (by simp only [vr]; omega)) <| ep (Eq.refl (List.length (List.map Mi.cs n.mints))) <| eg (G.app (List.map Mi.cs (Nd.mints n ++ [(Mi.mk g n.store.super.v.cur n.id)]))) <| ec (w7 n.store.super.v g h0 (k + 7)) <| ec (bw (({ n with draws := r, mints := Nd.mints n ++ [(Mi.mk g n.store.super.v.cur n.id)] } : Nd)) (({ So.super n.store with v := iF n.store.super.v g } : Su)) hs (show n.store.disk.cache.length ≤ 900 from by omega) k) <| en z0 <| e0) (by simp only [fU, jr, mv, h0, z0, vq] <;> rfl)
theorem jp (n : Nd) (hr : n.draws.length ≤ 1000000) (hm : n.mints.length ≤ 1000000) (hs : n.store.disk.sure.length ≤ 1000000) (hc : n.store.disk.cache.length ≤ 890) (k : Nat) : ag PP GL XX HH NN (k + 9) 63 [.agg n.cs] [] = some ([.agg (av n).1.cs, .c (ii (av n).2)], []) := by
  obtain ⟨a, b, s, c, d, e, f, g, h, i, j, l, m, ds, ms⟩ := n
  cases ds with
  | nil => exact Gb ⟨a, b, s, c, d, e, f, g, h, i, j, l, m, [], ms⟩ k
  | cons x r =>
    have hr' : r.length ≤ 1000000 := by simp at hr; omega
    cases h0 : x == 0 with
    | true => exact Fi ⟨a, b, s, c, d, e, f, g, h, i, j, l, m, x :: r, ms⟩ x r h0 hr' k
    | false => exact F7 ⟨a, b, s, c, d, e, f, g, h, i, j, l, m, x :: r, ms⟩ x r h0 hr' hm hs hc k
end Go.Dm
namespace Go.Dm
open Go
set_option maxHeartbeats 1000000
theorem sU (n : Nd) (hr : n.draws.length ≤ 1000000) (hm : n.mints.length ≤ 1000000) (hs : n.store.disk.sure.length ≤ 1000000) (hc : n.store.disk.cache.length ≤ 890) (k : Nat) : ag PP GL XX HH NN (k + 10) 68 [A.agg (Nd.cs n)] [] = some ([Res.agg (Nd.cs (aj n).1), Res.top 5 (List.map Ou.cs (aj n).2)], []) := by
  rcases bft (Nd.state n == 0) with z0 | z0
  · exact rt (eb z0 <| e0) (by simp only [aj, eP, rq0, he0, dy, z0, vq] <;> rfl)
  · rcases bft n.asking with z1 | z1
    · rcases bft n.req.on with z2 | z2
      · rcases bft (Prod.snd (av (Nd.mk n.id n.up n.store n.primary 0 0 hz0 false rqz false 0 0 false n.draws n.mints)) == 6) with z3 | z3
        · exact rt (eb z0 <| eb z1 <| ec (br n n.askId 13 ⟨#[]⟩ (k + 8)) <| ep (bq ([[ii (ae n n.askId 13 ⟨#[]⟩).kind, ii (ae n n.askId 13 ⟨#[]⟩).node, ii (ae n n.askId 13 ⟨#[]⟩).id, ii (ae n n.askId 13 ⟨#[]⟩).err, st (ae n n.askId 13 ⟨#[]⟩).data]])) <| ep (show List.length [[ii (ae n n.askId (13 : Int) ⟨#[]⟩).kind, ii (ae n n.askId (13 : Int) ⟨#[]⟩).node, ii (ae n n.askId (13 : Int) ⟨#[]⟩).id, ii (ae n n.askId (13 : Int) ⟨#[]⟩).err, st (ae n n.askId (13 : Int) ⟨#[]⟩).data]] ≤ 1073741824 from by simp only [vr]; omega) <| eg (G.app [[ii (ae n n.askId 13 ⟨#[]⟩).kind, ii (ae n n.askId 13 ⟨#[]⟩).node, ii (ae n n.askId 13 ⟨#[]⟩).id, ii (ae n n.askId 13 ⟨#[]⟩).err, st (ae n n.askId 13 ⟨#[]⟩).data]]) <| en z2 <| ec (jp ((Nd.mk n.id n.up n.store n.primary 0 0 hz0 false rqz false 0 0 false n.draws n.mints)) hr hm hs hc k) <| eb z3 <| ep ((rfl : (1 : Nat) = (1 : Nat))).symm <| e0) (by simp only [aj, eP, rq0, he0, dy, z0, z1, z2, z3, vq] <;> rfl)
        · exact rt (eb z0 <| eb z1 <| ec (br n n.askId 13 ⟨#[]⟩ (k + 8)) <| ep (bq ([[ii (ae n n.askId 13 ⟨#[]⟩).kind, ii (ae n n.askId 13 ⟨#[]⟩).node, ii (ae n n.askId 13 ⟨#[]⟩).id, ii (ae n n.askId 13 ⟨#[]⟩).err, st (ae n n.askId 13 ⟨#[]⟩).data]])) <| ep (show List.length [[ii (ae n n.askId (13 : Int) ⟨#[]⟩).kind, ii (ae n n.askId (13 : Int) ⟨#[]⟩).node, ii (ae n n.askId (13 : Int) ⟨#[]⟩).id, ii (ae n n.askId (13 : Int) ⟨#[]⟩).err, st (ae n n.askId (13 : Int) ⟨#[]⟩).data]] ≤ 1073741824 from by simp only [vr]; omega) <| eg (G.app [[ii (ae n n.askId 13 ⟨#[]⟩).kind, ii (ae n n.askId 13 ⟨#[]⟩).node, ii (ae n n.askId 13 ⟨#[]⟩).id, ii (ae n n.askId 13 ⟨#[]⟩).err, st (ae n n.askId 13 ⟨#[]⟩).data]]) <| en z2 <| ec (jp ((Nd.mk n.id n.up n.store n.primary 0 0 hz0 false rqz false 0 0 false n.draws n.mints)) hr hm hs hc k) <| eb z3 <| ec (br (av (Nd.mk n.id n.up n.store n.primary 0 0 hz0 false rqz false 0 0 false n.draws n.mints)).1 n.req.id (av (Nd.mk n.id n.up n.store n.primary 0 0 hz0 false rqz false 0 0 false n.draws n.mints)).2 ⟨#[]⟩ (k + 8)) <| ep (rfl : [[ii (ae n n.askId (13 : Int) ⟨#[]⟩).kind, ii (ae n n.askId (13 : Int) ⟨#[]⟩).node, ii (ae n n.askId (13 : Int) ⟨#[]⟩).id, ii (ae n n.askId (13 : Int) ⟨#[]⟩).err, st (ae n n.askId (13 : Int) ⟨#[]⟩).data], [ii (ae (av (Nd.mk n.id n.up n.store n.primary 0 0 hz0 false rqz false 0 0 false n.draws n.mints)).1 n.req.id (av (Nd.mk n.id n.up n.store n.primary 0 0 hz0 false rqz false 0 0 false n.draws n.mints)).2 ⟨#[]⟩).kind, ii (ae (av (Nd.mk n.id n.up n.store n.primary 0 0 hz0 false rqz false 0 0 false n.draws n.mints)).1 n.req.id (av (Nd.mk n.id n.up n.store n.primary 0 0 hz0 false rqz false 0 0 false n.draws n.mints)).2 ⟨#[]⟩).node, ii (ae (av (Nd.mk n.id n.up n.store n.primary 0 0 hz0 false rqz false 0 0 false n.draws n.mints)).1 n.req.id (av (Nd.mk n.id n.up n.store n.primary 0 0 hz0 false rqz false 0 0 false n.draws n.mints)).2 ⟨#[]⟩).id, ii (ae (av (Nd.mk n.id n.up n.store n.primary 0 0 hz0 false rqz false 0 0 false n.draws n.mints)).1 n.req.id (av (Nd.mk n.id n.up n.store n.primary 0 0 hz0 false rqz false 0 0 false n.draws n.mints)).2 ⟨#[]⟩).err, st (ae (av (Nd.mk n.id n.up n.store n.primary 0 0 hz0 false rqz false 0 0 false n.draws n.mints)).1 n.req.id (av (Nd.mk n.id n.up n.store n.primary 0 0 hz0 false rqz false 0 0 false n.draws n.mints)).2 ⟨#[]⟩).data]] = [[ii (ae n n.askId (13 : Int) ⟨#[]⟩).kind, ii (ae n n.askId (13 : Int) ⟨#[]⟩).node, ii (ae n n.askId (13 : Int) ⟨#[]⟩).id, ii (ae n n.askId (13 : Int) ⟨#[]⟩).err, st (ae n n.askId (13 : Int) ⟨#[]⟩).data], [ii (ae (av (Nd.mk n.id n.up n.store n.primary 0 0 hz0 false rqz false 0 0 false n.draws n.mints)).1 n.req.id (av (Nd.mk n.id n.up n.store n.primary 0 0 hz0 false rqz false 0 0 false n.draws n.mints)).2 ⟨#[]⟩).kind, ii (ae (av (Nd.mk n.id n.up n.store n.primary 0 0 hz0 false rqz false 0 0 false n.draws n.mints)).1 n.req.id (av (Nd.mk n.id n.up n.store n.primary 0 0 hz0 false rqz false 0 0 false n.draws n.mints)).2 ⟨#[]⟩).node, ii (ae (av (Nd.mk n.id n.up n.store n.primary 0 0 hz0 false rqz false 0 0 false n.draws n.mints)).1 n.req.id (av (Nd.mk n.id n.up n.store n.primary 0 0 hz0 false rqz false 0 0 false n.draws n.mints)).2 ⟨#[]⟩).id, ii (ae (av (Nd.mk n.id n.up n.store n.primary 0 0 hz0 false rqz false 0 0 false n.draws n.mints)).1 n.req.id (av (Nd.mk n.id n.up n.store n.primary 0 0 hz0 false rqz false 0 0 false n.draws n.mints)).2 ⟨#[]⟩).err, st (ae (av (Nd.mk n.id n.up n.store n.primary 0 0 hz0 false rqz false 0 0 false n.draws n.mints)).1 n.req.id (av (Nd.mk n.id n.up n.store n.primary 0 0 hz0 false rqz false 0 0 false n.draws n.mints)).2 ⟨#[]⟩).data]]) <| ep (show List.length [[ii (ae n n.askId (13 : Int) ⟨#[]⟩).kind, ii (ae n n.askId (13 : Int) ⟨#[]⟩).node, ii (ae n n.askId (13 : Int) ⟨#[]⟩).id, ii (ae n n.askId (13 : Int) ⟨#[]⟩).err, st (ae n n.askId (13 : Int) ⟨#[]⟩).data], [ii (ae (av (Nd.mk n.id n.up n.store n.primary 0 0 hz0 false rqz false 0 0 false n.draws n.mints)).1 n.req.id (av (Nd.mk n.id n.up n.store n.primary 0 0 hz0 false rqz false 0 0 false n.draws n.mints)).2 ⟨#[]⟩).kind, ii (ae (av (Nd.mk n.id n.up n.store n.primary 0 0 hz0 false rqz false 0 0 false n.draws n.mints)).1 n.req.id (av (Nd.mk n.id n.up n.store n.primary 0 0 hz0 false rqz false 0 0 false n.draws n.mints)).2 ⟨#[]⟩).node, ii (ae (av (Nd.mk n.id n.up n.store n.primary 0 0 hz0 false rqz false 0 0 false n.draws n.mints)).1 n.req.id (av (Nd.mk n.id n.up n.store n.primary 0 0 hz0 false rqz false 0 0 false n.draws n.mints)).2 ⟨#[]⟩).id, ii (ae (av (Nd.mk n.id n.up n.store n.primary 0 0 hz0 false rqz false 0 0 false n.draws n.mints)).1 n.req.id (av (Nd.mk n.id n.up n.store n.primary 0 0 hz0 false rqz false 0 0 false n.draws n.mints)).2 ⟨#[]⟩).err, st (ae (av (Nd.mk n.id n.up n.store n.primary 0 0 hz0 false rqz false 0 0 false n.draws n.mints)).1 n.req.id (av (Nd.mk n.id n.up n.store n.primary 0 0 hz0 false rqz false 0 0 false n.draws n.mints)).2 ⟨#[]⟩).data]] ≤ 1073741824 from by simp only [vr]; omega) <| ep ((rfl : (1 : Nat) = (1 : Nat))).symm <| eg (G.app [[ii (ae n n.askId 13 ⟨#[]⟩).kind, ii (ae n n.askId 13 ⟨#[]⟩).node, ii (ae n n.askId 13 ⟨#[]⟩).id, ii (ae n n.askId 13 ⟨#[]⟩).err, st (ae n n.askId 13 ⟨#[]⟩).data], [ii (ae (av (Nd.mk n.id n.up n.store n.primary 0 0 hz0 false rqz false 0 0 false n.draws n.mints)).1 n.req.id (av (Nd.mk n.id n.up n.store n.primary 0 0 hz0 false rqz false 0 0 false n.draws n.mints)).2 ⟨#[]⟩).kind, ii (ae (av (Nd.mk n.id n.up n.store n.primary 0 0 hz0 false rqz false 0 0 false n.draws n.mints)).1 n.req.id (av (Nd.mk n.id n.up n.store n.primary 0 0 hz0 false rqz false 0 0 false n.draws n.mints)).2 ⟨#[]⟩).node, ii (ae (av (Nd.mk n.id n.up n.store n.primary 0 0 hz0 false rqz false 0 0 false n.draws n.mints)).1 n.req.id (av (Nd.mk n.id n.up n.store n.primary 0 0 hz0 false rqz false 0 0 false n.draws n.mints)).2 ⟨#[]⟩).id, ii (ae (av (Nd.mk n.id n.up n.store n.primary 0 0 hz0 false rqz false 0 0 false n.draws n.mints)).1 n.req.id (av (Nd.mk n.id n.up n.store n.primary 0 0 hz0 false rqz false 0 0 false n.draws n.mints)).2 ⟨#[]⟩).err, st (ae (av (Nd.mk n.id n.up n.store n.primary 0 0 hz0 false rqz false 0 0 false n.draws n.mints)).1 n.req.id (av (Nd.mk n.id n.up n.store n.primary 0 0 hz0 false rqz false 0 0 false n.draws n.mints)).2 ⟨#[]⟩).data]]) <| ep ((rfl : (2 : Nat) = (2 : Nat))).symm <| e0) (by simp only [aj, eP, rq0, he0, dy, z0, z1, z2, z3, vq] <;> rfl)
      · exact rt (eb z0 <| eb z1 <| ec (br n n.askId 13 ⟨#[]⟩ (k + 8)) <| ep (bq ([[ii (ae n n.askId 13 ⟨#[]⟩).kind, ii (ae n n.askId 13 ⟨#[]⟩).node, ii (ae n n.askId 13 ⟨#[]⟩).id, ii (ae n n.askId 13 ⟨#[]⟩).err, st (ae n n.askId 13 ⟨#[]⟩).data]])) <| ep (show List.length [[ii (ae n n.askId (13 : Int) ⟨#[]⟩).kind, ii (ae n n.askId (13 : Int) ⟨#[]⟩).node, ii (ae n n.askId (13 : Int) ⟨#[]⟩).id, ii (ae n n.askId (13 : Int) ⟨#[]⟩).err, st (ae n n.askId (13 : Int) ⟨#[]⟩).data]] ≤ 1073741824 from by simp only [vr]; omega) <| eg (G.app [[ii (ae n n.askId 13 ⟨#[]⟩).kind, ii (ae n n.askId 13 ⟨#[]⟩).node, ii (ae n n.askId 13 ⟨#[]⟩).id, ii (ae n n.askId 13 ⟨#[]⟩).err, st (ae n n.askId 13 ⟨#[]⟩).data]]) <| en z2 <| ep ((rfl : (1 : Nat) = (1 : Nat))).symm <| e0) (by simp only [aj, eP, rq0, he0, dy, z0, z1, z2, vq] <;> rfl)
    · rcases bft n.req.on with z2 | z2
      · rcases bft (Prod.snd (av (Nd.mk n.id n.up n.store n.primary 0 0 hz0 false rqz false 0 0 false n.draws n.mints)) == 6) with z3 | z3
        · exact rt (eb z0 <| eb z1 <| en z2 <| ec (jp ((Nd.mk n.id n.up n.store n.primary 0 0 hz0 false rqz false 0 0 false n.draws n.mints)) hr hm hs hc k) <| eb z3 <| e0) (by simp only [aj, eP, rq0, he0, dy, z0, z1, z2, z3, vq] <;> rfl)
        · exact rt (eb z0 <| eb z1 <| en z2 <| ec (jp ((Nd.mk n.id n.up n.store n.primary 0 0 hz0 false rqz false 0 0 false n.draws n.mints)) hr hm hs hc k) <| eb z3 <| ec (br (av (Nd.mk n.id n.up n.store n.primary 0 0 hz0 false rqz false 0 0 false n.draws n.mints)).1 n.req.id (av (Nd.mk n.id n.up n.store n.primary 0 0 hz0 false rqz false 0 0 false n.draws n.mints)).2 ⟨#[]⟩ (k + 8)) <| ep (bq ([[ii (ae (av (Nd.mk n.id n.up n.store n.primary 0 0 hz0 false rqz false 0 0 false n.draws n.mints)).1 n.req.id (av (Nd.mk n.id n.up n.store n.primary 0 0 hz0 false rqz false 0 0 false n.draws n.mints)).2 ⟨#[]⟩).kind, ii (ae (av (Nd.mk n.id n.up n.store n.primary 0 0 hz0 false rqz false 0 0 false n.draws n.mints)).1 n.req.id (av (Nd.mk n.id n.up n.store n.primary 0 0 hz0 false rqz false 0 0 false n.draws n.mints)).2 ⟨#[]⟩).node, ii (ae (av (Nd.mk n.id n.up n.store n.primary 0 0 hz0 false rqz false 0 0 false n.draws n.mints)).1 n.req.id (av (Nd.mk n.id n.up n.store n.primary 0 0 hz0 false rqz false 0 0 false n.draws n.mints)).2 ⟨#[]⟩).id, ii (ae (av (Nd.mk n.id n.up n.store n.primary 0 0 hz0 false rqz false 0 0 false n.draws n.mints)).1 n.req.id (av (Nd.mk n.id n.up n.store n.primary 0 0 hz0 false rqz false 0 0 false n.draws n.mints)).2 ⟨#[]⟩).err, st (ae (av (Nd.mk n.id n.up n.store n.primary 0 0 hz0 false rqz false 0 0 false n.draws n.mints)).1 n.req.id (av (Nd.mk n.id n.up n.store n.primary 0 0 hz0 false rqz false 0 0 false n.draws n.mints)).2 ⟨#[]⟩).data]])) <| ep (show List.length [[ii (ae (av (Nd.mk n.id n.up n.store n.primary 0 0 hz0 false rqz false 0 0 false n.draws n.mints)).1 n.req.id (av (Nd.mk n.id n.up n.store n.primary 0 0 hz0 false rqz false 0 0 false n.draws n.mints)).2 ⟨#[]⟩).kind, ii (ae (av (Nd.mk n.id n.up n.store n.primary 0 0 hz0 false rqz false 0 0 false n.draws n.mints)).1 n.req.id (av (Nd.mk n.id n.up n.store n.primary 0 0 hz0 false rqz false 0 0 false n.draws n.mints)).2 ⟨#[]⟩).node, ii (ae (av (Nd.mk n.id n.up n.store n.primary 0 0 hz0 false rqz false 0 0 false n.draws n.mints)).1 n.req.id (av (Nd.mk n.id n.up n.store n.primary 0 0 hz0 false rqz false 0 0 false n.draws n.mints)).2 ⟨#[]⟩).id, ii (ae (av (Nd.mk n.id n.up n.store n.primary 0 0 hz0 false rqz false 0 0 false n.draws n.mints)).1 n.req.id (av (Nd.mk n.id n.up n.store n.primary 0 0 hz0 false rqz false 0 0 false n.draws n.mints)).2 ⟨#[]⟩).err, st (ae (av (Nd.mk n.id n.up n.store n.primary 0 0 hz0 false rqz false 0 0 false n.draws n.mints)).1 n.req.id (av (Nd.mk n.id n.up n.store n.primary 0 0 hz0 false rqz false 0 0 false n.draws n.mints)).2 ⟨#[]⟩).data]] ≤ 1073741824 from by simp only [vr]; omega) <| eg (G.app [[ii (ae (av (Nd.mk n.id n.up n.store n.primary 0 0 hz0 false rqz false 0 0 false n.draws n.mints)).1 n.req.id (av (Nd.mk n.id n.up n.store n.primary 0 0 hz0 false rqz false 0 0 false n.draws n.mints)).2 ⟨#[]⟩).kind, ii (ae (av (Nd.mk n.id n.up n.store n.primary 0 0 hz0 false rqz false 0 0 false n.draws n.mints)).1 n.req.id (av (Nd.mk n.id n.up n.store n.primary 0 0 hz0 false rqz false 0 0 false n.draws n.mints)).2 ⟨#[]⟩).node, ii (ae (av (Nd.mk n.id n.up n.store n.primary 0 0 hz0 false rqz false 0 0 false n.draws n.mints)).1 n.req.id (av (Nd.mk n.id n.up n.store n.primary 0 0 hz0 false rqz false 0 0 false n.draws n.mints)).2 ⟨#[]⟩).id, ii (ae (av (Nd.mk n.id n.up n.store n.primary 0 0 hz0 false rqz false 0 0 false n.draws n.mints)).1 n.req.id (av (Nd.mk n.id n.up n.store n.primary 0 0 hz0 false rqz false 0 0 false n.draws n.mints)).2 ⟨#[]⟩).err, st (ae (av (Nd.mk n.id n.up n.store n.primary 0 0 hz0 false rqz false 0 0 false n.draws n.mints)).1 n.req.id (av (Nd.mk n.id n.up n.store n.primary 0 0 hz0 false rqz false 0 0 false n.draws n.mints)).2 ⟨#[]⟩).data]]) <| ep ((rfl : (1 : Nat) = (1 : Nat))).symm <| e0) (by simp only [aj, eP, rq0, he0, dy, z0, z1, z2, z3, vq] <;> rfl)
      · exact rt (eb z0 <| eb z1 <| en z2 <| e0) (by simp only [aj, eP, rq0, he0, dy, z0, z1, z2, vq] <;> rfl)
theorem yS (n : Nd) (id : Int) (block : Int) (x : ByteArray) (hx : x.size ≤ 900000) (hr : n.draws.length ≤ 1000000) (hm : n.mints.length ≤ 1000000) (hs : n.store.disk.sure.length ≤ 1000000) (hc : n.store.disk.cache.length ≤ 880) (h1 : List.length (Dk.sure (Nd.store (av n).1).disk) ≤ 1000000) (h2 : List.length (Dk.cache (Nd.store (av n).1).disk) ≤ 890) (k : Nat) : ag PP GL XX HH NN (k + 10) 34 [A.agg (Nd.cs n), A.c (ii id), A.c (ii block), A.c (st x)] [] = some ([Res.agg (Nd.cs (bJ n id block x).1), Res.top 5 (List.map Ou.cs (bJ n id block x).2)], []) := by
  rcases bft n.up with z0 | z0
  · rcases bft n.primary with z1 | z1
    · rcases bft (decide (block < 0)) with z2 | z2
      · exact rt (en z0 <| en z1 <| eb7 z2 <| et2 <| ec (br n id 4 ⟨#[]⟩ (k + 8)) <| e0) (by simp only [bJ, bu, ca, pkd, he0, z0, z1, z2, vq] <;> rfl)
      · rcases bft (decide (block ≥ Su.blocks n.store.super)) with z3 | z3
        · exact rt (en z0 <| en z1 <| eb7 z2 <| eb z3 <| et <| ec (br n id 4 ⟨#[]⟩ (k + 8)) <| e0) (by simp only [bJ, bu, ca, pkd, he0, z0, z1, z2, z3, vq] <;> rfl)
        · rcases bft ((↑(x.size) : Int) == 8) with z4 | z4
          · rcases bft n.req.on with z5 | z5
            · exact rt (en z0 <| en z1 <| eb7 z2 <| eb z3 <| en z4 <| eb4 z5 <| et2 <| ec (br n id 11 ⟨#[]⟩ (k + 8)) <| e0) (by simp only [bJ, bu, ca, pkd, he0, z0, z1, z2, z3, z4, z5, vq] <;> rfl)
            · rcases bft (Nd.state n == 1) with z6 | z6
              · exact rt (en z0 <| en z1 <| eb7 z2 <| eb z3 <| en z4 <| eb4 z5 <| eb z6 <| et <| ec (br n id 11 ⟨#[]⟩ (k + 8)) <| e0) (by simp only [bJ, bu, ca, pkd, he0, z0, z1, z2, z3, z4, z5, z6, vq] <;> rfl)
              · rcases bft (Nd.state n == 0) with z7 | z7
                · rcases bft n.minted with z8 | z8
                  · rcases bft (fj n block x).2 with z9 | z9
                    · rcases bft (Nd.state (fj n block x).1 == 0) with z10 | z10
                      · exact rt (en z0 <| en z1 <| eb7 z2 <| eb z3 <| en z4 <| eb4 z5 <| eb z6 <| ef <| eb4 z7 <| en z8 <| ec (lg n block x hs (show n.store.disk.cache.length ≤ 890 from by omega) k) <| en z9 <| eb z10 <| ec (br (fj n block x).1 id 0 ⟨#[]⟩ (k + 8)) <| e0) (by simp only [bJ, bu, ca, pkd, he0, z0, z1, z2, z3, z4, z5, z6, z7, z8, z9, z10, vq] <;> rfl)
                      · exact rt (en z0 <| en z1 <| eb7 z2 <| eb z3 <| en z4 <| eb4 z5 <| eb z6 <| ef <| eb4 z7 <| en z8 <| ec (lg n block x hs (show n.store.disk.cache.length ≤ 890 from by omega) k) <| en z9 <| eb z10 <| ec (d4 (({ Prod.fst (fj n block x) with req := (Rq.mk true id block x) } : Nd)) ((Pk.mk 2 0 hz0 block x)) hx k) <| e0) (by simp only [bJ, bu, ca, pkd, he0, z0, z1, z2, z3, z4, z5, z6, z7, z8, z9, z10, vq] <;> rfl)
                    · exact rt (en z0 <| en z1 <| eb7 z2 <| eb z3 <| en z4 <| eb4 z5 <| eb z6 <| ef <| eb4 z7 <| en z8 <| ec (lg n block x hs (show n.store.disk.cache.length ≤ 890 from by omega) k) <| en z9 <| e0) (by simp only [bJ, bu, ca, pkd, he0, z0, z1, z2, z3, z4, z5, z6, z7, z8, z9, vq] <;> rfl)
                  · rcases bft (Prod.snd (av n) == 6) with z9 | z9
                    · exact rt (en z0 <| en z1 <| eb7 z2 <| eb z3 <| en z4 <| eb4 z5 <| eb z6 <| ef <| eb4 z7 <| en z8 <| ec (jp n hr hm hs (show n.store.disk.cache.length ≤ 890 from by omega) k) <| eb z9 <| e0) (by simp only [bJ, bu, ca, pkd, he0, z0, z1, z2, z3, z4, z5, z6, z7, z8, z9, vq] <;> rfl)
                    · rcases bft (Prod.snd (av n) == 0) with z10 | z10
                      · rcases bft (fj (av n).1 block x).2 with z11 | z11
                        · rcases bft (Nd.state (fj (av n).1 block x).1 == 0) with z12 | z12
                          · exact rt (en z0 <| en z1 <| eb7 z2 <| eb z3 <| en z4 <| eb4 z5 <| eb z6 <| ef <| eb4 z7 <| en z8 <| ec (jp n hr hm hs (show n.store.disk.cache.length ≤ 890 from by omega) k) <| eb z9 <| en z10 <| ec (lg (av n).1 block x h1 h2 k) <| en z11 <| eb z12 <| ec (br (fj (av n).1 block x).1 id 0 ⟨#[]⟩ (k + 8)) <| e0) (by simp only [bJ, bu, ca, pkd, he0, z0, z1, z2, z3, z4, z5, z6, z7, z8, z9, z10, z11, z12, vq] <;> rfl)
                          · exact rt (en z0 <| en z1 <| eb7 z2 <| eb z3 <| en z4 <| eb4 z5 <| eb z6 <| ef <| eb4 z7 <| en z8 <| ec (jp n hr hm hs (show n.store.disk.cache.length ≤ 890 from by omega) k) <| eb z9 <| en z10 <| ec (lg (av n).1 block x h1 h2 k) <| en z11 <| eb z12 <| ec (d4 (({ Prod.fst (fj (av n).1 block x) with req := (Rq.mk true id block x) } : Nd)) ((Pk.mk 2 0 hz0 block x)) hx k) <| e0) (by simp only [bJ, bu, ca, pkd, he0, z0, z1, z2, z3, z4, z5, z6, z7, z8, z9, z10, z11, z12, vq] <;> rfl)
                        · exact rt (en z0 <| en z1 <| eb7 z2 <| eb z3 <| en z4 <| eb4 z5 <| eb z6 <| ef <| eb4 z7 <| en z8 <| ec (jp n hr hm hs (show n.store.disk.cache.length ≤ 890 from by omega) k) <| eb z9 <| en z10 <| ec (lg (av n).1 block x h1 h2 k) <| en z11 <| e0) (by simp only [bJ, bu, ca, pkd, he0, z0, z1, z2, z3, z4, z5, z6, z7, z8, z9, z10, z11, vq] <;> rfl)
                      · exact rt (en z0 <| en z1 <| eb7 z2 <| eb z3 <| en z4 <| eb4 z5 <| eb z6 <| ef <| eb4 z7 <| en z8 <| ec (jp n hr hm hs (show n.store.disk.cache.length ≤ 890 from by omega) k) <| eb z9 <| en z10 <| ec (br (av n).1 id (av n).2 ⟨#[]⟩ (k + 8)) <| e0) (by simp only [bJ, bu, ca, pkd, he0, z0, z1, z2, z3, z4, z5, z6, z7, z8, z9, z10, vq] <;> rfl)
                · rcases bft (fj n block x).2 with z8 | z8
                  · rcases bft (Nd.state (fj n block x).1 == 0) with z9 | z9
                    · exact rt (en z0 <| en z1 <| eb7 z2 <| eb z3 <| en z4 <| eb4 z5 <| eb z6 <| ef <| eb4 z7 <| ef <| ec (lg n block x hs (show n.store.disk.cache.length ≤ 890 from by omega) k) <| en z8 <| eb z9 <| ec (br (fj n block x).1 id 0 ⟨#[]⟩ (k + 8)) <| e0) (by simp only [bJ, bu, ca, pkd, he0, z0, z1, z2, z3, z4, z5, z6, z7, z8, z9, vq] <;> rfl)
                    · exact rt (en z0 <| en z1 <| eb7 z2 <| eb z3 <| en z4 <| eb4 z5 <| eb z6 <| ef <| eb4 z7 <| ef <| ec (lg n block x hs (show n.store.disk.cache.length ≤ 890 from by omega) k) <| en z8 <| eb z9 <| ec (d4 (({ Prod.fst (fj n block x) with req := (Rq.mk true id block x) } : Nd)) ((Pk.mk 2 0 hz0 block x)) hx k) <| e0) (by simp only [bJ, bu, ca, pkd, he0, z0, z1, z2, z3, z4, z5, z6, z7, z8, z9, vq] <;> rfl)
                  · exact rt (en z0 <| en z1 <| eb7 z2 <| eb z3 <| en z4 <| eb4 z5 <| eb z6 <| ef <| eb4 z7 <| ef <| ec (lg n block x hs (show n.store.disk.cache.length ≤ 890 from by omega) k) <| en z8 <| e0) (by simp only [bJ, bu, ca, pkd, he0, z0, z1, z2, z3, z4, z5, z6, z7, z8, vq] <;> rfl)
          · exact rt (en z0 <| en z1 <| eb7 z2 <| eb z3 <| en z4 <| et <| ec (br n id 5 ⟨#[]⟩ (k + 8)) <| e0) (by simp only [bJ, bu, ca, pkd, he0, z0, z1, z2, z3, z4, vq] <;> rfl)
    · exact rt (en z0 <| en z1 <| et <| ec (br n id 8 ⟨#[]⟩ (k + 8)) <| e0) (by simp only [bJ, bu, ca, pkd, he0, z0, z1, vq] <;> rfl)
  · exact rt (en z0 <| et <| ec (br n id 7 ⟨#[]⟩ (k + 8)) <| e0) (by simp only [bJ, bu, ca, pkd, he0, z0, vq] <;> rfl)
theorem xt (n : Nd) (id block : Int) (x : ByteArray) (hx : x.size ≤ 900000) (hr : n.draws.length ≤ 1000000) (hm : n.mints.length ≤ 1000000) (hs : n.store.disk.sure.length ≤ 1000000) (hc : n.store.disk.cache.length ≤ 880) (k : Nat) : ag PP GL XX HH NN (k + 10) 34 [.agg n.cs, .c (ii id), .c (ii block), .c (st x)] [] = some ([.agg (bJ n id block x).1.cs, .top 5 ((bJ n id block x).2.map Ou.cs)], []) :=
  yS n id block x hx hr hm hs hc (by rw [(pC n).1]; exact hs) (Nat.le_trans (pC n).2 (by omega)) k
theorem A7 (n : Nd) (kind : Int) (hs : n.store.disk.sure.length ≤ 1000000) (hc : n.store.disk.cache.length ≤ 890) (k : Nat) : ag PP GL XX HH NN (k + 10) 79 [A.agg (Nd.cs n), A.c (ii kind)] [] = some ([Res.agg (Nd.cs (dm n kind).1), Res.top 5 (List.map Ou.cs (dm n kind).2)], []) := by
  rcases bft (kind == 10) with z0 | z0
  · rcases bft n.primary with z1 | z1
    · exact rt (eb z0 <| eb3 z1 <| et <| ec (d4 n ((Pk.mk 12 0 hz0 0 ⟨#[]⟩)) (show ByteArray.size ⟨#[]⟩ ≤ 900000 from by decide) k) <| e0) (rs := [Res.agg (Nd.cs n), Res.top 5 (List.map Ou.cs [az n (Pk.mk 12 0 hz0 0 ⟨#[]⟩)])]) (by simp only [dm, fb, pkk, he0, z0, z1, vq] <;> rfl)
    · rcases bft n.asking with z2 | z2
      · exact rt (eb z0 <| eb3 z1 <| eb z2 <| ec (d4 n ((Pk.mk 12 0 hz0 0 ⟨#[]⟩)) (show ByteArray.size ⟨#[]⟩ ≤ 900000 from by decide) k) <| e0) (rs := [Res.agg (Nd.cs n), Res.top 5 (List.map Ou.cs [az n (Pk.mk 12 0 hz0 0 ⟨#[]⟩)])]) (by simp only [dm, fb, pkk, he0, z0, z1, z2, vq] <;> rfl)
      · exact rt (eb z0 <| eb3 z1 <| eb z2 <| ec (d4 (({ n with peerPri := true } : Nd)) ((Pk.mk 11 0 hz0 0 ⟨#[]⟩)) (show ByteArray.size ⟨#[]⟩ ≤ 900000 from by decide) k) <| e0) (rs := [Res.agg (Nd.cs ({ n with peerPri := true } : Nd)), Res.top 5 (List.map Ou.cs [az ({ n with peerPri := true } : Nd) (Pk.mk 11 0 hz0 0 ⟨#[]⟩)])]) (by simp only [dm, fb, pkk, he0, z0, z1, z2, vq] <;> rfl)
  · rcases bft (kind == 12) with z1 | z1
    · exact rt (eb z0 <| eb z1 <| ec (br (({ n with asking := false, askId := 0 } : Nd)) n.askId 12 ⟨#[]⟩ (k + 8)) <| e0) (rs := [Res.agg (Nd.cs ({ n with asking := false, askId := 0 } : Nd)), Res.top 5 (List.map Ou.cs [ae ({ n with asking := false, askId := 0 } : Nd) n.askId 12 ⟨#[]⟩])]) (by simp only [dm, fb, pkk, he0, z0, z1, vq] <;> rfl)
    · rcases bft (kind == 13) with z2 | z2
      · exact rt (eb z0 <| eb z1 <| eb z2 <| e0) (rs := [Res.agg (Nd.cs ({ n with peerPri := false } : Nd)), Res.top 5 (List.map Ou.cs [])]) (by simp only [dm, fb, pkk, he0, z0, z1, z2, vq] <;> rfl)
      · rcases bft (ab n ({ So.super n.store with pri := true } : Su)).2 with z3 | z3
        · exact rt (eb z0 <| eb z1 <| eb z2 <| ec (bw n (({ So.super n.store with pri := true } : Su)) hs (show n.store.disk.cache.length ≤ 900 from by omega) (k + 1)) <| en z3 <| ec (br (({ Prod.fst (ab n ({ So.super n.store with pri := true } : Su)) with primary := true, asking := false, askId := 0 } : Nd)) n.askId 0 ⟨#[]⟩ (k + 8)) <| e0) (rs := [Res.agg (Nd.cs ({ Prod.fst (ab n ({ So.super n.store with pri := true } : Su)) with primary := true, asking := false, askId := 0 } : Nd)), Res.top 5 (List.map Ou.cs [ae ({ Prod.fst (ab n ({ So.super n.store with pri := true } : Su)) with primary := true, asking := false, askId := 0 } : Nd) n.askId 0 ⟨#[]⟩])]) (by simp only [dm, fb, pkk, he0, z0, z1, z2, z3, vq] <;> rfl)
        · exact rt (eb z0 <| eb z1 <| eb z2 <| ec (bw n (({ So.super n.store with pri := true } : Su)) hs (show n.store.disk.cache.length ≤ 900 from by omega) (k + 1)) <| en z3 <| e0) (rs := [Res.agg (Nd.cs (ab n ({ So.super n.store with pri := true } : Su)).1), Res.top 5 (List.map Ou.cs [])]) (by simp only [dm, fb, pkk, he0, z0, z1, z2, z3, vq] <;> rfl)
end Go.Dm
namespace Go.Dm
open Go
set_option maxHeartbeats 1000000
theorem Ds (n : Nd) (h : He) (m : BitVec 32) (v : Vd) (hs : n.store.disk.sure.length ≤ 1000000) (hc : n.store.disk.cache.length ≤ 880) (h1 : List.length (Dk.sure (Nd.store (iJ n m).1).disk) ≤ 1000000) (h2 : List.length (Dk.cache (Nd.store (iJ n m).1).disk) ≤ 890) (h3 : List.length (Dk.sure (Nd.store (ab (iJ n m).1 (o5 n h)).1).disk) ≤ 1000000) (h4 : List.length (Dk.cache (Nd.store (ab (iJ n m).1 (o5 n h)).1).disk) ≤ 890) (hL : ∀ k, ag PP GL XX HH NN (k + 3) 101 [A.agg (Nd.cs n), A.agg (So.cs (qg n.store m).1), A.c (ii (qg n.store m).2)] [] = some ([Res.agg (Nd.cs (iJ n m).1), Res.c (bo (iJ n m).2)], [])) (hV : ∀ k, ag PP GL XX HH NN (k + 8) 104 [A.agg (Nd.cs n), A.agg (He.cs h)] [] = some ([Res.agg (Vd.cs v), Res.c (w4 (mi m))], [])) (hB : ∀ k, ag PP GL XX HH NN (k + 8) 61 [A.agg (Nd.cs (iJ n m).1), A.agg (Su.cs (Su.mk n.store.super.blocks (uF n.store.super.v h.v.cur) true false n.store.super.dis))] [] = some ([Res.agg (Nd.cs (ab (iJ n m).1 (o5 n h)).1), Res.c (bo (ab (iJ n m).1 (o5 n h)).2)], [])) (k : Nat) : ag PP GL XX HH NN (k + 12) 70 [A.agg (Nd.cs n), A.agg (He.cs h)] [] = some ([Res.agg (Nd.cs (tG n h v m).1), Res.top 5 (List.map Ou.cs (tG n h v m).2)], []) := by
  rcases bft (Vd.kind v == 4) with z0 | z0
  · exact rt (ec (hV (k + 3)) <| eb z0 <| e0) (by simp only [tG, tQ, cU, b9, z0, vq] <;> rfl)
  · rcases bft (Vd.kind v == 1) with z1 | z1
    · rcases bft (ab n ({ So.super n.store with v := cF n.store.super.v, pri := Nd.primary n } : Su)).2 with z2 | z2
      · exact rt (ec (hV (k + 3)) <| eb z0 <| eb z1 <| ec (jI n.store.super.v (k + 10)) <| ec (bw n (({ So.super n.store with v := cF n.store.super.v, pri := Nd.primary n } : Su)) hs (show n.store.disk.cache.length ≤ 900 from by omega) (k + 3)) <| eb z2 <| e0) (by simp only [tG, tQ, cU, b9, z0, z1, z2, vq] <;> rfl)
      · exact rt (ec (hV (k + 3)) <| eb z0 <| eb z1 <| ec (jI n.store.super.v (k + 10)) <| ec (bw n (({ So.super n.store with v := cF n.store.super.v, pri := Nd.primary n } : Su)) hs (show n.store.disk.cache.length ≤ 900 from by omega) (k + 3)) <| eb z2 <| e0) (by simp only [tG, tQ, cU, b9, z0, z1, z2, vq] <;> rfl)
    · rcases bft (iJ n m).2 with z2 | z2
      · rcases bft (Vd.src v == Nd.id n) with z3 | z3
        · exact rt (ec (hV (k + 3)) <| eb z0 <| eb z1 <| ec (rL n.store m hs (show n.store.disk.cache.length ≤ 900 from by omega) (k + 3)) <| ec (hL (k + 8)) <| en z2 <| eb z3 <| e0) (by simp only [tG, tQ, cU, b9, z0, z1, z2, z3, vq] <;> rfl)
        · rcases bft (ab (iJ n m).1 (o5 n h)).2 with z4 | z4
          · exact rt (ec (hV (k + 3)) <| eb z0 <| eb z1 <| ec (rL n.store m hs (show n.store.disk.cache.length ≤ 900 from by omega) (k + 3)) <| ec (hL (k + 8)) <| en z2 <| eb z3 <| ec (DI n.store.super.v h.v.cur (k + 10)) <| ec (hB (k + 3)) <| en z4 <| ec (Ay (({ Prod.fst (ab (iJ n m).1 (o5 n h)) with state := 4, peer := h, peerPri := He.pri h } : Nd)) h3 h4 (k + 1)) <| eq1 (List.length (List.map Ou.cs (dP ({ Prod.fst (ab (iJ n m).1 (o5 n h)) with state := 4, peer := h, peerPri := He.pri h } : Nd)).2)) <| e0) (by simp only [tG, tQ, cU, b9, z0, z1, z2, z3, z4, vq] <;> rfl)
          · exact rt (ec (hV (k + 3)) <| eb z0 <| eb z1 <| ec (rL n.store m hs (show n.store.disk.cache.length ≤ 900 from by omega) (k + 3)) <| ec (hL (k + 8)) <| en z2 <| eb z3 <| ec (DI n.store.super.v h.v.cur (k + 10)) <| ec (hB (k + 3)) <| en z4 <| e0) (by simp only [tG, tQ, cU, b9, z0, z1, z2, z3, z4, vq] <;> rfl)
      · exact rt (ec (hV (k + 3)) <| eb z0 <| eb z1 <| ec (rL n.store m hs (show n.store.disk.cache.length ≤ 900 from by omega) (k + 3)) <| ec (hL (k + 8)) <| en z2 <| e0) (by simp only [tG, tQ, cU, b9, z0, z1, z2, vq] <;> rfl)
theorem GE (n : Nd) (h : He) (hs : n.store.disk.sure.length ≤ 1000000) (hc : n.store.disk.cache.length ≤ 880) (k : Nat) : ag PP GL XX HH NN (k + 12) 70 [.agg n.cs, .agg h.cs] [] = some ([.agg (Af n h).1.cs, .top 5 ((Af n h).2.map Ou.cs)], []) := by
  have a := xY n (ch n h).2
  have b := kh (iJ n (ch n h).2).1 (o5 n h)
  have a1 := a.1
  have a2 := a.2
  have b1 := b.1
  have b2 := b.2
  exact Ds n h (ch n h).2 (ch n h).1 hs hc (by omega) (by omega) (by omega) (by omega) (fun k => po n _ _ k) (fun k => uL n h k) (fun k => bw (iJ n (ch n h).2).1 (o5 n h) (by omega) (by omega) k) k
end Go.Dm
namespace Go.Dm
open Go
set_option maxHeartbeats 1000000
theorem Eg (n : Nd) (block : Int) (x : ByteArray) (hs : n.store.disk.sure.length ≤ 1000000) (hc : n.store.disk.cache.length ≤ 880) (h1 : List.length (Dk.cache (Nd.store (di n block x).1).disk) ≤ 890) (h2 : List.length (Dk.sure (Nd.store (au (di n block x).1 block).1).disk) ≤ 1000000) (h3 : List.length (Dk.cache (Nd.store (au (di n block x).1 block).1).disk) ≤ 890) (hL : ∀ k, ag PP GL XX HH NN (k + 3) 101 [A.agg (Nd.cs n), A.agg (So.cs (ft n.store block x).1), A.c (ii (ft n.store block x).2)] [] = some ([Res.agg (Nd.cs (di n block x).1), Res.c (bo (di n block x).2)], [])) (k : Nat) : ag PP GL XX HH NN (k + 11) 75 [A.agg (Nd.cs n), A.c (ii block), A.c (st x)] [] = some ([Res.agg (Nd.cs (oV n block x).1), Res.top 5 (List.map Ou.cs (oV n block x).2)], []) := by
  rcases bft (Nd.wanted n == IntKind.wrap .i64 (block + 1)) with z0 | z0
  · rcases bft (di n block x).2 with z1 | z1
    · rcases bft (au (di n block x).1 block).2 with z2 | z2
      · exact rt (en z0 <| ec (ze n.store block x hs (show n.store.disk.cache.length ≤ 900 from by first | omega | exact Nat.le_trans (Nat.add_le_add_left (aH _) _) (by decide) | exact Nat.lt_of_le_of_lt (Nat.add_le_add_left (aH _) _) (by decide) | exact Nat.le_trans (aH _) (by decide) | exact Nat.le_trans (Nat.add_le_add_right (aH _) _) (by decide) | exact Nat.lt_of_le_of_lt (aH _) (by decide) | (refine Nat.le_trans (Nat.succ_le_succ (aH _)) (by decide)) | (have := aH (lq n block x); unfold lq at this; omega) | (have := aH (lq n block x); exact Nat.le_trans (Nat.add_le_add_left this _) (by decide))) (k + 4)) <| ec (hL (k + 7)) <| en z1 <| ec (hZ (di n block x).1 block h1 (k + 3)) <| en z2 <| ec (d4 (({ Prod.fst (au (di n block x).1 block) with wanted := 0 } : Nd)) ((Pk.mk 7 0 hz0 block ⟨#[]⟩)) (show ByteArray.size ⟨#[]⟩ ≤ 900000 from by decide) (k + 1)) <| ec (Ay (({ Prod.fst (au (di n block x).1 block) with wanted := 0 } : Nd)) h2 h3 k) <| ep (rfl : [ii (az ({ Prod.fst (au (di n block x).1 block) with wanted := (0 : Int) } : Nd) (Pk.mk 7 0 hz0 block ⟨#[]⟩)).kind, ii (az ({ Prod.fst (au (di n block x).1 block) with wanted := (0 : Int) } : Nd) (Pk.mk 7 0 hz0 block ⟨#[]⟩)).node, ii (az ({ Prod.fst (au (di n block x).1 block) with wanted := (0 : Int) } : Nd) (Pk.mk 7 0 hz0 block ⟨#[]⟩)).id, ii (az ({ Prod.fst (au (di n block x).1 block) with wanted := (0 : Int) } : Nd) (Pk.mk 7 0 hz0 block ⟨#[]⟩)).err, st (az ({ Prod.fst (au (di n block x).1 block) with wanted := (0 : Int) } : Nd) (Pk.mk 7 0 hz0 block ⟨#[]⟩)).data] :: List.map Ou.cs (dP ({ Prod.fst (au (di n block x).1 block) with wanted := (0 : Int) } : Nd)).2 = [ii (az ({ Prod.fst (au (di n block x).1 block) with wanted := (0 : Int) } : Nd) (Pk.mk 7 0 hz0 block ⟨#[]⟩)).kind, ii (az ({ Prod.fst (au (di n block x).1 block) with wanted := (0 : Int) } : Nd) (Pk.mk 7 0 hz0 block ⟨#[]⟩)).node, ii (az ({ Prod.fst (au (di n block x).1 block) with wanted := (0 : Int) } : Nd) (Pk.mk 7 0 hz0 block ⟨#[]⟩)).id, ii (az ({ Prod.fst (au (di n block x).1 block) with wanted := (0 : Int) } : Nd) (Pk.mk 7 0 hz0 block ⟨#[]⟩)).err, st (az ({ Prod.fst (au (di n block x).1 block) with wanted := (0 : Int) } : Nd) (Pk.mk 7 0 hz0 block ⟨#[]⟩)).data] :: List.map Ou.cs (dP ({ Prod.fst (au (di n block x).1 block) with wanted := (0 : Int) } : Nd)).2) <| ep (show List.length ([ii (az ({ Prod.fst (au (di n block x).1 block) with wanted := (0 : Int) } : Nd) (Pk.mk 7 0 hz0 block ⟨#[]⟩)).kind, ii (az ({ Prod.fst (au (di n block x).1 block) with wanted := (0 : Int) } : Nd) (Pk.mk 7 0 hz0 block ⟨#[]⟩)).node, ii (az ({ Prod.fst (au (di n block x).1 block) with wanted := (0 : Int) } : Nd) (Pk.mk 7 0 hz0 block ⟨#[]⟩)).id, ii (az ({ Prod.fst (au (di n block x).1 block) with wanted := (0 : Int) } : Nd) (Pk.mk 7 0 hz0 block ⟨#[]⟩)).err, st (az ({ Prod.fst (au (di n block x).1 block) with wanted := (0 : Int) } : Nd) (Pk.mk 7 0 hz0 block ⟨#[]⟩)).data] :: List.map Ou.cs (dP ({ Prod.fst (au (di n block x).1 block) with wanted := (0 : Int) } : Nd)).2) ≤ 1073741824 from by simp only [List.length_append, List.length_cons, List.length_nil, List.length_drop, List.length_take, List.length_map]; first | omega | (first | omega | exact Nat.le_trans (Nat.add_le_add_left (aH _) _) (by decide) | exact Nat.lt_of_le_of_lt (Nat.add_le_add_left (aH _) _) (by decide) | exact Nat.le_trans (aH _) (by decide) | exact Nat.le_trans (Nat.add_le_add_right (aH _) _) (by decide) | exact Nat.lt_of_le_of_lt (aH _) (by decide) | (refine Nat.le_trans (Nat.succ_le_succ (aH _)) (by decide)) | (have := aH (lq n block x); unfold lq at this; omega) | (have := aH (lq n block x); exact Nat.le_trans (Nat.add_le_add_left this _) (by decide)))) <| eg (G.app ([ii (az ({ Prod.fst (au (di n block x).1 block) with wanted := 0 } : Nd) (Pk.mk 7 0 hz0 block ⟨#[]⟩)).kind, ii (az ({ Prod.fst (au (di n block x).1 block) with wanted := 0 } : Nd) (Pk.mk 7 0 hz0 block ⟨#[]⟩)).node, ii (az ({ Prod.fst (au (di n block x).1 block) with wanted := 0 } : Nd) (Pk.mk 7 0 hz0 block ⟨#[]⟩)).id, ii (az ({ Prod.fst (au (di n block x).1 block) with wanted := 0 } : Nd) (Pk.mk 7 0 hz0 block ⟨#[]⟩)).err, st (az ({ Prod.fst (au (di n block x).1 block) with wanted := 0 } : Nd) (Pk.mk 7 0 hz0 block ⟨#[]⟩)).data] :: List.map Ou.cs (dP ({ Prod.fst (au (di n block x).1 block) with wanted := 0 } : Nd)).2)) <| ep ((rfl : List.length ([ii (az ({ Prod.fst (au (di n block x).1 block) with wanted := (0 : Int) } : Nd) (Pk.mk 7 0 hz0 block ⟨#[]⟩)).kind, ii (az ({ Prod.fst (au (di n block x).1 block) with wanted := (0 : Int) } : Nd) (Pk.mk 7 0 hz0 block ⟨#[]⟩)).node, ii (az ({ Prod.fst (au (di n block x).1 block) with wanted := (0 : Int) } : Nd) (Pk.mk 7 0 hz0 block ⟨#[]⟩)).id, ii (az ({ Prod.fst (au (di n block x).1 block) with wanted := (0 : Int) } : Nd) (Pk.mk 7 0 hz0 block ⟨#[]⟩)).err, st (az ({ Prod.fst (au (di n block x).1 block) with wanted := (0 : Int) } : Nd) (Pk.mk 7 0 hz0 block ⟨#[]⟩)).data] :: List.map Ou.cs (dP ({ Prod.fst (au (di n block x).1 block) with wanted := (0 : Int) } : Nd)).2) = List.length ([ii (az ({ Prod.fst (au (di n block x).1 block) with wanted := (0 : Int) } : Nd) (Pk.mk 7 0 hz0 block ⟨#[]⟩)).kind, ii (az ({ Prod.fst (au (di n block x).1 block) with wanted := (0 : Int) } : Nd) (Pk.mk 7 0 hz0 block ⟨#[]⟩)).node, ii (az ({ Prod.fst (au (di n block x).1 block) with wanted := (0 : Int) } : Nd) (Pk.mk 7 0 hz0 block ⟨#[]⟩)).id, ii (az ({ Prod.fst (au (di n block x).1 block) with wanted := (0 : Int) } : Nd) (Pk.mk 7 0 hz0 block ⟨#[]⟩)).err, st (az ({ Prod.fst (au (di n block x).1 block) with wanted := (0 : Int) } : Nd) (Pk.mk 7 0 hz0 block ⟨#[]⟩)).data] :: List.map Ou.cs (dP ({ Prod.fst (au (di n block x).1 block) with wanted := (0 : Int) } : Nd)).2))).symm <| e0) (by simp only [oV, lq, pkb, he0, z0, z1, z2, vq] <;> rfl)
      · exact rt (en z0 <| ec (ze n.store block x hs (show n.store.disk.cache.length ≤ 900 from by first | omega | exact Nat.le_trans (Nat.add_le_add_left (aH _) _) (by decide) | exact Nat.lt_of_le_of_lt (Nat.add_le_add_left (aH _) _) (by decide) | exact Nat.le_trans (aH _) (by decide) | exact Nat.le_trans (Nat.add_le_add_right (aH _) _) (by decide) | exact Nat.lt_of_le_of_lt (aH _) (by decide) | (refine Nat.le_trans (Nat.succ_le_succ (aH _)) (by decide)) | (have := aH (lq n block x); unfold lq at this; omega) | (have := aH (lq n block x); exact Nat.le_trans (Nat.add_le_add_left this _) (by decide))) (k + 4)) <| ec (hL (k + 7)) <| en z1 <| ec (hZ (di n block x).1 block h1 (k + 3)) <| en z2 <| e0) (by simp only [oV, lq, pkb, he0, z0, z1, z2, vq] <;> rfl)
    · exact rt (en z0 <| ec (ze n.store block x hs (show n.store.disk.cache.length ≤ 900 from by first | omega | exact Nat.le_trans (Nat.add_le_add_left (aH _) _) (by decide) | exact Nat.lt_of_le_of_lt (Nat.add_le_add_left (aH _) _) (by decide) | exact Nat.le_trans (aH _) (by decide) | exact Nat.le_trans (Nat.add_le_add_right (aH _) _) (by decide) | exact Nat.lt_of_le_of_lt (aH _) (by decide) | (refine Nat.le_trans (Nat.succ_le_succ (aH _)) (by decide)) | (have := aH (lq n block x); unfold lq at this; omega) | (have := aH (lq n block x); exact Nat.le_trans (Nat.add_le_add_left this _) (by decide))) (k + 4)) <| ec (hL (k + 7)) <| en z1 <| e0) (by simp only [oV, lq, pkb, he0, z0, z1, vq] <;> rfl)
  · exact rt (en z0 <| e0) (by simp only [oV, lq, pkb, he0, z0, vq] <;> rfl)
theorem GK (n : Nd) (block : Int) (x : ByteArray) (hs : n.store.disk.sure.length ≤ 1000000) (hc : n.store.disk.cache.length ≤ 880) (k : Nat) : ag PP GL XX HH NN (k + 11) 75 [.agg n.cs, .c (ii block), .c (st x)] [] = some ([.agg (oV n block x).1.cs, .top 5 ((oV n block x).2.map Ou.cs)], []) := by
  have a := yA n block x
  have b := t8 (di n block x).1 block
  exact Eg n block x hs hc (Nat.le_trans a.2 (by omega)) (by rw [b.1, a.1]; exact hs) (by have := a.2; have := b.2; omega) (fun k => po n _ _ k) k
end Go.Dm
namespace Go.Dm
open Go
set_option maxHeartbeats 1000000
theorem BN (n : Nd) (block : Int) (hc : n.store.disk.cache.length ≤ 890) (k : Nat) : ag PP GL XX HH NN (k + 10) 74 [.agg n.cs, .c (ii block)] [] = some ([.agg n.cs, .top 5 ((xZ n block).map Ou.cs)], []) :=
  CT n block hc (Nat.le_trans (nh _ _) (by decide)) k
theorem iL (n : Nd) (b : ByteArray) (hb : b.size ≤ 800000) (hs : n.store.disk.sure.length ≤ 1000000) (hc : n.store.disk.cache.length ≤ 880) (k : Nat) : ag PP GL XX HH NN (k + 13) 38 [A.agg (Nd.cs n), A.c (st b)] [] = some ([Res.agg (Nd.cs (bb n b).1), Res.top 5 (List.map Ou.cs (bb n b).2)], []) := by
  rcases bft n.up with z0 | z0
  · rcases bft (Nd.state n == 0) with z1 | z1
    · exact rt (en4 z0 <| eb z1 <| e0) (rs := [Res.agg (Nd.cs n), Res.top 5 (List.map Ou.cs [])]) (by simp only [bb, eO, b9, z0, z1, vq] <;> rfl)
    · rcases bft (Prod.snd (aE b n.ses) == 16) with z2 | z2
      · exact rt (en4 z0 <| eb z1 <| ec (cg b n.ses hb (k + 3)) <| eb z2 <| e0) (rs := [Res.agg (Nd.cs n), Res.top 5 (List.map Ou.cs [])]) (by simp only [bb, eO, b9, z0, z1, z2, vq] <;> rfl)
      · rcases bft (Prod.snd (aE b n.ses) == 0) with z3 | z3
        · rcases bft (a6 n (aE b n.ses).1) with z4 | z4
          · rcases bft (Pk.kind (aE b n.ses).1 == 1) with z5 | z5
            · exact rt (en4 z0 <| eb z1 <| ec (cg b n.ses hb (k + 3)) <| eb z2 <| en3 z3 <| ec (gj n (aE b n.ses).1 (k + 11)) <| en2 z3 <| en z4 <| eb z5 <| ec (GE n (Pk.hello (aE b n.ses).1) hs hc k) <| eq1 (List.length (List.map Ou.cs (Af n (Pk.hello (aE b n.ses).1)).2)) <| e0) (rs := [Res.agg (Nd.cs (Af n (Pk.hello (aE b n.ses).1)).1), Res.top 5 (List.map Ou.cs (Af n (Pk.hello (aE b n.ses).1)).2)]) (by simp only [bb, eO, b9, z0, z1, z2, z3, z4, z5, vq] <;> rfl)
            · rcases bft (Pk.kind (aE b n.ses).1 == 2) with z6 | z6
              · exact rt (en4 z0 <| eb z1 <| ec (cg b n.ses hb (k + 3)) <| eb z2 <| en3 z3 <| ec (gj n (aE b n.ses).1 (k + 11)) <| en2 z3 <| en z4 <| eb z5 <| eb z6 <| ec (Bw n (Pk.block (aE b n.ses).1) (Pk.data (aE b n.ses).1) hs (show n.store.disk.cache.length ≤ 890 from by omega) (k + 2)) <| eq1 (List.length (List.map Ou.cs (eX n (Pk.block (aE b n.ses).1) (Pk.data (aE b n.ses).1)).2)) <| e0) (rs := [Res.agg (Nd.cs (eX n (Pk.block (aE b n.ses).1) (Pk.data (aE b n.ses).1)).1), Res.top 5 (List.map Ou.cs (eX n (Pk.block (aE b n.ses).1) (Pk.data (aE b n.ses).1)).2)]) (by simp only [bb, eO, b9, z0, z1, z2, z3, z4, z5, z6, vq] <;> rfl)
              · rcases bft (Pk.kind (aE b n.ses).1 == 3) with z7 | z7
                · exact rt (en4 z0 <| eb z1 <| ec (cg b n.ses hb (k + 3)) <| eb z2 <| en3 z3 <| ec (gj n (aE b n.ses).1 (k + 11)) <| en2 z3 <| en z4 <| eb z5 <| eb z6 <| eb z7 <| ec (Bm n (Pk.block (aE b n.ses).1) (show n.store.disk.cache.length ≤ 890 from by omega) (k + 2)) <| eq1 (List.length (List.map Ou.cs (d5 n (Pk.block (aE b n.ses).1)).2)) <| e0) (rs := [Res.agg (Nd.cs (d5 n (Pk.block (aE b n.ses).1)).1), Res.top 5 (List.map Ou.cs (d5 n (Pk.block (aE b n.ses).1)).2)]) (by simp only [bb, eO, b9, z0, z1, z2, z3, z4, z5, z6, z7, vq] <;> rfl)
                · rcases bft (Pk.kind (aE b n.ses).1 == 4) with z8 | z8
                  · exact rt (en4 z0 <| eb z1 <| ec (cg b n.ses hb (k + 3)) <| eb z2 <| en3 z3 <| ec (gj n (aE b n.ses).1 (k + 11)) <| en2 z3 <| en z4 <| eb z5 <| eb z6 <| eb z7 <| eb z8 <| ec (wQ n (Pk.block (aE b n.ses).1) (show n.store.disk.cache.length ≤ 890 from by omega) (k + 4)) <| eq1 0 <| e0) (rs := [Res.agg (Nd.cs (au n (Pk.block (aE b n.ses).1)).1), Res.top 5 (List.map Ou.cs [])]) (by simp only [bb, eO, b9, z0, z1, z2, z3, z4, z5, z6, z7, z8, vq] <;> rfl)
                  · rcases bft (Pk.kind (aE b n.ses).1 == 5) with z9 | z9
                    · exact rt (en4 z0 <| eb z1 <| ec (cg b n.ses hb (k + 3)) <| eb z2 <| en3 z3 <| ec (gj n (aE b n.ses).1 (k + 11)) <| en2 z3 <| en z4 <| eb z5 <| eb z6 <| eb z7 <| eb z8 <| eb z9 <| ec (BN n (Pk.block (aE b n.ses).1) (show n.store.disk.cache.length ≤ 890 from by omega) (k + 2)) <| eq1 1 <| e0) (rs := [Res.agg (Nd.cs n), Res.top 5 (List.map Ou.cs [(Ou.mk 1 n.id 0 0 (jy ({ pkd 6 (Pk.block (aE b n.ses).1) (ak n.store.disk (Pk.block (aE b n.ses).1)).1 with ses := Nd.ses n } : Pk)).1)])]) (by simp only [bb, eO, b9, z0, z1, z2, z3, z4, z5, z6, z7, z8, z9, vq] <;> rfl)
                    · rcases bft (Pk.kind (aE b n.ses).1 == 6) with z10 | z10
                      · exact rt (en4 z0 <| eb z1 <| ec (cg b n.ses hb (k + 3)) <| eb z2 <| en3 z3 <| ec (gj n (aE b n.ses).1 (k + 11)) <| en2 z3 <| en z4 <| eb z5 <| eb z6 <| eb z7 <| eb z8 <| eb z9 <| eb z10 <| ec (GK n (Pk.block (aE b n.ses).1) (Pk.data (aE b n.ses).1) hs hc (k + 1)) <| eq1 (List.length (List.map Ou.cs (oV n (Pk.block (aE b n.ses).1) (Pk.data (aE b n.ses).1)).2)) <| e0) (rs := [Res.agg (Nd.cs (oV n (Pk.block (aE b n.ses).1) (Pk.data (aE b n.ses).1)).1), Res.top 5 (List.map Ou.cs (oV n (Pk.block (aE b n.ses).1) (Pk.data (aE b n.ses).1)).2)]) (by simp only [bb, eO, b9, z0, z1, z2, z3, z4, z5, z6, z7, z8, z9, z10, vq] <;> rfl)
                      · rcases bft (Pk.kind (aE b n.ses).1 == 7) with z11 | z11
                        · exact rt (en4 z0 <| eb z1 <| ec (cg b n.ses hb (k + 3)) <| eb z2 <| en3 z3 <| ec (gj n (aE b n.ses).1 (k + 11)) <| en2 z3 <| en z4 <| eb z5 <| eb z6 <| eb z7 <| eb z8 <| eb z9 <| eb z10 <| eb z11 <| ec (zw n (Pk.block (aE b n.ses).1) (show n.store.disk.cache.length ≤ 890 from by omega) (k + 4)) <| eq1 0 <| e0) (rs := [Res.agg (Nd.cs (eJ n (Pk.block (aE b n.ses).1))), Res.top 5 (List.map Ou.cs [])]) (by simp only [bb, eO, b9, z0, z1, z2, z3, z4, z5, z6, z7, z8, z9, z10, z11, vq] <;> rfl)
                        · rcases bft (Pk.kind (aE b n.ses).1 == 8) with z12 | z12
                          · exact rt (en4 z0 <| eb z1 <| ec (cg b n.ses hb (k + 3)) <| eb z2 <| en3 z3 <| ec (gj n (aE b n.ses).1 (k + 11)) <| en2 z3 <| en z4 <| eb z5 <| eb z6 <| eb z7 <| eb z8 <| eb z9 <| eb z10 <| eb z11 <| eb z12 <| ec (B5 n hs (show n.store.disk.cache.length ≤ 890 from by omega) (k + 2)) <| eq1 (List.length (List.map Ou.cs (fa n).2)) <| e0) (rs := [Res.agg (Nd.cs (fa n).1), Res.top 5 (List.map Ou.cs (fa n).2)]) (by simp only [bb, eO, b9, z0, z1, z2, z3, z4, z5, z6, z7, z8, z9, z10, z11, z12, vq] <;> rfl)
                          · rcases bft (Pk.kind (aE b n.ses).1 == 9) with z13 | z13
                            · exact rt (en4 z0 <| eb z1 <| ec (cg b n.ses hb (k + 3)) <| eb z2 <| en3 z3 <| ec (gj n (aE b n.ses).1 (k + 11)) <| en2 z3 <| en z4 <| eb z5 <| eb z6 <| eb z7 <| eb z8 <| eb z9 <| eb z10 <| eb z11 <| eb z12 <| eb z13 <| ec (Dx n (k + 11)) <| e0) (rs := [Res.agg (Nd.cs ({ n with state := 2 } : Nd)), Res.top 5 (List.map Ou.cs [])]) (by simp only [bb, eO, b9, z0, z1, z2, z3, z4, z5, z6, z7, z8, z9, z10, z11, z12, z13, vq] <;> rfl)
                            · exact rt (en4 z0 <| eb z1 <| ec (cg b n.ses hb (k + 3)) <| eb z2 <| en3 z3 <| ec (gj n (aE b n.ses).1 (k + 11)) <| en2 z3 <| en z4 <| eb z5 <| eb z6 <| eb z7 <| eb z8 <| eb z9 <| eb z10 <| eb z11 <| eb z12 <| eb z13 <| ec (A7 n (Pk.kind (aE b n.ses).1) hs (show n.store.disk.cache.length ≤ 890 from by omega) (k + 2)) <| eq1 (List.length (List.map Ou.cs (dm n (Pk.kind (aE b n.ses).1)).2)) <| e0) (rs := [Res.agg (Nd.cs (dm n (Pk.kind (aE b n.ses).1)).1), Res.top 5 (List.map Ou.cs (dm n (Pk.kind (aE b n.ses).1)).2)]) (by simp only [bb, eO, b9, z0, z1, z2, z3, z4, z5, z6, z7, z8, z9, z10, z11, z12, z13, vq] <;> rfl)
          · exact rt (en4 z0 <| eb z1 <| ec (cg b n.ses hb (k + 3)) <| eb z2 <| en3 z3 <| ec (gj n (aE b n.ses).1 (k + 11)) <| en2 z3 <| en z4 <| e0) (rs := [Res.agg (Nd.cs n), Res.top 5 (List.map Ou.cs [(Ou.mk 3 n.id 0 0 ⟨#[]⟩)])]) (by simp only [bb, eO, b9, z0, z1, z2, z3, z4, vq] <;> rfl)
        · exact rt (en4 z0 <| eb z1 <| ec (cg b n.ses hb (k + 3)) <| eb z2 <| en5 z3 <| et <| e0) (rs := [Res.agg (Nd.cs n), Res.top 5 (List.map Ou.cs [(Ou.mk 3 n.id 0 0 ⟨#[]⟩)])]) (by simp only [bb, eO, b9, z0, z1, z2, z3, vq] <;> rfl)
  · exact rt (en4 z0 <| et <| e0) (rs := [Res.agg (Nd.cs n), Res.top 5 (List.map Ou.cs [])]) (by simp only [bb, eO, b9, z0, vq] <;> rfl)
end Go.Dm
namespace Go.Dm
open Go
set_option maxHeartbeats 1000000
def SG (l : List Evt) (c0 : Int) : St := St.mk (tc (C.slice 7 (List.map Evt.cs l)) :: hs 4 (tc (ii c0) :: hs 26 [])) [] []
def zD (l : List Evt) (i : Nat) (x : Evt) : St := St.mk (tc (C.slice 7 (List.map Evt.cs l)) :: T.hole :: T.hole :: T.hole :: tc (bo true) :: tc (ii (↑i : Int)) :: hs 4 (tc (ii (↑i : Int)) :: tc (C.slice 7 (List.map Evt.cs l)) :: tc (ii (↑(l.length) : Int)) :: tc (bo (decide ((↑i : Int) < (↑(l.length) : Int)))) :: T.hole :: T.hole :: tc (C.slice 7 (List.map Evt.cs l)) :: tc (ii (↑i : Int)) :: tc (C.rptr [ii x.kind, ii x.node, ii x.id, ii x.block, st x.data, u x.n, C.slice 1 (List.map eB x.keeps)]) :: tc (C.rptr [st x.data, u x.n, C.slice 1 (List.map eB x.keeps)]) :: tc (st x.data) :: tc (ii (↑(x.data.size) : Int)) :: tc (bo (decide ((↑(x.data.size) : Int) > 300))) :: tc (bo (decide ((↑(x.data.size) : Int) > 300))) :: ks 7 [tc (bo true)])) [] []
theorem Hz (l : List Evt) (i : Nat) (x : Evt) (hx : l[i]? = some x) (k : Nat) (z0 : (decide ((↑i : Int) < (↑(l.length) : Int))) = true) (z1 : (decide ((↑(x.data.size) : Int) > 300)) = true) : bj (EE (k + 1)) (HH 14) NN (LB PP 14 4) (SG l (↑i : Int)) (Ext.ret) (zD l i x) :=
  ou (ep (af (Evt.cs) (l)) <| eg (G.len (l.length)) <| eb z0 <| ep (rz i) <| ep (ao (f := Evt.cs) hx) <| eg (G.idx i [ii x.kind, ii x.node, ii x.id, ii x.block, st x.data, u x.n, C.slice 1 (List.map eB x.keeps)]) <| eb8 z1 <| et <| e0)
def zt (l : List Evt) (i : Nat) (x : Evt) : St := St.mk (tc (C.slice 7 (List.map Evt.cs l)) :: T.hole :: T.hole :: T.hole :: tc (bo true) :: tc (ii (↑i : Int)) :: hs 4 [tc (ii (↑i : Int)), tc (C.slice 7 (List.map Evt.cs l)), tc (ii (↑(l.length) : Int)), tc (bo (decide ((↑i : Int) < (↑(l.length) : Int)))), T.hole, T.hole, tc (C.slice 7 (List.map Evt.cs l)), tc (ii (↑i : Int)), tc (C.rptr [ii x.kind, ii x.node, ii x.id, ii x.block, st x.data, u x.n, C.slice 1 (List.map eB x.keeps)]), tc (C.rptr [st x.data, u x.n, C.slice 1 (List.map eB x.keeps)]), tc (st x.data), tc (ii (↑(x.data.size) : Int)), tc (bo (decide ((↑(x.data.size) : Int) > 300))), tc (bo (decide ((↑(x.data.size) : Int) > 300))), tc (C.slice 7 (List.map Evt.cs l)), tc (ii (↑i : Int)), tc (C.rptr [ii x.kind, ii x.node, ii x.id, ii x.block, st x.data, u x.n, C.slice 1 (List.map eB x.keeps)]), tc (C.rptr [C.slice 1 (List.map eB x.keeps)]), tc (C.slice 1 (List.map eB x.keeps)), tc (ii (↑(x.keeps.length) : Int)), tc (bo (decide ((↑(x.keeps.length) : Int) > 100))), tc (bo (decide ((↑(x.keeps.length) : Int) > 100)))]) [] []
theorem Hq (l : List Evt) (i : Nat) (x : Evt) (hx : l[i]? = some x) (k : Nat) (z0 : (decide ((↑i : Int) < (↑(l.length) : Int))) = true) (z1 : (decide ((↑(x.data.size) : Int) > 300)) = false) (z2 : (decide ((↑(x.keeps.length) : Int) > 100)) = true) : bj (EE (k + 1)) (HH 14) NN (LB PP 14 4) (SG l (↑i : Int)) (Ext.ret) (zt l i x) :=
  ou (ep (af (Evt.cs) (l)) <| eg (G.len (l.length)) <| eb z0 <| ep (rz i) <| ep (ao (f := Evt.cs) hx) <| eg (G.idx i [ii x.kind, ii x.node, ii x.id, ii x.block, st x.data, u x.n, C.slice 1 (List.map eB x.keeps)]) <| eb3 z1 <| ep (rz i) <| ep (ao (f := Evt.cs) hx) <| eg (G.idx i [ii x.kind, ii x.node, ii x.id, ii x.block, st x.data, u x.n, C.slice 1 (List.map eB x.keeps)]) <| eb3 z1 <| ep (af (eB) x.keeps) <| eg (G.len (x.keeps.length)) <| eb2 z1 <| eb z2 <| e0)
theorem HV (l : List Evt) (i : Nat) (x : Evt) (hx : l[i]? = some x) (k : Nat) (z0 : (decide ((↑i : Int) < (↑(l.length) : Int))) = true) (z1 : (decide ((↑(x.data.size) : Int) > 300)) = false) (z2 : (decide ((↑(x.keeps.length) : Int) > 100)) = false) : ax (EE (k + 1)) (HH 14) NN (LB PP 14 4) 0 0 (SG l (↑i : Int)) (SG l (IntKind.wrap .i64 ((↑i : Int) + 1))) :=
  nx (ep (af (Evt.cs) (l)) <| eg (G.len (l.length)) <| eb z0 <| ep (rz i) <| ep (ao (f := Evt.cs) hx) <| eg (G.idx i [ii x.kind, ii x.node, ii x.id, ii x.block, st x.data, u x.n, C.slice 1 (List.map eB x.keeps)]) <| eb3 z1 <| ep (rz i) <| ep (ao (f := Evt.cs) hx) <| eg (G.idx i [ii x.kind, ii x.node, ii x.id, ii x.block, st x.data, u x.n, C.slice 1 (List.map eB x.keeps)]) <| eb3 z1 <| ep (af (eB) x.keeps) <| eg (G.len (x.keeps.length)) <| eb2 z1 <| eb z2 <| e0)
def yY (l : List Evt) (i : Nat) : St := St.mk (tc (C.slice 7 (List.map Evt.cs l)) :: hs 4 (tc (ii (↑i : Int)) :: hs 4 (tc (ii (↑i : Int)) :: tc (C.slice 7 (List.map Evt.cs l)) :: tc (ii (↑(l.length) : Int)) :: tc (bo (decide ((↑i : Int) < (↑(l.length) : Int)))) :: hs 18 []))) [] []
theorem H2 (l : List Evt) (i : Nat) (k : Nat) (z0 : (decide ((↑i : Int) < (↑(l.length) : Int))) = false) : bj (EE (k + 1)) (HH 14) NN (LB PP 14 4) (SG l (↑i : Int)) (Ext.exit 0) (yY l i) :=
  ou (ep (af (Evt.cs) (l)) <| eg (G.len (l.length)) <| eb z0 <| e0)
theorem DR (l : List Evt) (m : Int) (he : decide ((↑(l.length) : Int) > m) = false) (i : Nat) (x : Evt) (hL : ∀ k, aA (EE (k + 1)) (HH 14) NN (LB PP 14 4) (SG l 0) Ext.ret (zD l i x)) (k : Nat) : ag PP GL XX HH NN (k + 2) 14 [A.c (C.slice 7 (List.map Evt.cs l)), A.c (ii m)] [] = some ([Res.c (bo true)], []) := by
  exact ro (ep (af (Evt.cs) (l)) <| eg (G.len (l.length)) <| eb he <| eg (G.loop Ext.ret (zD l i x)) <| ep (hL k) <| e0)
theorem Du (l : List Evt) (m : Int) (he : decide ((↑(l.length) : Int) > m) = false) (i : Nat) (x : Evt) (hL : ∀ k, aA (EE (k + 1)) (HH 14) NN (LB PP 14 4) (SG l 0) Ext.ret (zt l i x)) (k : Nat) : ag PP GL XX HH NN (k + 2) 14 [A.c (C.slice 7 (List.map Evt.cs l)), A.c (ii m)] [] = some ([Res.c (bo true)], []) := by
  exact ro (ep (af (Evt.cs) (l)) <| eg (G.len (l.length)) <| eb he <| eg (G.loop Ext.ret (zt l i x)) <| ep (hL k) <| e0)
theorem EB (l : List Evt) (m : Int) (he : decide ((↑(l.length) : Int) > m) = false) (hL : ∀ k, aA (EE (k + 1)) (HH 14) NN (LB PP 14 4) (SG l 0) (Ext.exit 0) (yY l (l.length))) (k : Nat) : ag PP GL XX HH NN (k + 2) 14 [A.c (C.slice 7 (List.map Evt.cs l)), A.c (ii m)] [] = some ([Res.c (bo false)], []) := by
  exact ro (ep (af (Evt.cs) (l)) <| eg (G.len (l.length)) <| eb he <| eg (G.loop (Ext.exit 0) (yY l (l.length))) <| ep (hL k) <| e0)
theorem zS (l : List Evt) (m : Int) (he : decide ((↑(l.length) : Int) > m) = true) (k : Nat) : ag PP GL XX HH NN (k + 2) 14 [A.c (C.slice 7 (List.map Evt.cs l)), A.c (ii m)] [] = some ([Res.c (bo true)], []) := by
  exact ro (ep (af (Evt.cs) (l)) <| eg (G.len (l.length)) <| eb he <| e0)
theorem AN (l : List Evt) (m : Int) (hl : l.length ≤ 1000000) (k : Nat) : ag PP GL XX HH NN (k + 2) 14 [.c (.slice 7 (l.map Evt.cs)), .c (ii m)] [] = some ([.c (bo (fF l m))], []) := by
  unfold fF
  cases he : decide ((l.length : Int) > m) with
  | true => exact zS l m he k
  | false =>
    rw [cond_false]
    rcases gA (E := fun k => EE (k + 1)) (H := HH 14) (n := NN) (b := LB PP 14 4) (fun i => SG l (i : Nat)) l mp (fun i x => if decide ((x.data.size : Int) > 300) = true then zD l i x else zt l i x) (yY l l.length) (nv := 0) (nt := 0) (e := .ret) (e' := .exit 0) (by kernel_rfl) (by kernel_rfl)
      (fun k i x hx hp => by
        unfold mp at hp
        rw [Bool.or_eq_false_iff] at hp
        have := HV l i x hx k (dlt hx) hp.1 hp.2
        rwa [mq hx (by omega)] at this)
      (fun k i x hx hp => by
        cases h3 : decide ((x.data.size : Int) > 300) with
        | true => exact Hz l i x hx k (dlt hx) h3
        | false =>
          unfold mp at hp
          rw [h3, Bool.false_or] at hp
          exact Hq l i x hx k (dlt hx) h3 hp)
      (fun k => H2 l l.length k dge) (by unfold NN; omega) with ⟨h1, h2⟩ | ⟨h1, i, x, h3, h4, _, _, h2⟩
    · rw [h1]
      exact EB l m he h2 k
    · rw [h1]
      cases h5 : decide ((x.data.size : Int) > 300) with
      | true =>
        simp only [h5, if_true] at h2
        exact DR l m he i x h2 k
      | false =>
        simp only [h5] at h2
        exact Du l m he i x (by simpa using h2) k
end Go.Dm
namespace Go.Dm
open Go
set_option maxHeartbeats 1000000
theorem wN (k : Nat) : ag PP GL XX HH NN (k + 1) 26 [] [] = some ([Res.c (u 7)], []) := by
  exact rt (e0) rfl
theorem fi (k : Nat) : ag PP GL XX HH NN (k + 1) 93 [] [] = some ([Res.c (st bz8)], []) := by
  exact rt (e0) rfl
theorem Bn (g : Int) (h1 : (Prod.snd (aY (aF 1 g)) == 0) = true) (hL : ∀ k, ag PP GL XX HH NN (k + 5) 90 [A.agg [ii 1, u g, u 0, u 0, u 0, bo false, bo false, bo false]] [] = some ([Res.c (st (aY (aF 1 g)).1), Res.c (ii (aY (aF 1 g)).2)], [])) (k : Nat) : ag PP GL XX HH NN (k + 6) 55 [A.c (ii 1), A.c (u g)] [] = some ([Res.agg (Dk.cs (bR 1 g)), Res.c (ii 0)], []) := by
  exact rt (ec (hL k) <| en h1 <| ec (re 0 (k + 3)) <| ec (oQ (cZ 0) (show ByteArray.size (cZ (0 : Int)) ≤ 1000000 from by decide) (k + 1)) <| eg (G.un) <| et <| ec (fi (k + 4)) <| ep (rfl : [[st (aY (aF (1 : Int) g)).1], [st (bg (cZ (0 : Int)))], [st bz8]] = [[st (aY (aF (1 : Int) g)).1], [st (bg (cZ (0 : Int)))], [st bz8]]) <| ep (show List.length [[st (aY (aF (1 : Int) g)).1], [st (bg (cZ (0 : Int)))], [st bz8]] ≤ 1073741824 from by simp only [vr]; omega) <| ep ((rfl : (2 : Nat) = (2 : Nat))).symm <| eg (G.app [[st (aY (aF 1 g)).1], [st (bg (cZ 0))], [st bz8]]) <| ef <| e0) (by simp only [bR, vq] <;> rfl)
end Go.Dm
namespace Go.Dm
open Go
set_option maxHeartbeats 1000000
theorem Hc (c : Cl) (ho0 : List.length (aj c.n0).2 ≤ 10) (ho1 : List.length (aj c.n1).2 ≤ 10) (hC : ∀ k, ag PP GL XX HH NN (k + 10) 67 [A.agg (Lk.cs c.link)] [] = some ([Res.agg (Lk.cs (aU c.link))], [])) (hA : ∀ k, ag PP GL XX HH NN (k + 10) 68 [A.agg (Nd.cs c.n0)] [] = some ([Res.agg (Nd.cs (aj c.n0).1), Res.top 5 (List.map Ou.cs (aj c.n0).2)], [])) (hB : ∀ k, ag PP GL XX HH NN (k + 10) 68 [A.agg (Nd.cs c.n1)] [] = some ([Res.agg (Nd.cs (aj c.n1).1), Res.top 5 (List.map Ou.cs (aj c.n1).2)], [])) (k : Nat) : ag PP GL XX HH NN (k + 11) 36 [A.agg (Cl.cs c), A.nil] [] = some ([Res.agg (Cl.cs (ez c).1), Res.top 5 (List.map Ou.cs (ez c).2)], []) := by
  rcases bft c.n0.up with z0 | z0
  · rcases bft (Nd.up (aj c.n0).1) with z1 | z1
    · rcases bft c.n1.up with z2 | z2
      · rcases bft (Nd.up (aj c.n1).1) with z3 | z3
        · exact rt (ec (hC k) <| eg (G.un) <| et <| ep (rz 0) <| eg (G.at 0) <| en z0 <| ep (rz 0) <| eg (G.at 0) <| ec (hA k) <| ep (bq (List.map Ou.cs (aj c.n0).2)) <| ep (ar (Ou.cs) (l := Prod.snd (aj c.n0)) (n := 1073741824) (by omega)) <| ep ((rfl : (0 : Nat) = (0 : Nat))).symm <| eg (G.app (List.map Ou.cs (aj c.n0).2)) <| ep (rz 0) <| eg (G.at 0) <| en z1 <| et <| ep (rz 1) <| eg (G.at 1) <| en z2 <| ep (rz 1) <| eg (G.at 1) <| ec (hB k) <| ep (a9 (Ou.cs) (aj c.n0).2 (aj c.n1).2) <| ep (ar (Ou.cs) (l := Prod.snd (aj c.n0) ++ Prod.snd (aj c.n1)) (n := 1073741824) (by simp only [vr]; omega)) <| ep (Eq.refl (List.length (List.map Ou.cs (aj c.n0).2))) <| eg (G.app (List.map Ou.cs (Prod.snd (aj c.n0) ++ Prod.snd (aj c.n1)))) <| ep (rz 1) <| eg (G.at 1) <| en z3 <| ef <| eq1 (List.length (List.map Ou.cs (Prod.snd (aj c.n0) ++ Prod.snd (aj c.n1)))) <| e0) (rs := [Res.agg (Cl.cs (Cl.mk (aj c.n0).1 (aj c.n1).1 (aU c.link) c.w0 c.w1)), Res.top 5 (List.map Ou.cs (Prod.snd (aj c.n0) ++ Prod.snd (aj c.n1)))]) (by simp only [ez, ct, aU, List.map_append, List.map_nil, List.append_nil, z0, z1, z2, z3, vq] <;> rfl)
        · exact rt (ec (hC k) <| eg (G.un) <| et <| ep (rz 0) <| eg (G.at 0) <| en z0 <| ep (rz 0) <| eg (G.at 0) <| ec (hA k) <| ep (bq (List.map Ou.cs (aj c.n0).2)) <| ep (ar (Ou.cs) (l := Prod.snd (aj c.n0)) (n := 1073741824) (by omega)) <| ep ((rfl : (0 : Nat) = (0 : Nat))).symm <| eg (G.app (List.map Ou.cs (aj c.n0).2)) <| ep (rz 0) <| eg (G.at 0) <| en z1 <| et <| ep (rz 1) <| eg (G.at 1) <| en z2 <| ep (rz 1) <| eg (G.at 1) <| ec (hB k) <| ep (a9 (Ou.cs) (aj c.n0).2 (aj c.n1).2) <| ep (ar (Ou.cs) (l := Prod.snd (aj c.n0) ++ Prod.snd (aj c.n1)) (n := 1073741824) (by simp only [vr]; omega)) <| ep (Eq.refl (List.length (List.map Ou.cs (aj c.n0).2))) <| eg (G.app (List.map Ou.cs (Prod.snd (aj c.n0) ++ Prod.snd (aj c.n1)))) <| ep (rz 1) <| eg (G.at 1) <| en z3 <| ep (rz 1) <| eg (G.at 1) <| ef <| eq1 (List.length (List.map Ou.cs (Prod.snd (aj c.n0) ++ Prod.snd (aj c.n1)))) <| e0) (rs := [Res.agg (Cl.cs (Cl.mk (aj c.n0).1 (aj c.n1).1 (aU c.link) c.w0 false)), Res.top 5 (List.map Ou.cs (Prod.snd (aj c.n0) ++ Prod.snd (aj c.n1)))]) (by simp only [ez, ct, aU, List.map_append, List.map_nil, List.append_nil, z0, z1, z2, z3, vq] <;> rfl)
      · exact rt (ec (hC k) <| eg (G.un) <| et <| ep (rz 0) <| eg (G.at 0) <| en z0 <| ep (rz 0) <| eg (G.at 0) <| ec (hA k) <| ep (bq (List.map Ou.cs (aj c.n0).2)) <| ep (ar (Ou.cs) (l := Prod.snd (aj c.n0)) (n := 1073741824) (by omega)) <| ep ((rfl : (0 : Nat) = (0 : Nat))).symm <| eg (G.app (List.map Ou.cs (aj c.n0).2)) <| ep (rz 0) <| eg (G.at 0) <| en z1 <| et <| ep (rz 1) <| eg (G.at 1) <| en z2 <| ef <| eq1 (List.length (List.map Ou.cs (aj c.n0).2)) <| e0) (rs := [Res.agg (Cl.cs ({ c with n0 := Prod.fst (aj c.n0), link := aU c.link } : Cl)), Res.top 5 (List.map Ou.cs (aj c.n0).2)]) (by simp only [ez, ct, aU, List.map_append, List.map_nil, List.append_nil, z0, z1, z2, vq] <;> rfl)
    · rcases bft c.n1.up with z2 | z2
      · rcases bft (Nd.up (aj c.n1).1) with z3 | z3
        · exact rt (ec (hC k) <| eg (G.un) <| et <| ep (rz 0) <| eg (G.at 0) <| en z0 <| ep (rz 0) <| eg (G.at 0) <| ec (hA k) <| ep (bq (List.map Ou.cs (aj c.n0).2)) <| ep (ar (Ou.cs) (l := Prod.snd (aj c.n0)) (n := 1073741824) (by omega)) <| ep ((rfl : (0 : Nat) = (0 : Nat))).symm <| eg (G.app (List.map Ou.cs (aj c.n0).2)) <| ep (rz 0) <| eg (G.at 0) <| en z1 <| ep (rz 0) <| eg (G.at 0) <| et <| ep (rz 1) <| eg (G.at 1) <| en z2 <| ep (rz 1) <| eg (G.at 1) <| ec (hB k) <| ep (a9 (Ou.cs) (aj c.n0).2 (aj c.n1).2) <| ep (ar (Ou.cs) (l := Prod.snd (aj c.n0) ++ Prod.snd (aj c.n1)) (n := 1073741824) (by simp only [vr]; omega)) <| ep (Eq.refl (List.length (List.map Ou.cs (aj c.n0).2))) <| eg (G.app (List.map Ou.cs (Prod.snd (aj c.n0) ++ Prod.snd (aj c.n1)))) <| ep (rz 1) <| eg (G.at 1) <| en z3 <| ef <| eq1 (List.length (List.map Ou.cs (Prod.snd (aj c.n0) ++ Prod.snd (aj c.n1)))) <| e0) (rs := [Res.agg (Cl.cs (Cl.mk (aj c.n0).1 (aj c.n1).1 (aU c.link) false c.w1)), Res.top 5 (List.map Ou.cs (Prod.snd (aj c.n0) ++ Prod.snd (aj c.n1)))]) (by simp only [ez, ct, aU, List.map_append, List.map_nil, List.append_nil, z0, z1, z2, z3, vq] <;> rfl)
        · exact rt (ec (hC k) <| eg (G.un) <| et <| ep (rz 0) <| eg (G.at 0) <| en z0 <| ep (rz 0) <| eg (G.at 0) <| ec (hA k) <| ep (bq (List.map Ou.cs (aj c.n0).2)) <| ep (ar (Ou.cs) (l := Prod.snd (aj c.n0)) (n := 1073741824) (by omega)) <| ep ((rfl : (0 : Nat) = (0 : Nat))).symm <| eg (G.app (List.map Ou.cs (aj c.n0).2)) <| ep (rz 0) <| eg (G.at 0) <| en z1 <| ep (rz 0) <| eg (G.at 0) <| et <| ep (rz 1) <| eg (G.at 1) <| en z2 <| ep (rz 1) <| eg (G.at 1) <| ec (hB k) <| ep (a9 (Ou.cs) (aj c.n0).2 (aj c.n1).2) <| ep (ar (Ou.cs) (l := Prod.snd (aj c.n0) ++ Prod.snd (aj c.n1)) (n := 1073741824) (by simp only [vr]; omega)) <| ep (Eq.refl (List.length (List.map Ou.cs (aj c.n0).2))) <| eg (G.app (List.map Ou.cs (Prod.snd (aj c.n0) ++ Prod.snd (aj c.n1)))) <| ep (rz 1) <| eg (G.at 1) <| en z3 <| ep (rz 1) <| eg (G.at 1) <| ef <| eq1 (List.length (List.map Ou.cs (Prod.snd (aj c.n0) ++ Prod.snd (aj c.n1)))) <| e0) (rs := [Res.agg (Cl.cs (Cl.mk (aj c.n0).1 (aj c.n1).1 (aU c.link) false false)), Res.top 5 (List.map Ou.cs (Prod.snd (aj c.n0) ++ Prod.snd (aj c.n1)))]) (by simp only [ez, ct, aU, List.map_append, List.map_nil, List.append_nil, z0, z1, z2, z3, vq] <;> rfl)
      · exact rt (ec (hC k) <| eg (G.un) <| et <| ep (rz 0) <| eg (G.at 0) <| en z0 <| ep (rz 0) <| eg (G.at 0) <| ec (hA k) <| ep (bq (List.map Ou.cs (aj c.n0).2)) <| ep (ar (Ou.cs) (l := Prod.snd (aj c.n0)) (n := 1073741824) (by omega)) <| ep ((rfl : (0 : Nat) = (0 : Nat))).symm <| eg (G.app (List.map Ou.cs (aj c.n0).2)) <| ep (rz 0) <| eg (G.at 0) <| en z1 <| ep (rz 0) <| eg (G.at 0) <| et <| ep (rz 1) <| eg (G.at 1) <| en z2 <| ef <| eq1 (List.length (List.map Ou.cs (aj c.n0).2)) <| e0) (rs := [Res.agg (Cl.cs (Cl.mk (aj c.n0).1 c.n1 (aU c.link) false c.w1)), Res.top 5 (List.map Ou.cs (aj c.n0).2)]) (by simp only [ez, ct, aU, List.map_append, List.map_nil, List.append_nil, z0, z1, z2, vq] <;> rfl)
  · rcases bft c.n1.up with z1 | z1
    · rcases bft (Nd.up (aj c.n1).1) with z2 | z2
      · exact rt (ec (hC k) <| eg (G.un) <| et <| ep (rz 0) <| eg (G.at 0) <| en z0 <| et <| ep (rz 1) <| eg (G.at 1) <| en z1 <| ep (rz 1) <| eg (G.at 1) <| ec (hB k) <| ep (bq (List.map Ou.cs (aj c.n1).2)) <| ep (ar (Ou.cs) (l := Prod.snd (aj c.n1)) (n := 1073741824) (by omega)) <| ep ((rfl : (0 : Nat) = (0 : Nat))).symm <| eg (G.app (List.map Ou.cs (aj c.n1).2)) <| ep (rz 1) <| eg (G.at 1) <| en z2 <| ef <| eq1 (List.length (List.map Ou.cs (aj c.n1).2)) <| e0) (rs := [Res.agg (Cl.cs ({ c with n1 := Prod.fst (aj c.n1), link := aU c.link } : Cl)), Res.top 5 (List.map Ou.cs (aj c.n1).2)]) (by simp only [ez, ct, aU, List.map_append, List.map_nil, List.append_nil, z0, z1, z2, vq] <;> rfl)
      · exact rt (ec (hC k) <| eg (G.un) <| et <| ep (rz 0) <| eg (G.at 0) <| en z0 <| et <| ep (rz 1) <| eg (G.at 1) <| en z1 <| ep (rz 1) <| eg (G.at 1) <| ec (hB k) <| ep (bq (List.map Ou.cs (aj c.n1).2)) <| ep (ar (Ou.cs) (l := Prod.snd (aj c.n1)) (n := 1073741824) (by omega)) <| ep ((rfl : (0 : Nat) = (0 : Nat))).symm <| eg (G.app (List.map Ou.cs (aj c.n1).2)) <| ep (rz 1) <| eg (G.at 1) <| en z2 <| ep (rz 1) <| eg (G.at 1) <| ef <| eq1 (List.length (List.map Ou.cs (aj c.n1).2)) <| e0) (rs := [Res.agg (Cl.cs (Cl.mk c.n0 (aj c.n1).1 (aU c.link) c.w0 false)), Res.top 5 (List.map Ou.cs (aj c.n1).2)]) (by simp only [ez, ct, aU, List.map_append, List.map_nil, List.append_nil, z0, z1, z2, vq] <;> rfl)
    · exact rt (ec (hC k) <| eg (G.un) <| et <| ep (rz 0) <| eg (G.at 0) <| en z0 <| et <| ep (rz 1) <| eg (G.at 1) <| en z1 <| ef <| ep ((rfl : (0 : Nat) = (0 : Nat))).symm <| e0) (rs := [Res.agg (Cl.cs ({ c with link := aU c.link } : Cl)), Res.top 5 (List.map Ou.cs [])]) (by simp only [ez, ct, aU, List.map_append, List.map_nil, List.append_nil, z0, z1, vq] <;> rfl)
theorem tL (n : Nd) : (dy n).length ≤ 1 := by
  unfold dy
  exact ai (p := fun (l : List Ou) => l.length ≤ 1) (Nat.le_refl _) (Nat.zero_le _)
theorem iQ (n : Nd) : (aj n).2.length ≤ 10 := by
  have h := tL n
  unfold aj
  refine ai (p := fun (x : Nd × List Ou) => x.2.length ≤ 10) (Nat.zero_le _) (ai (p := fun (x : Nd × List Ou) => x.2.length ≤ 10) (by show (dy n).length ≤ 10; omega) (ai (p := fun (x : Nd × List Ou) => x.2.length ≤ 10) (by show (dy n).length ≤ 10; omega) ?_))
  rw [List.length_append, List.length_cons, List.length_nil]
  omega
theorem CG (c : Cl) (hr0 : c.n0.draws.length ≤ 1000000) (hm0 : c.n0.mints.length ≤ 1000000) (hs0 : c.n0.store.disk.sure.length ≤ 1000000) (hc0 : c.n0.store.disk.cache.length ≤ 880) (hr1 : c.n1.draws.length ≤ 1000000) (hm1 : c.n1.mints.length ≤ 1000000) (hs1 : c.n1.store.disk.sure.length ≤ 1000000) (hc1 : c.n1.store.disk.cache.length ≤ 880) (k : Nat) : ag PP GL XX HH NN (k + 11) 36 [.agg c.cs, .nil] [] = some ([.agg (ez c).1.cs, .top 5 ((ez c).2.map Ou.cs)], []) :=
  Hc c (iQ _) (iQ _) (fun k => ry c.link (k + 9)) (fun k => sU c.n0 hr0 hm0 hs0 (by omega) k) (fun k => sU c.n1 hr1 hm1 hs1 (by omega) k) k
end Go.Dm
namespace Go.Dm
open Go
set_option maxHeartbeats 1000000
def Srv (d : Dk) (ks : List Bool) (c0 : List ByteArray) (c1 : Int) : St := St.mk (T.hole :: tc (C.slice (1 : Nat) (List.map eB ks)) :: T.k (K.v (V.ptr (0 : Nat) (0 : Nat))) :: T.hole :: T.k (K.v (V.ptr (1 : Nat) (0 : Nat))) :: T.k (K.v (V.vsl (2 : Nat) (0 : Nat) (1 : Nat) (List.length (List.map eS (Dk.sure d))))) :: tc (ii c1) :: hs (37 : Nat) []) [[V.c (C.slice (1 : Nat) (List.map eS (Dk.sure d))), V.c (C.slice (2 : Nat) (List.map Wr.cs (Dk.cache d))), V.c (ii (Dk.fuse d)), V.c (bo (Dk.dead d))], [V.own (1 : Nat) [] Tk.exact, V.own (2 : Nat) [] Tk.exact, V.c (ii (0 : Int)), V.c (bo false)], List.map (fun (x : ByteArray) => V.c (st x)) c0] []
theorem ER (d : Dk) (ks : List Bool) (l : List ByteArray) (i : Nat) (w : Wr) (b : Bool) (hw : d.cache[i]? = some w) (hb : ks[i]? = some b) (h1 : (0 : Int) ≤ Wr.sec w) (h2 : Int.toNat w.sec < d.sure.length) (h3 : Int.toNat w.sec < l.length) (k : Nat) (z0 : (decide ((↑i : Int) < (↑(d.cache.length) : Int))) = true) (z1 : (decide ((↑i : Int) < (↑(ks.length) : Int))) = true) (z2 : (b) = true) : ax (EE (k + 1)) (HH 81) NN (LB PP 81 3) 3 0 (Srv d ks l (↑i : Int)) (Srv d ks (List.set l (Int.toNat w.sec) w.data) (IntKind.wrap .i64 ((↑i : Int) + 1))) :=
  nx2 [2] (ep (af (Wr.cs) d.cache) <| eg (G.len (d.cache.length)) <| eb z0 <| eb z0 <| eb z0 <| ep (af (eB) (ks)) <| eg (G.len (ks.length)) <| eb z0 <| eb z0 <| eb z1 <| ep (rz i) <| ep (ao (f := eB) hb) <| eg (G.idx i [bo b]) <| eb z2 <| ep (rz i) <| ep (ao (f := Wr.cs) hw) <| eg (G.idx i [ii w.sec, st w.data]) <| ep (rz i) <| ep (ao (f := Wr.cs) hw) <| eg (G.idx i [ii w.sec, st w.data]) <| ep (Int.toNat_of_nonneg h1).symm <| ep (gu (eS) (l := Dk.sure d) h2) <| eg (G.vat (Int.toNat w.sec)) <| ep (jh (fun (x : ByteArray) => V.c (st x)) (l) (Int.toNat w.sec) (V.c (st w.data)) h3) <| ep (fN (fun (x : ByteArray) => V.c (st x)) (l) (Int.toNat w.sec) w.data h3) <| eg (G.sto (List.map (fun (x : ByteArray) => V.c (st x)) (List.set l (Int.toNat w.sec) w.data))) <| ep (wK (fun (x : ByteArray) => st x) (List.set l (Int.toNat w.sec) w.data) 3) <| ep (ql (fun (x : ByteArray) => st x) (List.set l (Int.toNat w.sec) w.data) 0) <| e0)
theorem Gs (d : Dk) (ks : List Bool) (l : List ByteArray) (i : Nat) (b : Bool) (hb : ks[i]? = some b) (k : Nat) (z0 : (decide ((↑i : Int) < (↑(d.cache.length) : Int))) = true) (z1 : (decide ((↑i : Int) < (↑(ks.length) : Int))) = true) (z2 : (b) = false) : ax (EE (k + 1)) (HH 81) NN (LB PP 81 3) 3 0 (Srv d ks l (↑i : Int)) (Srv d ks l (IntKind.wrap .i64 ((↑i : Int) + 1))) :=
  nx2 [2] (ep (af (Wr.cs) d.cache) <| eg (G.len (d.cache.length)) <| eb z0 <| eb z0 <| eb z0 <| ep (af (eB) (ks)) <| eg (G.len (ks.length)) <| eb z0 <| eb z0 <| eb z1 <| ep (rz i) <| ep (ao (f := eB) hb) <| eg (G.idx i [bo b]) <| eb z2 <| ep (wK (fun (x : ByteArray) => st x) (l) 3) <| ep (ql (fun (x : ByteArray) => st x) (l) 0) <| e0)
def rS (d : Dk) (ks : List Bool) (l : List ByteArray) (i : Nat) : St := St.mk (T.hole :: tc (C.slice 1 (List.map eB ks)) :: T.k (K.v (V.ptr 0 0)) :: T.hole :: T.k (K.v (V.ptr 1 0)) :: T.k (K.v (V.vsl 2 0 1 (List.length (List.map eS d.sure)))) :: tc (ii (↑i : Int)) :: hs 4 (tc (ii (↑i : Int)) :: T.k (K.v (V.ptr 0 1)) :: tc (C.slice 2 (List.map Wr.cs d.cache)) :: tc (ii (↑(d.cache.length) : Int)) :: tc (bo (decide ((↑i : Int) < (↑(d.cache.length) : Int)))) :: tc (bo (decide ((↑i : Int) < (↑(d.cache.length) : Int)))) :: tc (ii (↑i : Int)) :: tc (C.slice 1 (List.map eB ks)) :: tc (ii (↑(ks.length) : Int)) :: tc (bo (decide ((↑i : Int) < (↑(ks.length) : Int)))) :: tc (bo (decide ((↑i : Int) < (↑(ks.length) : Int)))) :: hs 22 [])) [[V.c (C.slice 1 (List.map eS d.sure)), V.c (C.slice 2 (List.map Wr.cs d.cache)), V.c (ii d.fuse), V.c (bo d.dead)], [V.own 1 [] Tk.exact, V.own 2 [] Tk.exact, V.c (ii 0), V.c (bo false)], List.map (fun (x : ByteArray) => V.c (st x)) l] []
theorem Fh (d : Dk) (ks : List Bool) (l : List ByteArray) (i : Nat) (k : Nat) (z0 : (decide ((↑i : Int) < (↑(d.cache.length) : Int))) = true) (z1 : (decide ((↑i : Int) < (↑(ks.length) : Int))) = false) : bj (EE (k + 1)) (HH 81) NN (LB PP 81 3) (Srv d ks l (↑i : Int)) (Ext.exit 0) (rS d ks l i) :=
  ou (ep (af (Wr.cs) d.cache) <| eg (G.len (d.cache.length)) <| eb3 z0 <| ep (af (eB) (ks)) <| eg (G.len (ks.length)) <| eb2 z0 <| eb z1 <| e0)
def sS (d : Dk) (ks : List Bool) (l : List ByteArray) (i : Nat) : St := St.mk (T.hole :: tc (C.slice 1 (List.map eB ks)) :: T.k (K.v (V.ptr 0 0)) :: T.hole :: T.k (K.v (V.ptr 1 0)) :: T.k (K.v (V.vsl 2 0 1 (List.length (List.map eS d.sure)))) :: tc (ii (↑i : Int)) :: hs 4 (tc (ii (↑i : Int)) :: T.k (K.v (V.ptr 0 1)) :: tc (C.slice 2 (List.map Wr.cs d.cache)) :: tc (ii (↑(d.cache.length) : Int)) :: tc (bo (decide ((↑i : Int) < (↑(d.cache.length) : Int)))) :: tc (bo (decide ((↑i : Int) < (↑(d.cache.length) : Int)))) :: Dm.ks 4 (tc (bo false) :: hs 22 []))) [[V.c (C.slice 1 (List.map eS d.sure)), V.c (C.slice 2 (List.map Wr.cs d.cache)), V.c (ii d.fuse), V.c (bo d.dead)], [V.own 1 [] Tk.exact, V.own 2 [] Tk.exact, V.c (ii 0), V.c (bo false)], List.map (fun (x : ByteArray) => V.c (st x)) l] []
theorem FX (d : Dk) (ks : List Bool) (l : List ByteArray) (i : Nat) (k : Nat) (z0 : (decide ((↑i : Int) < (↑(d.cache.length) : Int))) = false) : bj (EE (k + 1)) (HH 81) NN (LB PP 81 3) (Srv d ks l (↑i : Int)) (Ext.exit 0) (sS d ks l i) :=
  ou (ep (af (Wr.cs) d.cache) <| eg (G.len (d.cache.length)) <| eb5 z0 <| ef <| e0)
abbrev jL (s : List ByteArray) (x : Wr × Bool) : List ByteArray := bif x.2 then s.set x.1.sec.toNat x.1.data else s
theorem wn : ∀ (l : List (Wr × Bool)) (s : List ByteArray), (l.foldl jL s).length = s.length
  | [], _ => rfl
  | x :: l, s => by
    rw [List.foldl_cons, wn l]
    unfold jL
    cases x.2 with
    | true => simp
    | false => rfl
def ri (d : Dk) : Prop := ∀ w ∈ d.cache, 0 ≤ w.sec ∧ w.sec.toNat < d.sure.length
theorem Lrv (d : Dk) (ks : List Bool) (hin : ri d) (hc : d.cache.length ≤ 1000000) (t : List ByteArray → St) (k : Nat)
    (last : ∀ l : List ByteArray, l.length = d.sure.length → bj (EE (k + 1)) (HH 81) NN (LB PP 81 3) (Srv d ks l ((d.cache.zip ks).length : Nat)) (.exit 0) (t l)) :
    aA (EE (k + 1)) (HH 81) NN (LB PP 81 3) (Srv d ks d.sure 0) (.exit 0) (t ((d.cache.zip ks).foldl jL d.sure)) := by
  refine cq (E := EE (k + 1)) (fun s i => Srv d ks s (i : Nat)) (fun _ s => s.length = d.sure.length) (d.cache.zip ks) jL d.sure (nv := 3) (nt := 0) rfl (by kernel_rfl) (by kernel_rfl) rfl (fun s i x hx hp => ?_) (fun hp => last _ hp) (by unfold NN; rw [List.length_zip]; omega)
  obtain ⟨hw, hb⟩ := AZ hx
  obtain ⟨h1, h2⟩ := hin x.1 (List.mem_of_getElem? hw)
  have h3 : x.1.sec.toNat < s.length := by omega
  unfold jL
  cases hq : x.2 with
  | true =>
    rw [hq] at hb
    refine ⟨?_, by simpa using hp⟩
    have := ER d ks s i x.1 true hw hb h1 h2 h3 k (dlt hw) (dlt hb) rfl
    rwa [mq hw (by omega)] at this
  | false =>
    rw [hq] at hb
    refine ⟨?_, hp⟩
    have := Gs d ks s i false hb k (dlt hw) (dlt hb) rfl
    rwa [mq hw (by omega)] at this
theorem yO (d : Dk) (ks : List Bool) (l : List ByteArray) (i : Nat) (h1 : (0 : Nat) < d.sure.length) (h2 : d.sure.length ≤ 1000000) (h3 : List.length (List.map eS d.sure) = l.length) (hL : ∀ k, aA (EE (k + 1)) (HH 81) NN (LB PP 81 3) (Srv d ks d.sure 0) (Ext.exit 0) (rS d ks l i)) (k : Nat) : ag PP GL XX HH NN (k + 2) 81 [A.agg (Dk.cs d), A.c (C.slice 1 (List.map eB ks))] [] = some ([Res.agg (Dk.cs (Dk.mk l ([]) 0 false))], []) := by
  exact rt (ep (cO (f := eS) (g := fun (x : ByteArray) => st x) (fun _ => rfl) d.sure) <| ep (cN (eS) (l := Dk.sure d) h1) <| ep (ar (eS) (l := Dk.sure d) (n := 1073741824) (show d.sure.length ≤ 1073741824 from by omega)) <| eg (G.rowv (List.map (fun (x : ByteArray) => V.c (st x)) d.sure)) <| eg (G.loop (Ext.exit 0) (rS d ks l i)) <| ep (hL k) <| ep (bD (fun (x : ByteArray) => st x) (l) h3) <| eg (G.rows (List.map (fun (x : ByteArray) => [st x]) l)) <| e0) rfl
theorem yd (d : Dk) (ks : List Bool) (l : List ByteArray) (i : Nat) (h1 : (0 : Nat) < d.sure.length) (h2 : d.sure.length ≤ 1000000) (h3 : List.length (List.map eS d.sure) = l.length) (hL : ∀ k, aA (EE (k + 1)) (HH 81) NN (LB PP 81 3) (Srv d ks d.sure 0) (Ext.exit 0) (sS d ks l i)) (k : Nat) : ag PP GL XX HH NN (k + 2) 81 [A.agg (Dk.cs d), A.c (C.slice 1 (List.map eB ks))] [] = some ([Res.agg (Dk.cs (Dk.mk l ([]) 0 false))], []) := by
  exact rt (ep (cO (f := eS) (g := fun (x : ByteArray) => st x) (fun _ => rfl) d.sure) <| ep (cN (eS) (l := Dk.sure d) h1) <| ep (ar (eS) (l := Dk.sure d) (n := 1073741824) (show d.sure.length ≤ 1073741824 from by omega)) <| eg (G.rowv (List.map (fun (x : ByteArray) => V.c (st x)) d.sure)) <| eg (G.loop (Ext.exit 0) (sS d ks l i)) <| ep (hL k) <| ep (bD (fun (x : ByteArray) => st x) (l) h3) <| eg (G.rows (List.map (fun (x : ByteArray) => [st x]) l)) <| e0) rfl
theorem Bz (d : Dk) (ks : List Bool) (hin : ri d) (hc : d.cache.length ≤ 1000000) (h1 : 0 < d.sure.length) (h2 : d.sure.length ≤ 1000000) (k : Nat) : ag PP GL XX HH NN (k + 2) 81 [.agg d.cs, .c (.slice 1 (ks.map eB))] [] = some ([.agg (bV d ks).cs], []) := by
  have hlen : List.length (List.map eS d.sure) = ((d.cache.zip ks).foldl jL d.sure).length := by rw [List.length_map, wn]
  by_cases hq : d.cache.length ≤ ks.length
  · refine yd d ks _ (d.cache.zip ks).length h1 h2 hlen (fun k => Lrv d ks hin hc (fun l => sS d ks l (d.cache.zip ks).length) k (fun l _ => FX d ks l _ k (decide_eq_false ?_))) k
    rw [List.length_zip]; omega
  · refine yO d ks _ (d.cache.zip ks).length h1 h2 hlen (fun k => Lrv d ks hin hc (fun l => rS d ks l (d.cache.zip ks).length) k (fun l _ => Fh d ks l _ k (decide_eq_true ?_) (decide_eq_false ?_))) k
    · rw [List.length_zip]; omega
    · rw [List.length_zip]; omega
end Go.Dm
namespace Go.Dm
open Go
set_option maxHeartbeats 1000000
theorem Aa (l : Lk) (to : Int) (x : ByteArray) (h0 : l.to0.length + 1 ≤ 1000000) (h1 : l.to1.length + 1 ≤ 1000000) (k : Nat) : ag PP GL XX HH NN (k + 1) 84 [.agg l.cs, .c (ii to), .c (.slice 1 [[st x]])] [] = some ([.agg (dd l to [x]).1.cs, .c (ii (dd l to [x]).2)], []) := AX l to [x] h0 h1 k
theorem HN (c : Cl) (out : List Ou) (hlen : out.length ≤ 1000) (ho0 : List.length (aj c.n0).2 ≤ 10) (ho1 : List.length (aj c.n1).2 ≤ 10) (hC : ∀ k, ag PP GL XX HH NN (k + 10) 67 [A.agg (Lk.cs c.link)] [] = some ([Res.agg (Lk.cs (aU c.link))], [])) (hA : ∀ k, ag PP GL XX HH NN (k + 10) 68 [A.agg (Nd.cs c.n0)] [] = some ([Res.agg (Nd.cs (aj c.n0).1), Res.top 5 (List.map Ou.cs (aj c.n0).2)], [])) (hB : ∀ k, ag PP GL XX HH NN (k + 10) 68 [A.agg (Nd.cs c.n1)] [] = some ([Res.agg (Nd.cs (aj c.n1).1), Res.top 5 (List.map Ou.cs (aj c.n1).2)], [])) (k : Nat) : ag PP GL XX HH NN (k + 11) 36 [A.agg (Cl.cs c), A.top 5 (List.map Ou.cs out)] [] = some ([Res.agg (Cl.cs (ez c).1), Res.top 5 (List.map Ou.cs (out ++ Prod.snd (ez c)))], []) := by
  rcases bft c.n0.up with z0 | z0
  · rcases bft (Nd.up (aj c.n0).1) with z1 | z1
    · rcases bft c.n1.up with z2 | z2
      · rcases bft (Nd.up (aj c.n1).1) with z3 | z3
        · exact rt (ec (hC k) <| eg (G.un) <| et <| ep (rz 0) <| eg (G.at 0) <| en z0 <| ep (rz 0) <| eg (G.at 0) <| ec (hA k) <| ep (a9 (Ou.cs) (out) (aj c.n0).2) <| ep (ar (Ou.cs) (l := out ++ Prod.snd (aj c.n0)) (n := 1073741824) (by simp only [vr]; omega)) <| ep (Eq.refl (List.length (List.map Ou.cs out))) <| eg (G.app (List.map Ou.cs (out ++ Prod.snd (aj c.n0)))) <| ep (rz 0) <| eg (G.at 0) <| en z1 <| et <| ep (rz 1) <| eg (G.at 1) <| en z2 <| ep (rz 1) <| eg (G.at 1) <| ec (hB k) <| ep (a9 (Ou.cs) (out ++ Prod.snd (aj c.n0)) (aj c.n1).2) <| ep (ar (Ou.cs) (l := out ++ Prod.snd (aj c.n0) ++ Prod.snd (aj c.n1)) (n := 1073741824) (by simp only [vr]; omega)) <| ep (Eq.refl (List.length (List.map Ou.cs (out ++ Prod.snd (aj c.n0))))) <| eg (G.app (List.map Ou.cs (out ++ Prod.snd (aj c.n0) ++ Prod.snd (aj c.n1)))) <| ep (rz 1) <| eg (G.at 1) <| en z3 <| ef <| eq1 (List.length (List.map Ou.cs (out ++ Prod.snd (aj c.n0) ++ Prod.snd (aj c.n1)))) <| e0) (rs := [Res.agg (Cl.cs (Cl.mk (aj c.n0).1 (aj c.n1).1 (aU c.link) c.w0 c.w1)), Res.top 5 (List.map Ou.cs (out ++ Prod.snd (aj c.n0) ++ Prod.snd (aj c.n1)))]) (by simp only [ez, ct, aU, List.map_append, List.map_nil, List.append_nil, List.append_assoc, z0, z1, z2, z3, vq] <;> rfl)
        · exact rt (ec (hC k) <| eg (G.un) <| et <| ep (rz 0) <| eg (G.at 0) <| en z0 <| ep (rz 0) <| eg (G.at 0) <| ec (hA k) <| ep (a9 (Ou.cs) (out) (aj c.n0).2) <| ep (ar (Ou.cs) (l := out ++ Prod.snd (aj c.n0)) (n := 1073741824) (by simp only [vr]; omega)) <| ep (Eq.refl (List.length (List.map Ou.cs out))) <| eg (G.app (List.map Ou.cs (out ++ Prod.snd (aj c.n0)))) <| ep (rz 0) <| eg (G.at 0) <| en z1 <| et <| ep (rz 1) <| eg (G.at 1) <| en z2 <| ep (rz 1) <| eg (G.at 1) <| ec (hB k) <| ep (a9 (Ou.cs) (out ++ Prod.snd (aj c.n0)) (aj c.n1).2) <| ep (ar (Ou.cs) (l := out ++ Prod.snd (aj c.n0) ++ Prod.snd (aj c.n1)) (n := 1073741824) (by simp only [vr]; omega)) <| ep (Eq.refl (List.length (List.map Ou.cs (out ++ Prod.snd (aj c.n0))))) <| eg (G.app (List.map Ou.cs (out ++ Prod.snd (aj c.n0) ++ Prod.snd (aj c.n1)))) <| ep (rz 1) <| eg (G.at 1) <| en z3 <| ep (rz 1) <| eg (G.at 1) <| ef <| eq1 (List.length (List.map Ou.cs (out ++ Prod.snd (aj c.n0) ++ Prod.snd (aj c.n1)))) <| e0) (rs := [Res.agg (Cl.cs (Cl.mk (aj c.n0).1 (aj c.n1).1 (aU c.link) c.w0 false)), Res.top 5 (List.map Ou.cs (out ++ Prod.snd (aj c.n0) ++ Prod.snd (aj c.n1)))]) (by simp only [ez, ct, aU, List.map_append, List.map_nil, List.append_nil, List.append_assoc, z0, z1, z2, z3, vq] <;> rfl)
      · exact rt (ec (hC k) <| eg (G.un) <| et <| ep (rz 0) <| eg (G.at 0) <| en z0 <| ep (rz 0) <| eg (G.at 0) <| ec (hA k) <| ep (a9 (Ou.cs) (out) (aj c.n0).2) <| ep (ar (Ou.cs) (l := out ++ Prod.snd (aj c.n0)) (n := 1073741824) (by simp only [vr]; omega)) <| ep (Eq.refl (List.length (List.map Ou.cs out))) <| eg (G.app (List.map Ou.cs (out ++ Prod.snd (aj c.n0)))) <| ep (rz 0) <| eg (G.at 0) <| en z1 <| et <| ep (rz 1) <| eg (G.at 1) <| en z2 <| ef <| eq1 (List.length (List.map Ou.cs (out ++ Prod.snd (aj c.n0)))) <| e0) (rs := [Res.agg (Cl.cs ({ c with n0 := Prod.fst (aj c.n0), link := aU c.link } : Cl)), Res.top 5 (List.map Ou.cs (out ++ Prod.snd (aj c.n0)))]) (by simp only [ez, ct, aU, List.map_append, List.map_nil, List.append_nil, List.append_assoc, z0, z1, z2, vq] <;> rfl)
    · rcases bft c.n1.up with z2 | z2
      · rcases bft (Nd.up (aj c.n1).1) with z3 | z3
        · exact rt (ec (hC k) <| eg (G.un) <| et <| ep (rz 0) <| eg (G.at 0) <| en z0 <| ep (rz 0) <| eg (G.at 0) <| ec (hA k) <| ep (a9 (Ou.cs) (out) (aj c.n0).2) <| ep (ar (Ou.cs) (l := out ++ Prod.snd (aj c.n0)) (n := 1073741824) (by simp only [vr]; omega)) <| ep (Eq.refl (List.length (List.map Ou.cs out))) <| eg (G.app (List.map Ou.cs (out ++ Prod.snd (aj c.n0)))) <| ep (rz 0) <| eg (G.at 0) <| en z1 <| ep (rz 0) <| eg (G.at 0) <| et <| ep (rz 1) <| eg (G.at 1) <| en z2 <| ep (rz 1) <| eg (G.at 1) <| ec (hB k) <| ep (a9 (Ou.cs) (out ++ Prod.snd (aj c.n0)) (aj c.n1).2) <| ep (ar (Ou.cs) (l := out ++ Prod.snd (aj c.n0) ++ Prod.snd (aj c.n1)) (n := 1073741824) (by simp only [vr]; omega)) <| ep (Eq.refl (List.length (List.map Ou.cs (out ++ Prod.snd (aj c.n0))))) <| eg (G.app (List.map Ou.cs (out ++ Prod.snd (aj c.n0) ++ Prod.snd (aj c.n1)))) <| ep (rz 1) <| eg (G.at 1) <| en z3 <| ef <| eq1 (List.length (List.map Ou.cs (out ++ Prod.snd (aj c.n0) ++ Prod.snd (aj c.n1)))) <| e0) (rs := [Res.agg (Cl.cs (Cl.mk (aj c.n0).1 (aj c.n1).1 (aU c.link) false c.w1)), Res.top 5 (List.map Ou.cs (out ++ Prod.snd (aj c.n0) ++ Prod.snd (aj c.n1)))]) (by simp only [ez, ct, aU, List.map_append, List.map_nil, List.append_nil, List.append_assoc, z0, z1, z2, z3, vq] <;> rfl)
        · exact rt (ec (hC k) <| eg (G.un) <| et <| ep (rz 0) <| eg (G.at 0) <| en z0 <| ep (rz 0) <| eg (G.at 0) <| ec (hA k) <| ep (a9 (Ou.cs) (out) (aj c.n0).2) <| ep (ar (Ou.cs) (l := out ++ Prod.snd (aj c.n0)) (n := 1073741824) (by simp only [vr]; omega)) <| ep (Eq.refl (List.length (List.map Ou.cs out))) <| eg (G.app (List.map Ou.cs (out ++ Prod.snd (aj c.n0)))) <| ep (rz 0) <| eg (G.at 0) <| en z1 <| ep (rz 0) <| eg (G.at 0) <| et <| ep (rz 1) <| eg (G.at 1) <| en z2 <| ep (rz 1) <| eg (G.at 1) <| ec (hB k) <| ep (a9 (Ou.cs) (out ++ Prod.snd (aj c.n0)) (aj c.n1).2) <| ep (ar (Ou.cs) (l := out ++ Prod.snd (aj c.n0) ++ Prod.snd (aj c.n1)) (n := 1073741824) (by simp only [vr]; omega)) <| ep (Eq.refl (List.length (List.map Ou.cs (out ++ Prod.snd (aj c.n0))))) <| eg (G.app (List.map Ou.cs (out ++ Prod.snd (aj c.n0) ++ Prod.snd (aj c.n1)))) <| ep (rz 1) <| eg (G.at 1) <| en z3 <| ep (rz 1) <| eg (G.at 1) <| ef <| eq1 (List.length (List.map Ou.cs (out ++ Prod.snd (aj c.n0) ++ Prod.snd (aj c.n1)))) <| e0) (rs := [Res.agg (Cl.cs (Cl.mk (aj c.n0).1 (aj c.n1).1 (aU c.link) false false)), Res.top 5 (List.map Ou.cs (out ++ Prod.snd (aj c.n0) ++ Prod.snd (aj c.n1)))]) (by simp only [ez, ct, aU, List.map_append, List.map_nil, List.append_nil, List.append_assoc, z0, z1, z2, z3, vq] <;> rfl)
      · exact rt (ec (hC k) <| eg (G.un) <| et <| ep (rz 0) <| eg (G.at 0) <| en z0 <| ep (rz 0) <| eg (G.at 0) <| ec (hA k) <| ep (a9 (Ou.cs) (out) (aj c.n0).2) <| ep (ar (Ou.cs) (l := out ++ Prod.snd (aj c.n0)) (n := 1073741824) (by simp only [vr]; omega)) <| ep (Eq.refl (List.length (List.map Ou.cs out))) <| eg (G.app (List.map Ou.cs (out ++ Prod.snd (aj c.n0)))) <| ep (rz 0) <| eg (G.at 0) <| en z1 <| ep (rz 0) <| eg (G.at 0) <| et <| ep (rz 1) <| eg (G.at 1) <| en z2 <| ef <| eq1 (List.length (List.map Ou.cs (out ++ Prod.snd (aj c.n0)))) <| e0) (rs := [Res.agg (Cl.cs (Cl.mk (aj c.n0).1 c.n1 (aU c.link) false c.w1)), Res.top 5 (List.map Ou.cs (out ++ Prod.snd (aj c.n0)))]) (by simp only [ez, ct, aU, List.map_append, List.map_nil, List.append_nil, List.append_assoc, z0, z1, z2, vq] <;> rfl)
  · rcases bft c.n1.up with z1 | z1
    · rcases bft (Nd.up (aj c.n1).1) with z2 | z2
      · exact rt (ec (hC k) <| eg (G.un) <| et <| ep (rz 0) <| eg (G.at 0) <| en z0 <| et <| ep (rz 1) <| eg (G.at 1) <| en z1 <| ep (rz 1) <| eg (G.at 1) <| ec (hB k) <| ep (a9 (Ou.cs) (out) (aj c.n1).2) <| ep (ar (Ou.cs) (l := out ++ Prod.snd (aj c.n1)) (n := 1073741824) (by simp only [vr]; omega)) <| ep (Eq.refl (List.length (List.map Ou.cs out))) <| eg (G.app (List.map Ou.cs (out ++ Prod.snd (aj c.n1)))) <| ep (rz 1) <| eg (G.at 1) <| en z2 <| ef <| eq1 (List.length (List.map Ou.cs (out ++ Prod.snd (aj c.n1)))) <| e0) (rs := [Res.agg (Cl.cs ({ c with n1 := Prod.fst (aj c.n1), link := aU c.link } : Cl)), Res.top 5 (List.map Ou.cs (out ++ Prod.snd (aj c.n1)))]) (by simp only [ez, ct, aU, List.map_append, List.map_nil, List.append_nil, List.append_assoc, z0, z1, z2, vq] <;> rfl)
      · exact rt (ec (hC k) <| eg (G.un) <| et <| ep (rz 0) <| eg (G.at 0) <| en z0 <| et <| ep (rz 1) <| eg (G.at 1) <| en z1 <| ep (rz 1) <| eg (G.at 1) <| ec (hB k) <| ep (a9 (Ou.cs) (out) (aj c.n1).2) <| ep (ar (Ou.cs) (l := out ++ Prod.snd (aj c.n1)) (n := 1073741824) (by simp only [vr]; omega)) <| ep (Eq.refl (List.length (List.map Ou.cs out))) <| eg (G.app (List.map Ou.cs (out ++ Prod.snd (aj c.n1)))) <| ep (rz 1) <| eg (G.at 1) <| en z2 <| ep (rz 1) <| eg (G.at 1) <| ef <| eq1 (List.length (List.map Ou.cs (out ++ Prod.snd (aj c.n1)))) <| e0) (rs := [Res.agg (Cl.cs (Cl.mk c.n0 (aj c.n1).1 (aU c.link) c.w0 false)), Res.top 5 (List.map Ou.cs (out ++ Prod.snd (aj c.n1)))]) (by simp only [ez, ct, aU, List.map_append, List.map_nil, List.append_nil, List.append_assoc, z0, z1, z2, vq] <;> rfl)
    · exact rt (ec (hC k) <| eg (G.un) <| et <| ep (rz 0) <| eg (G.at 0) <| en z0 <| et <| ep (rz 1) <| eg (G.at 1) <| en z1 <| ef <| eq1 (List.length (List.map Ou.cs out)) <| e0) (rs := [Res.agg (Cl.cs ({ c with link := aU c.link } : Cl)), Res.top 5 (List.map Ou.cs out)]) (by simp only [ez, ct, aU, List.map_append, List.map_nil, List.append_nil, List.append_assoc, z0, z1, vq] <;> rfl)
theorem tJ (c : Cl) (out : List Ou) (hlen : out.length ≤ 1000) (hr0 : c.n0.draws.length ≤ 1000000) (hm0 : c.n0.mints.length ≤ 1000000) (hs0 : c.n0.store.disk.sure.length ≤ 1000000) (hc0 : c.n0.store.disk.cache.length ≤ 880) (hr1 : c.n1.draws.length ≤ 1000000) (hm1 : c.n1.mints.length ≤ 1000000) (hs1 : c.n1.store.disk.sure.length ≤ 1000000) (hc1 : c.n1.store.disk.cache.length ≤ 880) (k : Nat) : ag PP GL XX HH NN (k + 11) 36 [.agg c.cs, .top 5 (out.map Ou.cs)] [] = some ([.agg (ez c).1.cs, .top 5 ((out ++ (ez c).2).map Ou.cs)], []) :=
  HN c out hlen (iQ _) (iQ _) (fun k => ry c.link (k + 9)) (fun k => sU c.n0 hr0 hm0 hs0 (by omega) k) (fun k => sU c.n1 hr1 hm1 hs1 (by omega) k) k
end Go.Dm
namespace Go.Dm
open Go
set_option maxHeartbeats 1000000
def Sa0 (n : Nd) (l : List Ou) (c0 : List (List C)) (c1 : Bool) (c2 : Int) (c3 : Cl) : St := St.mk (T.hole :: tc (ii 0) :: T.hole :: tc (C.slice 5 (List.map Ou.cs l)) :: T.k (K.v (V.ptr 0 0)) :: T.hole :: T.k (K.v (V.ptr 1 0)) :: T.hole :: T.k (K.v (V.ptr 2 0)) :: T.hole :: T.k (K.v (V.own 5 c0 (Tk.tok 0))) :: tc (bo c1) :: tc (ii c2) :: hs 78 []) [List.map V.c (Cl.cs c3), (List.map V.c (Nd.cs n)), [V.c (ii 0), V.c (bo false), V.own 1 [] Tk.exact, V.own 2 [] Tk.exact, V.c (ii 0), V.c (bo false), V.c (ii 0), V.c (u 0), V.c (u 0), V.c (u 0), V.c (u 0), V.c (bo false), V.c (bo false), V.c (bo false), V.c (w4 0), V.c (bo false), V.c (ii 0), V.c (u 0), V.c (ii 0), V.c (u 0), V.c (u 0), V.c (u 0), V.c (u 0), V.c (bo false), V.c (bo false), V.c (bo false), V.c (bo false), V.c (w4 0), V.c (bo false), V.c (bo false), V.c (ii 0), V.c (ii 0), V.c (st ⟨#[]⟩), V.c (bo false), V.c (ii 0), V.c (ii 0), V.c (bo false), V.own 1 [] Tk.exact, V.own 3 [] Tk.exact, V.c (ii 0), V.c (bo false), V.own 1 [] Tk.exact, V.own 2 [] Tk.exact, V.c (ii 0), V.c (bo false), V.c (ii 0), V.c (u 0), V.c (u 0), V.c (u 0), V.c (u 0), V.c (bo false), V.c (bo false), V.c (bo false), V.c (w4 0), V.c (bo false), V.c (ii 0), V.c (u 0), V.c (ii 0), V.c (u 0), V.c (u 0), V.c (u 0), V.c (u 0), V.c (bo false), V.c (bo false), V.c (bo false), V.c (bo false), V.c (w4 0), V.c (bo false), V.c (bo false), V.c (ii 0), V.c (ii 0), V.c (st ⟨#[]⟩), V.c (bo false), V.c (ii 0), V.c (ii 0), V.c (bo false), V.own 1 [] Tk.exact, V.own 3 [] Tk.exact, V.c (bo false), V.c (u 0), V.own 1 [] Tk.exact, V.own 1 [] Tk.exact, V.c (bo false), V.c (bo false)]] [c0.length]
theorem EY (n : Nd) (l : List Ou) (out : List Ou) (q : Bool) (i : Nat) (c : Cl) (x : Ou) (hx : l[i]? = some x) (h0 : c.link.to0.length + 1 ≤ 1000000) (h1 : c.link.to1.length + 1 ≤ 1000000) (k : Nat) (z0 : (decide ((↑i : Int) < (↑(l.length) : Int))) = true) (z1 : (Ou.kind x == 1) = true) (z2 : c.link.up = true) : ax (EE (k + 11)) (HH 44) NN (LB PP 44 5) 3 1 (Sa0 n l (List.map Ou.cs out) q (↑i : Int) c) (Sa0 n l (List.map Ou.cs out) q (IntKind.wrap .i64 ((↑i : Int) + 1)) ({ c with link := Prod.fst (dd c.link 1 [Ou.data x]) } : Cl)) :=
  nx (ep (af (Ou.cs) (l)) <| eg (G.len (l.length)) <| eb z0 <| ep (rz i) <| ep (ao (f := Ou.cs) hx) <| eg (G.idx i [ii x.kind, ii x.node, ii x.id, ii x.err, st x.data]) <| eb z1 <| eb z2 <| ep (rz i) <| ep (ao (f := Ou.cs) hx) <| eg (G.idx i [ii x.kind, ii x.node, ii x.id, ii x.err, st x.data]) <| ec (Aa c.link 1 x.data h0 h1 (k + 10)) <| e0)
theorem Fc (n : Nd) (l : List Ou) (out : List Ou) (q : Bool) (i : Nat) (c : Cl) (x : Ou) (hx : l[i]? = some x) (k : Nat) (z0 : (decide ((↑i : Int) < (↑(l.length) : Int))) = true) (z1 : (Ou.kind x == 1) = true) (z2 : c.link.up = false) : ax (EE (k + 11)) (HH 44) NN (LB PP 44 5) 3 1 (Sa0 n l (List.map Ou.cs out) q (↑i : Int) c) (Sa0 n l (List.map Ou.cs out) q (IntKind.wrap .i64 ((↑i : Int) + 1)) c) :=
  nx (ep (af (Ou.cs) (l)) <| eg (G.len (l.length)) <| eb z0 <| ep (rz i) <| ep (ao (f := Ou.cs) hx) <| eg (G.idx i [ii x.kind, ii x.node, ii x.id, ii x.err, st x.data]) <| eb z1 <| eb z2 <| e0)
theorem FD (n : Nd) (l : List Ou) (out : List Ou) (q : Bool) (i : Nat) (c : Cl) (x : Ou) (hx : l[i]? = some x) (h0 : c.link.to0.length + 1 ≤ 1000000) (h1 : c.link.to1.length + 1 ≤ 1000000) (ho : out.length ≤ 1000000) (k : Nat) (z0 : (decide ((↑i : Int) < (↑(l.length) : Int))) = true) (z1 : (Ou.kind x == 1) = false) (z2 : (q) = true) : ax (EE (k + 11)) (HH 44) NN (LB PP 44 5) 3 1 (Sa0 n l (List.map Ou.cs out) q (↑i : Int) c) (Sa0 n l (List.map Ou.cs (out ++ [x])) true (IntKind.wrap .i64 ((↑i : Int) + 1)) c) :=
  nx (ep (af (Ou.cs) (l)) <| eg (G.len (l.length)) <| eb z0 <| ep (rz i) <| ep (ao (f := Ou.cs) hx) <| eg (G.idx i [ii x.kind, ii x.node, ii x.id, ii x.err, st x.data]) <| eb z1 <| eb7 z2 <| ep (rz i) <| ep (ao (f := Ou.cs) hx) <| eg (G.idx i [ii x.kind, ii x.node, ii x.id, ii x.err, st x.data]) <| ep (a9 (Ou.cs) (out) ([x])) <| ep (ar (Ou.cs) (l := out ++ [x]) (n := 1073741824) (by simp only [vr]; omega)) <| ep (Eq.refl (List.length (List.map Ou.cs out))) <| eg (G.app (List.map Ou.cs (out ++ [x]))) <| e0)
theorem GW (n : Nd) (l : List Ou) (out : List Ou) (q : Bool) (i : Nat) (c : Cl) (x : Ou) (hx : l[i]? = some x) (h0 : c.link.to0.length + 1 ≤ 1000000) (h1 : c.link.to1.length + 1 ≤ 1000000) (ho : out.length ≤ 1000000) (k : Nat) (z0 : (decide ((↑i : Int) < (↑(l.length) : Int))) = true) (z1 : (Ou.kind x == 1) = false) (z2 : (q) = false) : ax (EE (k + 11)) (HH 44) NN (LB PP 44 5) 3 1 (Sa0 n l (List.map Ou.cs out) q (↑i : Int) c) (Sa0 n l (List.map Ou.cs (out ++ [x])) (Ou.kind x == 3) (IntKind.wrap .i64 ((↑i : Int) + 1)) c) :=
  nx (ep (af (Ou.cs) (l)) <| eg (G.len (l.length)) <| eb z0 <| ep (rz i) <| ep (ao (f := Ou.cs) hx) <| eg (G.idx i [ii x.kind, ii x.node, ii x.id, ii x.err, st x.data]) <| eb z1 <| eb3 z2 <| ep (rz i) <| ep (ao (f := Ou.cs) hx) <| eg (G.idx i [ii x.kind, ii x.node, ii x.id, ii x.err, st x.data]) <| eb4 z2 <| ep (rz i) <| ep (ao (f := Ou.cs) hx) <| eg (G.idx i [ii x.kind, ii x.node, ii x.id, ii x.err, st x.data]) <| ep (a9 (Ou.cs) (out) ([x])) <| ep (ar (Ou.cs) (l := out ++ [x]) (n := 1073741824) (by simp only [vr]; omega)) <| ep (Eq.refl (List.length (List.map Ou.cs out))) <| eg (G.app (List.map Ou.cs (out ++ [x]))) <| e0)
def gU (n : Nd) (l : List Ou) (out : List Ou) (q : Bool) (i : Nat) (c : Cl) : St := St.mk (T.hole :: tc (ii 0) :: T.hole :: tc (C.slice 5 (List.map Ou.cs l)) :: T.k (K.v (V.ptr 0 0)) :: T.hole :: T.k (K.v (V.ptr 1 0)) :: T.hole :: T.k (K.v (V.ptr 2 0)) :: T.hole :: T.k (K.v (V.own 5 (List.map Ou.cs out) (Tk.tok 0))) :: tc (bo q) :: tc (ii (↑i : Int)) :: hs 4 (tc (ii (↑i : Int)) :: tc (C.slice 5 (List.map Ou.cs l)) :: tc (ii (↑(l.length) : Int)) :: tc (bo (decide ((↑i : Int) < (↑(l.length) : Int)))) :: hs 70 [])) [List.map V.c (Cl.cs c), (List.map V.c (Nd.cs n)), [V.c (ii 0), V.c (bo false), V.own 1 [] Tk.exact, V.own 2 [] Tk.exact, V.c (ii 0), V.c (bo false), V.c (ii 0), V.c (u 0), V.c (u 0), V.c (u 0), V.c (u 0), V.c (bo false), V.c (bo false), V.c (bo false), V.c (w4 0), V.c (bo false), V.c (ii 0), V.c (u 0), V.c (ii 0), V.c (u 0), V.c (u 0), V.c (u 0), V.c (u 0), V.c (bo false), V.c (bo false), V.c (bo false), V.c (bo false), V.c (w4 0), V.c (bo false), V.c (bo false), V.c (ii 0), V.c (ii 0), V.c (st ⟨#[]⟩), V.c (bo false), V.c (ii 0), V.c (ii 0), V.c (bo false), V.own 1 [] Tk.exact, V.own 3 [] Tk.exact, V.c (ii 0), V.c (bo false), V.own 1 [] Tk.exact, V.own 2 [] Tk.exact, V.c (ii 0), V.c (bo false), V.c (ii 0), V.c (u 0), V.c (u 0), V.c (u 0), V.c (u 0), V.c (bo false), V.c (bo false), V.c (bo false), V.c (w4 0), V.c (bo false), V.c (ii 0), V.c (u 0), V.c (ii 0), V.c (u 0), V.c (u 0), V.c (u 0), V.c (u 0), V.c (bo false), V.c (bo false), V.c (bo false), V.c (bo false), V.c (w4 0), V.c (bo false), V.c (bo false), V.c (ii 0), V.c (ii 0), V.c (st ⟨#[]⟩), V.c (bo false), V.c (ii 0), V.c (ii 0), V.c (bo false), V.own 1 [] Tk.exact, V.own 3 [] Tk.exact, V.c (bo false), V.c (u 0), V.own 1 [] Tk.exact, V.own 1 [] Tk.exact, V.c (bo false), V.c (bo false)]] [List.length (List.map Ou.cs out)]
theorem E4 (n : Nd) (l : List Ou) (out : List Ou) (q : Bool) (i : Nat) (c : Cl) (k : Nat) (z0 : (decide ((↑i : Int) < (↑(l.length) : Int))) = false) : bj (EE (k + 11)) (HH 44) NN (LB PP 44 5) (Sa0 n l (List.map Ou.cs out) q (↑i : Int) c) (Ext.exit 0) (gU n l out q i c) :=
  ou (ep (af (Ou.cs) (l)) <| eg (G.len (l.length)) <| eb z0 <| e0)
theorem La0 (c : Cl) (n : Nd) (l : List Ou) (hl : l.length ≤ 1000) (h0 : c.link.to0.length ≤ 900000) (h1 : c.link.to1.length ≤ 900000) (k : Nat) : aA (EE (k + 11)) (HH 44) NN (LB PP 44 5) (Sa0 n l [] false 0 (aW c 0 n)) (.exit 0) (gU n l (bi l) (cP l) l.length { aW c 0 n with link := cT 0 c.link l }) := by
  have key := cq (E := EE (k + 11)) (H := HH 44) (n := NN) (b := LB PP 44 5) (s0 := Sa0 n l [] false 0 (aW c 0 n)) (fun (s : Cl × List Ou × Bool) (i : Nat) => Sa0 n l (s.2.1.map Ou.cs) s.2.2 (i : Nat) s.1) (fun i s => s.2.1.length ≤ i ∧ s.1.link.to0.length ≤ c.link.to0.length + i ∧ s.1.link.to1.length ≤ c.link.to1.length + i) l (oe 1) (aW c 0 n, [], false) (nv := 3) (nt := 1) (e := .exit 0) (t := fun s => gU n l s.2.1 s.2.2 l.length s.1) rfl (by kernel_rfl) (by kernel_rfl) ⟨Nat.le_refl _, by rw [dc]; exact Nat.le_refl _, by rw [dc]; exact Nat.le_refl _⟩ (fun s i x hx hp => ?_) (fun hp => E4 n l _ _ _ _ k dge) (by unfold NN; omega)
  · rw [vK 0 1 (by decide), dc] at key
    simpa only [List.nil_append, Bool.false_or] using key
  · obtain ⟨c1, out, q⟩ := s
    obtain ⟨p1, p2, p3⟩ := hp
    simp only at p1 p2 p3
    have hlt := bO hx
    have hw := mq hx (by omega)
    cases hk : x.kind == 1 with
    | true =>
      cases hu : c1.link.up with
      | true =>
        rw [jJ 1 c1 out q x hk hu]
        refine ⟨?_, by simp only; omega, ?_, ?_⟩
        · have := EY n l out q i c1 x hx (by omega) (by omega) k (dlt hx) hk hu
          rwa [hw] at this
        · have := (iU c1.link 1 [x.data]).1
          simp only [List.length_cons, List.length_nil] at this
          simp only; omega
        · have := (iU c1.link 1 [x.data]).2
          simp only [List.length_cons, List.length_nil] at this
          simp only; omega
      | false =>
        rw [jD 1 c1 out q x hk hu]
        refine ⟨?_, by simp only; omega, by simp only; omega, by simp only; omega⟩
        have := Fc n l out q i c1 x hx k (dlt hx) hk hu
        rwa [hw] at this
    | false =>
      rw [jt 1 c1 out q x hk]
      refine ⟨?_, by simp only [List.length_append, List.length_cons, List.length_nil]; omega, by simp only; omega, by simp only; omega⟩
      cases q with
      | true =>
        have := FD n l out true i c1 x hx (by omega) (by omega) (by omega) k (dlt hx) hk rfl
        rwa [hw] at this
      | false =>
        have := GW n l out false i c1 x hx (by omega) (by omega) (by omega) k (dlt hx) hk rfl
        rw [hw] at this
        simpa only [Bool.false_or] using this
theorem BU (c : Cl) (n : Nd) (l : List Ou) (c3 : Cl) (out : List Ou) (q : Bool) (ho : out.length ≤ 1000) (hr0 : c3.n0.draws.length ≤ 1000000) (hm0 : c3.n0.mints.length ≤ 1000000) (hs0 : c3.n0.store.disk.sure.length ≤ 1000000) (hc0 : c3.n0.store.disk.cache.length ≤ 880) (hr1 : c3.n1.draws.length ≤ 1000000) (hm1 : c3.n1.mints.length ≤ 1000000) (hs1 : c3.n1.store.disk.sure.length ≤ 1000000) (hc1 : c3.n1.store.disk.cache.length ≤ 880) (hL : ∀ k, aA (EE (k + 11)) (HH 44) NN (LB PP 44 5) (Sa0 n l [] false 0 (aW c 0 n)) (Ext.exit 0) (gU n l out q (l.length) c3)) (k : Nat) : ag PP GL XX HH NN (k + 12) 44 [A.agg (Cl.cs c), A.c (ii 0), A.agg (Nd.cs n), A.c (C.slice 5 (List.map Ou.cs l))] [] = some ([Res.agg (Cl.cs (dB 0 c3 n out q).1), Res.top 5 (List.map Ou.cs (dB 0 c3 n out q).2)], []) := by
  rcases bft n.up with z0 | z0
  · rcases bft c3.link.up with z1 | z1
    · rcases bft (q) with z2 | z2
      · exact rt (ep (rz 0) <| eg (G.at 0) <| eg (G.loop (Ext.exit 0) (gU n l out q (l.length) c3)) <| ep (hL k) <| en z0 <| en3 z1 <| eb2 z0 <| en z1 <| eb z0 <| en z1 <| en z2 <| eb z2 <| eq1 (List.length (List.map Ou.cs out)) <| ec (tJ (({ c3 with w0 := false, w1 := false } : Cl)) out ho hr0 hm0 hs0 hc0 hr1 hm1 hs1 hc1 k) <| eq1 (List.length (List.map Ou.cs (out ++ Prod.snd (ez ({ c3 with w0 := false, w1 := false } : Cl))))) <| e0) (by simp only [dB, aB, z0, z1, z2, vq] <;> rfl)
      · exact rt (ep (rz 0) <| eg (G.at 0) <| eg (G.loop (Ext.exit 0) (gU n l out q (l.length) c3)) <| ep (hL k) <| en z0 <| en3 z1 <| eb2 z0 <| en z1 <| eb z0 <| en z1 <| en z2 <| eq1 (List.length (List.map Ou.cs out)) <| e0) (by simp only [dB, aB, z0, z1, z2, vq] <;> rfl)
    · exact rt (ep (rz 0) <| eg (G.at 0) <| eg (G.loop (Ext.exit 0) (gU n l out q (l.length) c3)) <| ep (hL k) <| en z0 <| en5 z1 <| et <| eq1 (List.length (List.map Ou.cs out)) <| e0) (by simp only [dB, aB, z0, z1, vq] <;> rfl)
  · rcases bft c3.link.up with z1 | z1
    · rcases bft (q) with z2 | z2
      · exact rt (ep (rz 0) <| eg (G.at 0) <| eg (G.loop (Ext.exit 0) (gU n l out q (l.length) c3)) <| ep (hL k) <| en z0 <| ep (rz 0) <| eg (G.at 0) <| en3 z1 <| eb2 z0 <| en z1 <| eb z0 <| en z1 <| ef <| eb z2 <| eq1 (List.length (List.map Ou.cs out)) <| ec (tJ (({ c3 with w0 := false, w1 := false } : Cl)) out ho hr0 hm0 hs0 hc0 hr1 hm1 hs1 hc1 k) <| eq1 (List.length (List.map Ou.cs (out ++ Prod.snd (ez ({ c3 with w0 := false, w1 := false } : Cl))))) <| e0) (by simp only [dB, aB, z0, z1, z2, vq] <;> rfl)
      · exact rt (ep (rz 0) <| eg (G.at 0) <| eg (G.loop (Ext.exit 0) (gU n l out q (l.length) c3)) <| ep (hL k) <| en z0 <| ep (rz 0) <| eg (G.at 0) <| en3 z1 <| eb2 z0 <| en z1 <| eb z0 <| en z1 <| ef <| eb z2 <| eq1 (List.length (List.map Ou.cs out)) <| ec (tJ (({ c3 with w0 := false } : Cl)) out ho hr0 hm0 hs0 hc0 hr1 hm1 hs1 hc1 k) <| eq1 (List.length (List.map Ou.cs (out ++ Prod.snd (ez ({ c3 with w0 := false } : Cl))))) <| e0) (by simp only [dB, aB, z0, z1, z2, vq] <;> rfl)
    · exact rt (ep (rz 0) <| eg (G.at 0) <| eg (G.loop (Ext.exit 0) (gU n l out q (l.length) c3)) <| ep (hL k) <| en z0 <| ep (rz 0) <| eg (G.at 0) <| en5 z1 <| et <| eq1 (List.length (List.map Ou.cs out)) <| e0) (by simp only [dB, aB, z0, z1, vq] <;> rfl)
def Sa1 (n : Nd) (l : List Ou) (c0 : List (List C)) (c1 : Bool) (c2 : Int) (c3 : Cl) : St := St.mk (T.hole :: tc (ii 1) :: T.hole :: tc (C.slice 5 (List.map Ou.cs l)) :: T.k (K.v (V.ptr 0 0)) :: T.hole :: T.k (K.v (V.ptr 1 0)) :: T.hole :: T.k (K.v (V.ptr 2 0)) :: T.hole :: T.k (K.v (V.own 5 c0 (Tk.tok 0))) :: tc (bo c1) :: tc (ii c2) :: hs 78 []) [List.map V.c (Cl.cs c3), (List.map V.c (Nd.cs n)), [V.c (ii 0), V.c (bo false), V.own 1 [] Tk.exact, V.own 2 [] Tk.exact, V.c (ii 0), V.c (bo false), V.c (ii 0), V.c (u 0), V.c (u 0), V.c (u 0), V.c (u 0), V.c (bo false), V.c (bo false), V.c (bo false), V.c (w4 0), V.c (bo false), V.c (ii 0), V.c (u 0), V.c (ii 0), V.c (u 0), V.c (u 0), V.c (u 0), V.c (u 0), V.c (bo false), V.c (bo false), V.c (bo false), V.c (bo false), V.c (w4 0), V.c (bo false), V.c (bo false), V.c (ii 0), V.c (ii 0), V.c (st ⟨#[]⟩), V.c (bo false), V.c (ii 0), V.c (ii 0), V.c (bo false), V.own 1 [] Tk.exact, V.own 3 [] Tk.exact, V.c (ii 0), V.c (bo false), V.own 1 [] Tk.exact, V.own 2 [] Tk.exact, V.c (ii 0), V.c (bo false), V.c (ii 0), V.c (u 0), V.c (u 0), V.c (u 0), V.c (u 0), V.c (bo false), V.c (bo false), V.c (bo false), V.c (w4 0), V.c (bo false), V.c (ii 0), V.c (u 0), V.c (ii 0), V.c (u 0), V.c (u 0), V.c (u 0), V.c (u 0), V.c (bo false), V.c (bo false), V.c (bo false), V.c (bo false), V.c (w4 0), V.c (bo false), V.c (bo false), V.c (ii 0), V.c (ii 0), V.c (st ⟨#[]⟩), V.c (bo false), V.c (ii 0), V.c (ii 0), V.c (bo false), V.own 1 [] Tk.exact, V.own 3 [] Tk.exact, V.c (bo false), V.c (u 0), V.own 1 [] Tk.exact, V.own 1 [] Tk.exact, V.c (bo false), V.c (bo false)]] [c0.length]
theorem FK (n : Nd) (l : List Ou) (out : List Ou) (q : Bool) (i : Nat) (c : Cl) (x : Ou) (hx : l[i]? = some x) (h0 : c.link.to0.length + 1 ≤ 1000000) (h1 : c.link.to1.length + 1 ≤ 1000000) (k : Nat) (z0 : (decide ((↑i : Int) < (↑(l.length) : Int))) = true) (z1 : (Ou.kind x == 1) = true) (z2 : c.link.up = true) : ax (EE (k + 11)) (HH 44) NN (LB PP 44 5) 3 1 (Sa1 n l (List.map Ou.cs out) q (↑i : Int) c) (Sa1 n l (List.map Ou.cs out) q (IntKind.wrap .i64 ((↑i : Int) + 1)) ({ c with link := Prod.fst (dd c.link 0 [Ou.data x]) } : Cl)) :=
  nx (ep (af (Ou.cs) (l)) <| eg (G.len (l.length)) <| eb z0 <| ep (rz i) <| ep (ao (f := Ou.cs) hx) <| eg (G.idx i [ii x.kind, ii x.node, ii x.id, ii x.err, st x.data]) <| eb z1 <| eb z2 <| ep (rz i) <| ep (ao (f := Ou.cs) hx) <| eg (G.idx i [ii x.kind, ii x.node, ii x.id, ii x.err, st x.data]) <| ec (Aa c.link 0 x.data h0 h1 (k + 10)) <| e0)
theorem Ga (n : Nd) (l : List Ou) (out : List Ou) (q : Bool) (i : Nat) (c : Cl) (x : Ou) (hx : l[i]? = some x) (k : Nat) (z0 : (decide ((↑i : Int) < (↑(l.length) : Int))) = true) (z1 : (Ou.kind x == 1) = true) (z2 : c.link.up = false) : ax (EE (k + 11)) (HH 44) NN (LB PP 44 5) 3 1 (Sa1 n l (List.map Ou.cs out) q (↑i : Int) c) (Sa1 n l (List.map Ou.cs out) q (IntKind.wrap .i64 ((↑i : Int) + 1)) c) :=
  nx (ep (af (Ou.cs) (l)) <| eg (G.len (l.length)) <| eb z0 <| ep (rz i) <| ep (ao (f := Ou.cs) hx) <| eg (G.idx i [ii x.kind, ii x.node, ii x.id, ii x.err, st x.data]) <| eb z1 <| eb z2 <| e0)
theorem FB (n : Nd) (l : List Ou) (out : List Ou) (q : Bool) (i : Nat) (c : Cl) (x : Ou) (hx : l[i]? = some x) (h0 : c.link.to0.length + 1 ≤ 1000000) (h1 : c.link.to1.length + 1 ≤ 1000000) (ho : out.length ≤ 1000000) (k : Nat) (z0 : (decide ((↑i : Int) < (↑(l.length) : Int))) = true) (z1 : (Ou.kind x == 1) = false) (z2 : (q) = true) : ax (EE (k + 11)) (HH 44) NN (LB PP 44 5) 3 1 (Sa1 n l (List.map Ou.cs out) q (↑i : Int) c) (Sa1 n l (List.map Ou.cs (out ++ [x])) true (IntKind.wrap .i64 ((↑i : Int) + 1)) c) :=
  nx (ep (af (Ou.cs) (l)) <| eg (G.len (l.length)) <| eb z0 <| ep (rz i) <| ep (ao (f := Ou.cs) hx) <| eg (G.idx i [ii x.kind, ii x.node, ii x.id, ii x.err, st x.data]) <| eb z1 <| eb7 z2 <| ep (rz i) <| ep (ao (f := Ou.cs) hx) <| eg (G.idx i [ii x.kind, ii x.node, ii x.id, ii x.err, st x.data]) <| ep (a9 (Ou.cs) (out) ([x])) <| ep (ar (Ou.cs) (l := out ++ [x]) (n := 1073741824) (by simp only [vr]; omega)) <| ep (Eq.refl (List.length (List.map Ou.cs out))) <| eg (G.app (List.map Ou.cs (out ++ [x]))) <| e0)
theorem FJ (n : Nd) (l : List Ou) (out : List Ou) (q : Bool) (i : Nat) (c : Cl) (x : Ou) (hx : l[i]? = some x) (h0 : c.link.to0.length + 1 ≤ 1000000) (h1 : c.link.to1.length + 1 ≤ 1000000) (ho : out.length ≤ 1000000) (k : Nat) (z0 : (decide ((↑i : Int) < (↑(l.length) : Int))) = true) (z1 : (Ou.kind x == 1) = false) (z2 : (q) = false) : ax (EE (k + 11)) (HH 44) NN (LB PP 44 5) 3 1 (Sa1 n l (List.map Ou.cs out) q (↑i : Int) c) (Sa1 n l (List.map Ou.cs (out ++ [x])) (Ou.kind x == 3) (IntKind.wrap .i64 ((↑i : Int) + 1)) c) :=
  nx (ep (af (Ou.cs) (l)) <| eg (G.len (l.length)) <| eb z0 <| ep (rz i) <| ep (ao (f := Ou.cs) hx) <| eg (G.idx i [ii x.kind, ii x.node, ii x.id, ii x.err, st x.data]) <| eb z1 <| eb3 z2 <| ep (rz i) <| ep (ao (f := Ou.cs) hx) <| eg (G.idx i [ii x.kind, ii x.node, ii x.id, ii x.err, st x.data]) <| eb4 z2 <| ep (rz i) <| ep (ao (f := Ou.cs) hx) <| eg (G.idx i [ii x.kind, ii x.node, ii x.id, ii x.err, st x.data]) <| ep (a9 (Ou.cs) (out) ([x])) <| ep (ar (Ou.cs) (l := out ++ [x]) (n := 1073741824) (by simp only [vr]; omega)) <| ep (Eq.refl (List.length (List.map Ou.cs out))) <| eg (G.app (List.map Ou.cs (out ++ [x]))) <| e0)
def g8 (n : Nd) (l : List Ou) (out : List Ou) (q : Bool) (i : Nat) (c : Cl) : St := St.mk (T.hole :: tc (ii 1) :: T.hole :: tc (C.slice 5 (List.map Ou.cs l)) :: T.k (K.v (V.ptr 0 0)) :: T.hole :: T.k (K.v (V.ptr 1 0)) :: T.hole :: T.k (K.v (V.ptr 2 0)) :: T.hole :: T.k (K.v (V.own 5 (List.map Ou.cs out) (Tk.tok 0))) :: tc (bo q) :: tc (ii (↑i : Int)) :: hs 4 (tc (ii (↑i : Int)) :: tc (C.slice 5 (List.map Ou.cs l)) :: tc (ii (↑(l.length) : Int)) :: tc (bo (decide ((↑i : Int) < (↑(l.length) : Int)))) :: hs 70 [])) [List.map V.c (Cl.cs c), (List.map V.c (Nd.cs n)), [V.c (ii 0), V.c (bo false), V.own 1 [] Tk.exact, V.own 2 [] Tk.exact, V.c (ii 0), V.c (bo false), V.c (ii 0), V.c (u 0), V.c (u 0), V.c (u 0), V.c (u 0), V.c (bo false), V.c (bo false), V.c (bo false), V.c (w4 0), V.c (bo false), V.c (ii 0), V.c (u 0), V.c (ii 0), V.c (u 0), V.c (u 0), V.c (u 0), V.c (u 0), V.c (bo false), V.c (bo false), V.c (bo false), V.c (bo false), V.c (w4 0), V.c (bo false), V.c (bo false), V.c (ii 0), V.c (ii 0), V.c (st ⟨#[]⟩), V.c (bo false), V.c (ii 0), V.c (ii 0), V.c (bo false), V.own 1 [] Tk.exact, V.own 3 [] Tk.exact, V.c (ii 0), V.c (bo false), V.own 1 [] Tk.exact, V.own 2 [] Tk.exact, V.c (ii 0), V.c (bo false), V.c (ii 0), V.c (u 0), V.c (u 0), V.c (u 0), V.c (u 0), V.c (bo false), V.c (bo false), V.c (bo false), V.c (w4 0), V.c (bo false), V.c (ii 0), V.c (u 0), V.c (ii 0), V.c (u 0), V.c (u 0), V.c (u 0), V.c (u 0), V.c (bo false), V.c (bo false), V.c (bo false), V.c (bo false), V.c (w4 0), V.c (bo false), V.c (bo false), V.c (ii 0), V.c (ii 0), V.c (st ⟨#[]⟩), V.c (bo false), V.c (ii 0), V.c (ii 0), V.c (bo false), V.own 1 [] Tk.exact, V.own 3 [] Tk.exact, V.c (bo false), V.c (u 0), V.own 1 [] Tk.exact, V.own 1 [] Tk.exact, V.c (bo false), V.c (bo false)]] [List.length (List.map Ou.cs out)]
theorem FS (n : Nd) (l : List Ou) (out : List Ou) (q : Bool) (i : Nat) (c : Cl) (k : Nat) (z0 : (decide ((↑i : Int) < (↑(l.length) : Int))) = false) : bj (EE (k + 11)) (HH 44) NN (LB PP 44 5) (Sa1 n l (List.map Ou.cs out) q (↑i : Int) c) (Ext.exit 0) (g8 n l out q i c) :=
  ou (ep (af (Ou.cs) (l)) <| eg (G.len (l.length)) <| eb z0 <| e0)
theorem La1 (c : Cl) (n : Nd) (l : List Ou) (hl : l.length ≤ 1000) (h0 : c.link.to0.length ≤ 900000) (h1 : c.link.to1.length ≤ 900000) (k : Nat) : aA (EE (k + 11)) (HH 44) NN (LB PP 44 5) (Sa1 n l [] false 0 (aW c 1 n)) (.exit 0) (g8 n l (bi l) (cP l) l.length { aW c 1 n with link := cT 1 c.link l }) := by
  have key := cq (E := EE (k + 11)) (H := HH 44) (n := NN) (b := LB PP 44 5) (s0 := Sa1 n l [] false 0 (aW c 1 n)) (fun (s : Cl × List Ou × Bool) (i : Nat) => Sa1 n l (s.2.1.map Ou.cs) s.2.2 (i : Nat) s.1) (fun i s => s.2.1.length ≤ i ∧ s.1.link.to0.length ≤ c.link.to0.length + i ∧ s.1.link.to1.length ≤ c.link.to1.length + i) l (oe 0) (aW c 1 n, [], false) (nv := 3) (nt := 1) (e := .exit 0) (t := fun s => g8 n l s.2.1 s.2.2 l.length s.1) rfl (by kernel_rfl) (by kernel_rfl) ⟨Nat.le_refl _, by rw [dc]; exact Nat.le_refl _, by rw [dc]; exact Nat.le_refl _⟩ (fun s i x hx hp => ?_) (fun hp => FS n l _ _ _ _ k dge) (by unfold NN; omega)
  · rw [vK 1 0 (by decide), dc] at key
    simpa only [List.nil_append, Bool.false_or] using key
  · obtain ⟨c1, out, q⟩ := s
    obtain ⟨p1, p2, p3⟩ := hp
    simp only at p1 p2 p3
    have hlt := bO hx
    have hw := mq hx (by omega)
    cases hk : x.kind == 1 with
    | true =>
      cases hu : c1.link.up with
      | true =>
        rw [jJ 0 c1 out q x hk hu]
        refine ⟨?_, by simp only; omega, ?_, ?_⟩
        · have := FK n l out q i c1 x hx (by omega) (by omega) k (dlt hx) hk hu
          rwa [hw] at this
        · have := (iU c1.link 0 [x.data]).1
          simp only [List.length_cons, List.length_nil] at this
          simp only; omega
        · have := (iU c1.link 0 [x.data]).2
          simp only [List.length_cons, List.length_nil] at this
          simp only; omega
      | false =>
        rw [jD 0 c1 out q x hk hu]
        refine ⟨?_, by simp only; omega, by simp only; omega, by simp only; omega⟩
        have := Ga n l out q i c1 x hx k (dlt hx) hk hu
        rwa [hw] at this
    | false =>
      rw [jt 0 c1 out q x hk]
      refine ⟨?_, by simp only [List.length_append, List.length_cons, List.length_nil]; omega, by simp only; omega, by simp only; omega⟩
      cases q with
      | true =>
        have := FB n l out true i c1 x hx (by omega) (by omega) (by omega) k (dlt hx) hk rfl
        rwa [hw] at this
      | false =>
        have := FJ n l out false i c1 x hx (by omega) (by omega) (by omega) k (dlt hx) hk rfl
        rw [hw] at this
        simpa only [Bool.false_or] using this
theorem Cf (c : Cl) (n : Nd) (l : List Ou) (c3 : Cl) (out : List Ou) (q : Bool) (ho : out.length ≤ 1000) (hr0 : c3.n0.draws.length ≤ 1000000) (hm0 : c3.n0.mints.length ≤ 1000000) (hs0 : c3.n0.store.disk.sure.length ≤ 1000000) (hc0 : c3.n0.store.disk.cache.length ≤ 880) (hr1 : c3.n1.draws.length ≤ 1000000) (hm1 : c3.n1.mints.length ≤ 1000000) (hs1 : c3.n1.store.disk.sure.length ≤ 1000000) (hc1 : c3.n1.store.disk.cache.length ≤ 880) (hL : ∀ k, aA (EE (k + 11)) (HH 44) NN (LB PP 44 5) (Sa1 n l [] false 0 (aW c 1 n)) (Ext.exit 0) (g8 n l out q (l.length) c3)) (k : Nat) : ag PP GL XX HH NN (k + 12) 44 [A.agg (Cl.cs c), A.c (ii 1), A.agg (Nd.cs n), A.c (C.slice 5 (List.map Ou.cs l))] [] = some ([Res.agg (Cl.cs (dB 1 c3 n out q).1), Res.top 5 (List.map Ou.cs (dB 1 c3 n out q).2)], []) := by
  rcases bft n.up with z0 | z0
  · rcases bft c3.link.up with z1 | z1
    · rcases bft (q) with z2 | z2
      · exact rt (ep (rz 1) <| eg (G.at 1) <| eg (G.loop (Ext.exit 0) (g8 n l out q (l.length) c3)) <| ep (hL k) <| en z0 <| en3 z1 <| eb2 z0 <| en z1 <| eb z0 <| en z1 <| en z2 <| eb z2 <| eq1 (List.length (List.map Ou.cs out)) <| ec (tJ (({ c3 with w0 := false, w1 := false } : Cl)) out ho hr0 hm0 hs0 hc0 hr1 hm1 hs1 hc1 k) <| eq1 (List.length (List.map Ou.cs (out ++ Prod.snd (ez ({ c3 with w0 := false, w1 := false } : Cl))))) <| e0) (by simp only [dB, aB, z0, z1, z2, vq] <;> rfl)
      · exact rt (ep (rz 1) <| eg (G.at 1) <| eg (G.loop (Ext.exit 0) (g8 n l out q (l.length) c3)) <| ep (hL k) <| en z0 <| en3 z1 <| eb2 z0 <| en z1 <| eb z0 <| en z1 <| en z2 <| eq1 (List.length (List.map Ou.cs out)) <| e0) (by simp only [dB, aB, z0, z1, z2, vq] <;> rfl)
    · exact rt (ep (rz 1) <| eg (G.at 1) <| eg (G.loop (Ext.exit 0) (g8 n l out q (l.length) c3)) <| ep (hL k) <| en z0 <| en5 z1 <| et <| eq1 (List.length (List.map Ou.cs out)) <| e0) (by simp only [dB, aB, z0, z1, vq] <;> rfl)
  · rcases bft c3.link.up with z1 | z1
    · rcases bft (q) with z2 | z2
      · exact rt (ep (rz 1) <| eg (G.at 1) <| eg (G.loop (Ext.exit 0) (g8 n l out q (l.length) c3)) <| ep (hL k) <| en z0 <| ep (rz 1) <| eg (G.at 1) <| en3 z1 <| eb2 z0 <| en z1 <| eb z0 <| en z1 <| ef <| eb z2 <| eq1 (List.length (List.map Ou.cs out)) <| ec (tJ (({ c3 with w0 := false, w1 := false } : Cl)) out ho hr0 hm0 hs0 hc0 hr1 hm1 hs1 hc1 k) <| eq1 (List.length (List.map Ou.cs (out ++ Prod.snd (ez ({ c3 with w0 := false, w1 := false } : Cl))))) <| e0) (by simp only [dB, aB, z0, z1, z2, vq] <;> rfl)
      · exact rt (ep (rz 1) <| eg (G.at 1) <| eg (G.loop (Ext.exit 0) (g8 n l out q (l.length) c3)) <| ep (hL k) <| en z0 <| ep (rz 1) <| eg (G.at 1) <| en3 z1 <| eb2 z0 <| en z1 <| eb z0 <| en z1 <| ef <| eb z2 <| eq1 (List.length (List.map Ou.cs out)) <| ec (tJ (({ c3 with w1 := false } : Cl)) out ho hr0 hm0 hs0 hc0 hr1 hm1 hs1 hc1 k) <| eq1 (List.length (List.map Ou.cs (out ++ Prod.snd (ez ({ c3 with w1 := false } : Cl))))) <| e0) (by simp only [dB, aB, z0, z1, z2, vq] <;> rfl)
    · exact rt (ep (rz 1) <| eg (G.at 1) <| eg (G.loop (Ext.exit 0) (g8 n l out q (l.length) c3)) <| ep (hL k) <| en z0 <| ep (rz 1) <| eg (G.at 1) <| en5 z1 <| et <| eq1 (List.length (List.map Ou.cs out)) <| e0) (by simp only [dB, aB, z0, z1, vq] <;> rfl)
end Go.Dm
namespace Go.Dm
open Go
set_option maxHeartbeats 1000000
theorem BG (d : Dk) (h1 : (0 : Nat) < d.sure.length) (h2 : d.sure.length ≤ 1000000) (k : Nat) : ag PP GL XX HH NN (k + 2) 81 [A.agg (Dk.cs d), A.nil] [] = some ([Res.agg (Dk.cs (bV d []))], []) := by
  rcases bft (decide (0 < (↑(d.cache.length) : Int))) with z0 | z0
  · exact rt (ep (cO (f := eS) (g := fun (x : ByteArray) => st x) (fun _ => rfl) d.sure) <| ep (cN (eS) (l := Dk.sure d) h1) <| ep (ar (eS) (l := Dk.sure d) (n := 1073741824) (show d.sure.length ≤ 1073741824 from by omega)) <| eg (G.rowv (List.map (fun (x : ByteArray) => V.c (st x)) d.sure)) <| eg (G.un) <| ep (af (Wr.cs) d.cache) <| eg (G.len (d.cache.length)) <| eb3 z0 <| ep (rfl : (0 : Nat) = (0 : Nat)) <| eg (G.len 0) <| eb2 z0 <| ef <| ep (bD (fun (x : ByteArray) => st x) d.sure (show List.length (List.map eS d.sure) = d.sure.length from by first | simp | (simp; omega))) <| eg (G.rows (List.map (fun (x : ByteArray) => [st x]) d.sure)) <| e0) (by simp only [bV, List.zip_nil_right, List.foldl_nil, z0, vq] <;> rfl)
  · exact rt (ep (cO (f := eS) (g := fun (x : ByteArray) => st x) (fun _ => rfl) d.sure) <| ep (cN (eS) (l := Dk.sure d) h1) <| ep (ar (eS) (l := Dk.sure d) (n := 1073741824) (show d.sure.length ≤ 1073741824 from by omega)) <| eg (G.rowv (List.map (fun (x : ByteArray) => V.c (st x)) d.sure)) <| eg (G.un) <| ep (af (Wr.cs) d.cache) <| eg (G.len (d.cache.length)) <| eb5 z0 <| ef <| ep (bD (fun (x : ByteArray) => st x) d.sure (show List.length (List.map eS d.sure) = d.sure.length from by first | simp | (simp; omega))) <| eg (G.rows (List.map (fun (x : ByteArray) => [st x]) d.sure)) <| e0) (by simp only [bV, List.zip_nil_right, List.foldl_nil, z0, vq] <;> rfl)
def dN (n : Nd) (r : Dk) : Nd × Int :=
  bif n.up then (n, 7) else
  bif !((bh r).2 == 0) then ({ n with store := { n.store with disk := r } }, (bh r).2) else
  (⟨n.id, true, (bh r).1, false, 0, 0, he0, false, rq0, false, 0, 0, false, n.draws, n.mints⟩, 0)
theorem zm (n : Nd) (ks : List Bool) (r : Dk) (hs : r.sure.length ≤ 1000000) (hc : r.cache.length ≤ 900) (h0 : ByteArray.size (aK r 0).1 ≤ 1000000) (h1 : ByteArray.size (aK r 1).1 ≤ 1000000) (hR : ∀ k, ag PP GL XX HH NN (k + 8) 81 [A.agg (Dk.cs n.store.disk), A.c (C.slice 1 (List.map eB ks))] [] = some ([Res.agg (Dk.cs r)], [])) (k : Nat) : ag PP GL XX HH NN (k + 9) 40 [A.agg (Nd.cs n), A.c (C.slice 1 (List.map eB ks))] [] = some ([Res.agg (Nd.cs (dN n r).1), Res.c (ii (dN n r).2)], []) := by
  rcases bft n.up with z0 | z0
  · exact rt (eb z0 <| e0) (rs := [Res.agg (Nd.cs n), Res.c (ii 7)]) (by simp only [dN, he0, rq0, z0, vq] <;> rfl)
  · rcases bft (Prod.snd (bh r) == 0) with z1 | z1
    · exact rt (eb z0 <| ec (hR k) <| ec (kV r hs hc h0 h1 k) <| en z1 <| e0) (rs := [Res.agg (Nd.cs (Nd.mk n.id true (bh r).1 false 0 0 hz0 false rqz false 0 0 false n.draws n.mints)), Res.c (ii 0)]) (by simp only [dN, he0, rq0, z0, z1, vq] <;> rfl)
    · exact rt (eb z0 <| ec (hR k) <| ec (kV r hs hc h0 h1 k) <| en z1 <| e0) (rs := [Res.agg (Nd.cs ({ n with store := ({ Nd.store n with disk := r } : So) } : Nd)), Res.c (ii (bh r).2)]) (by simp only [dN, he0, rq0, z0, z1, vq] <;> rfl)
theorem xR (n : Nd) (r : Dk) (hs : r.sure.length ≤ 1000000) (hc : r.cache.length ≤ 900) (h0 : ByteArray.size (aK r 0).1 ≤ 1000000) (h1 : ByteArray.size (aK r 1).1 ≤ 1000000) (hR : ∀ k, ag PP GL XX HH NN (k + 8) 81 [A.agg (Dk.cs n.store.disk), A.nil] [] = some ([Res.agg (Dk.cs r)], [])) (k : Nat) : ag PP GL XX HH NN (k + 9) 40 [A.agg (Nd.cs n), A.nil] [] = some ([Res.agg (Nd.cs (dN n r).1), Res.c (ii (dN n r).2)], []) := by
  rcases bft n.up with z0 | z0
  · exact rt (eb z0 <| e0) (rs := [Res.agg (Nd.cs n), Res.c (ii 7)]) (by simp only [dN, he0, rq0, z0, vq] <;> rfl)
  · rcases bft (Prod.snd (bh r) == 0) with z1 | z1
    · exact rt (eb z0 <| ec (hR k) <| ec (kV r hs hc h0 h1 k) <| en z1 <| e0) (rs := [Res.agg (Nd.cs (Nd.mk n.id true (bh r).1 false 0 0 hz0 false rqz false 0 0 false n.draws n.mints)), Res.c (ii 0)]) (by simp only [dN, he0, rq0, z0, z1, vq] <;> rfl)
    · exact rt (eb z0 <| ec (hR k) <| ec (kV r hs hc h0 h1 k) <| en z1 <| e0) (rs := [Res.agg (Nd.cs ({ n with store := ({ Nd.store n with disk := r } : So) } : Nd)), Res.c (ii (bh r).2)]) (by simp only [dN, he0, rq0, z0, z1, vq] <;> rfl)
theorem A5 (g : Int) (h1 : (Prod.snd (aY (aF 2 g)) == 0) = true) (hL : ∀ k, ag PP GL XX HH NN (k + 5) 90 [A.agg [ii 2, u g, u 0, u 0, u 0, bo false, bo false, bo false]] [] = some ([Res.c (st (aY (aF 2 g)).1), Res.c (ii (aY (aF 2 g)).2)], [])) (k : Nat) : ag PP GL XX HH NN (k + 6) 55 [A.c (ii 2), A.c (u g)] [] = some ([Res.agg (Dk.cs (bR 2 g)), Res.c (ii 0)], []) := by
  exact rt (ec (hL k) <| en h1 <| ec (re 0 (k + 3)) <| ec (oQ (cZ 0) (show ByteArray.size (cZ (0 : Int)) ≤ 1000000 from by decide) (k + 1)) <| eg (G.un) <| et <| ec (fi (k + 4)) <| ep (rfl : [[st (aY (aF (2 : Int) g)).1], [st (bg (cZ (0 : Int)))], [st bz8]] = [[st (aY (aF (2 : Int) g)).1], [st (bg (cZ (0 : Int)))], [st bz8]]) <| ep (show List.length [[st (aY (aF (2 : Int) g)).1], [st (bg (cZ (0 : Int)))], [st bz8]] ≤ 1073741824 from by simp only [vr]; omega) <| ep ((rfl : (2 : Nat) = (2 : Nat))).symm <| eg (G.app [[st (aY (aF 2 g)).1], [st (bg (cZ 0))], [st bz8]]) <| et <| ec (fi (k + 4)) <| ep (rfl : [[st (aY (aF (2 : Int) g)).1], [st (bg (cZ (0 : Int)))], [st bz8], [st bz8]] = [[st (aY (aF (2 : Int) g)).1], [st (bg (cZ (0 : Int)))], [st bz8], [st bz8]]) <| ep (show List.length [[st (aY (aF (2 : Int) g)).1], [st (bg (cZ (0 : Int)))], [st bz8], [st bz8]] ≤ 1073741824 from by simp only [vr]; omega) <| ep ((rfl : (3 : Nat) = (3 : Nat))).symm <| eg (G.app [[st (aY (aF 2 g)).1], [st (bg (cZ 0))], [st bz8], [st bz8]]) <| ef <| e0) (by simp only [bR, vq] <;> rfl)
theorem BD (g : Int) (h1 : (Prod.snd (aY (aF 3 g)) == 0) = true) (hL : ∀ k, ag PP GL XX HH NN (k + 5) 90 [A.agg [ii 3, u g, u 0, u 0, u 0, bo false, bo false, bo false]] [] = some ([Res.c (st (aY (aF 3 g)).1), Res.c (ii (aY (aF 3 g)).2)], [])) (k : Nat) : ag PP GL XX HH NN (k + 6) 55 [A.c (ii 3), A.c (u g)] [] = some ([Res.agg (Dk.cs (bR 3 g)), Res.c (ii 0)], []) := by
  exact rt (ec (hL k) <| en h1 <| ec (re 0 (k + 3)) <| ec (oQ (cZ 0) (show ByteArray.size (cZ (0 : Int)) ≤ 1000000 from by decide) (k + 1)) <| eg (G.un) <| et <| ec (fi (k + 4)) <| ep (rfl : [[st (aY (aF (3 : Int) g)).1], [st (bg (cZ (0 : Int)))], [st bz8]] = [[st (aY (aF (3 : Int) g)).1], [st (bg (cZ (0 : Int)))], [st bz8]]) <| ep (show List.length [[st (aY (aF (3 : Int) g)).1], [st (bg (cZ (0 : Int)))], [st bz8]] ≤ 1073741824 from by simp only [vr]; omega) <| ep ((rfl : (2 : Nat) = (2 : Nat))).symm <| eg (G.app [[st (aY (aF 3 g)).1], [st (bg (cZ 0))], [st bz8]]) <| et <| ec (fi (k + 4)) <| ep (rfl : [[st (aY (aF (3 : Int) g)).1], [st (bg (cZ (0 : Int)))], [st bz8], [st bz8]] = [[st (aY (aF (3 : Int) g)).1], [st (bg (cZ (0 : Int)))], [st bz8], [st bz8]]) <| ep (show List.length [[st (aY (aF (3 : Int) g)).1], [st (bg (cZ (0 : Int)))], [st bz8], [st bz8]] ≤ 1073741824 from by simp only [vr]; omega) <| ep ((rfl : (3 : Nat) = (3 : Nat))).symm <| eg (G.app [[st (aY (aF 3 g)).1], [st (bg (cZ 0))], [st bz8], [st bz8]]) <| et <| ec (fi (k + 4)) <| ep (rfl : [[st (aY (aF (3 : Int) g)).1], [st (bg (cZ (0 : Int)))], [st bz8], [st bz8], [st bz8]] = [[st (aY (aF (3 : Int) g)).1], [st (bg (cZ (0 : Int)))], [st bz8], [st bz8], [st bz8]]) <| ep (show List.length [[st (aY (aF (3 : Int) g)).1], [st (bg (cZ (0 : Int)))], [st bz8], [st bz8], [st bz8]] ≤ 1073741824 from by simp only [vr]; omega) <| ep ((rfl : (4 : Nat) = (4 : Nat))).symm <| eg (G.app [[st (aY (aF 3 g)).1], [st (bg (cZ 0))], [st bz8], [st bz8], [st bz8]]) <| ef <| e0) (by simp only [bR, vq] <;> rfl)
theorem Ci (g : Int) (h1 : (Prod.snd (aY (aF 4 g)) == 0) = true) (hL : ∀ k, ag PP GL XX HH NN (k + 5) 90 [A.agg [ii 4, u g, u 0, u 0, u 0, bo false, bo false, bo false]] [] = some ([Res.c (st (aY (aF 4 g)).1), Res.c (ii (aY (aF 4 g)).2)], [])) (k : Nat) : ag PP GL XX HH NN (k + 6) 55 [A.c (ii 4), A.c (u g)] [] = some ([Res.agg (Dk.cs (bR 4 g)), Res.c (ii 0)], []) := by
  exact rt (ec (hL k) <| en h1 <| ec (re 0 (k + 3)) <| ec (oQ (cZ 0) (show ByteArray.size (cZ (0 : Int)) ≤ 1000000 from by decide) (k + 1)) <| eg (G.un) <| et <| ec (fi (k + 4)) <| ep (rfl : [[st (aY (aF (4 : Int) g)).1], [st (bg (cZ (0 : Int)))], [st bz8]] = [[st (aY (aF (4 : Int) g)).1], [st (bg (cZ (0 : Int)))], [st bz8]]) <| ep (show List.length [[st (aY (aF (4 : Int) g)).1], [st (bg (cZ (0 : Int)))], [st bz8]] ≤ 1073741824 from by simp only [vr]; omega) <| ep ((rfl : (2 : Nat) = (2 : Nat))).symm <| eg (G.app [[st (aY (aF 4 g)).1], [st (bg (cZ 0))], [st bz8]]) <| et <| ec (fi (k + 4)) <| ep (rfl : [[st (aY (aF (4 : Int) g)).1], [st (bg (cZ (0 : Int)))], [st bz8], [st bz8]] = [[st (aY (aF (4 : Int) g)).1], [st (bg (cZ (0 : Int)))], [st bz8], [st bz8]]) <| ep (show List.length [[st (aY (aF (4 : Int) g)).1], [st (bg (cZ (0 : Int)))], [st bz8], [st bz8]] ≤ 1073741824 from by simp only [vr]; omega) <| ep ((rfl : (3 : Nat) = (3 : Nat))).symm <| eg (G.app [[st (aY (aF 4 g)).1], [st (bg (cZ 0))], [st bz8], [st bz8]]) <| et <| ec (fi (k + 4)) <| ep (rfl : [[st (aY (aF (4 : Int) g)).1], [st (bg (cZ (0 : Int)))], [st bz8], [st bz8], [st bz8]] = [[st (aY (aF (4 : Int) g)).1], [st (bg (cZ (0 : Int)))], [st bz8], [st bz8], [st bz8]]) <| ep (show List.length [[st (aY (aF (4 : Int) g)).1], [st (bg (cZ (0 : Int)))], [st bz8], [st bz8], [st bz8]] ≤ 1073741824 from by simp only [vr]; omega) <| ep ((rfl : (4 : Nat) = (4 : Nat))).symm <| eg (G.app [[st (aY (aF 4 g)).1], [st (bg (cZ 0))], [st bz8], [st bz8], [st bz8]]) <| et <| ec (fi (k + 4)) <| ep (rfl : [[st (aY (aF (4 : Int) g)).1], [st (bg (cZ (0 : Int)))], [st bz8], [st bz8], [st bz8], [st bz8]] = [[st (aY (aF (4 : Int) g)).1], [st (bg (cZ (0 : Int)))], [st bz8], [st bz8], [st bz8], [st bz8]]) <| ep (show List.length [[st (aY (aF (4 : Int) g)).1], [st (bg (cZ (0 : Int)))], [st bz8], [st bz8], [st bz8], [st bz8]] ≤ 1073741824 from by simp only [vr]; omega) <| ep ((rfl : (5 : Nat) = (5 : Nat))).symm <| eg (G.app [[st (aY (aF 4 g)).1], [st (bg (cZ 0))], [st bz8], [st bz8], [st bz8], [st bz8]]) <| ef <| e0) (by simp only [bR, vq] <;> rfl)
def fx (i : Int) (d : Dk) : Nd := ⟨i, false, ⟨d, su0, 0⟩, false, 0, 0, he0, false, rq0, false, 0, 0, false, [], []⟩
abbrev oo (i : Int) (d : Dk) : List C := [ii i, bo false, .slice 1 (d.sure.map eS), .slice 2 (d.cache.map Wr.cs), ii d.fuse, bo d.dead, ii 0, u 0, u 0, u 0, u 0, bo false, bo false, bo false, w4 0, bo false, ii 0, u 0, ii 0, u 0, u 0, u 0, u 0, bo false, bo false, bo false, bo false, w4 0, bo false, bo false, ii 0, ii 0, st ⟨#[]⟩, bo false, ii 0, ii 0, bo false, .slice 1 [], .slice 3 []]
theorem sV (i : Int) (d : Dk) : (fx i d).cs = oo i d := rfl
def lk0 : Lk := ⟨false, 0, [], []⟩
theorem Dw (b : Int) (g : Int) (d : Dk) (x : Nd) (y : Nd) (e : Int) (f : Int) (hF : ∀ k, ag PP GL XX HH NN (k + 9) 55 [A.c (ii b), A.c (u g)] [] = some ([Res.agg (Dk.cs d), Res.c (ii 0)], [])) (hA : ∀ k, ag PP GL XX HH NN (k + 9) 40 [A.agg (oo 0 d), A.nil] [] = some ([Res.agg (Nd.cs x), Res.c (ii e)], [])) (hB : ∀ k, ag PP GL XX HH NN (k + 9) 40 [A.agg (oo 1 d), A.nil] [] = some ([Res.agg (Nd.cs y), Res.c (ii f)], [])) (k : Nat) : ag PP GL XX HH NN (k + 10) 27 [A.c (ii b), A.c (u g)] [] = some ([Res.agg (Cl.cs (Cl.mk x y lk0 false false)), Res.c (ii 0)], []) := by
  exact rt (eg (G.un) <| et <| ec (hF k) <| ef <| ec (hA k) <| ep (rz 0) <| eg (G.at 0) <| et <| ec (hF k) <| ef <| ec (hB k) <| ep (rz 1) <| eg (G.at 1) <| ef <| e0) (by simp only [lk0, vq] <;> rfl)
end Go.Dm
namespace Go.Dm
open Go
set_option maxHeartbeats 1000000
def lr (c c2 c3 : Cl) (o1 o2 : List Ou) : Cl × List Ou :=
  bif !c.n0.up then (c, []) else bif !c.w1 || !c.n1.up || c.link.up then ({ c with w0 := true }, []) else (c3, o1 ++ o2)
theorem vE (c : Cl) (c2 : Cl) (c3 : Cl) (o1 : List Ou) (o2 : List Ou) (hl : o1.length + o2.length ≤ 1000) (hA : ∀ k, ag PP GL XX HH NN (k + 12) 44 [A.agg (Cl.cs ({ c with link := b6 c.link, w0 := true } : Cl)), A.c (ii 0), A.agg (Nd.cs (cM c.n0 (b6 c.link).ses).1), A.c (C.slice 5 (List.map Ou.cs (cM c.n0 (b6 c.link).ses).2))] [] = some ([Res.agg (Cl.cs c2), Res.top 5 (List.map Ou.cs o1)], [])) (hB : ∀ k, ag PP GL XX HH NN (k + 12) 44 [A.agg (Cl.cs c2), A.c (ii 1), A.agg (Nd.cs (cM c2.n1 c2.link.ses).1), A.c (C.slice 5 (List.map Ou.cs (cM c2.n1 c2.link.ses).2))] [] = some ([Res.agg (Cl.cs c3), Res.top 5 (List.map Ou.cs o2)], [])) (k : Nat) : ag PP GL XX HH NN (k + 13) 35 [A.agg (Cl.cs c), A.c (ii 0)] [] = some ([Res.agg (Cl.cs (lr c c2 c3 o1 o2).1), Res.top 5 (List.map Ou.cs (lr c c2 c3 o1 o2).2)], []) := by
  rcases bft c.n0.up with z0 | z0
  · rcases bft c.w1 with z1 | z1
    · rcases bft c.n1.up with z2 | z2
      · rcases bft c.link.up with z3 | z3
        · exact rt (ep (rz 0) <| eg (G.at 0) <| en z0 <| ep (rz 0) <| eg (G.at 0) <| ep (rz 1) <| eg (G.at 1) <| en4 z1 <| ep (rz 1) <| eg (G.at 1) <| en4 z1 <| en4 z2 <| eb z3 <| e0) (rs := [Res.agg (Cl.cs ({ c with w0 := true } : Cl)), Res.top 5 (List.map Ou.cs [])]) (by simp only [lr, z0, z1, z2, z3, vq] <;> rfl)
        · exact rt (ep (rz 0) <| eg (G.at 0) <| en z0 <| ep (rz 0) <| eg (G.at 0) <| ep (rz 1) <| eg (G.at 1) <| en4 z1 <| ep (rz 1) <| eg (G.at 1) <| en4 z1 <| en4 z2 <| eb z3 <| ec (uO c.link (k + 11)) <| ec (n8 c.n0 (b6 c.link).ses (k + 2)) <| ec (hA k) <| ec (n8 c2.n1 c2.link.ses (k + 2)) <| ec (hB k) <| ep (a9 (Ou.cs) (o1) (o2)) <| ep (ar (Ou.cs) (l := o1 ++ o2) (n := 1073741824) (by simp only [vr]; omega)) <| ep (Eq.refl (List.length (List.map Ou.cs o1))) <| eg (G.app (List.map Ou.cs (o1 ++ o2))) <| eq1 (List.length (List.map Ou.cs (o1 ++ o2))) <| e0) (rs := [Res.agg (Cl.cs c3), Res.top 5 (List.map Ou.cs (o1 ++ o2))]) (by simp only [lr, z0, z1, z2, z3, vq] <;> rfl)
      · exact rt (ep (rz 0) <| eg (G.at 0) <| en z0 <| ep (rz 0) <| eg (G.at 0) <| ep (rz 1) <| eg (G.at 1) <| en4 z1 <| ep (rz 1) <| eg (G.at 1) <| en4 z1 <| en4 z2 <| et <| e0) (rs := [Res.agg (Cl.cs ({ c with w0 := true } : Cl)), Res.top 5 (List.map Ou.cs [])]) (by simp only [lr, z0, z1, z2, vq] <;> rfl)
    · exact rt (ep (rz 0) <| eg (G.at 0) <| en z0 <| ep (rz 0) <| eg (G.at 0) <| ep (rz 1) <| eg (G.at 1) <| en8 z1 <| et5 <| e0) (rs := [Res.agg (Cl.cs ({ c with w0 := true } : Cl)), Res.top 5 (List.map Ou.cs [])]) (by simp only [lr, z0, z1, vq] <;> rfl)
  · exact rt (ep (rz 0) <| eg (G.at 0) <| en z0 <| e0) (rs := [Res.agg (Cl.cs c), Res.top 5 (List.map Ou.cs [])]) (by simp only [lr, z0, vq] <;> rfl)
def ll (c c2 c3 : Cl) (o1 o2 : List Ou) : Cl × List Ou :=
  bif !c.n1.up then (c, []) else bif !c.w0 || !c.n0.up || c.link.up then ({ c with w1 := true }, []) else (c3, o1 ++ o2)
theorem vT (c : Cl) (c2 : Cl) (c3 : Cl) (o1 : List Ou) (o2 : List Ou) (hl : o1.length + o2.length ≤ 1000) (hA : ∀ k, ag PP GL XX HH NN (k + 12) 44 [A.agg (Cl.cs ({ c with link := b6 c.link, w1 := true } : Cl)), A.c (ii 0), A.agg (Nd.cs (cM c.n0 (b6 c.link).ses).1), A.c (C.slice 5 (List.map Ou.cs (cM c.n0 (b6 c.link).ses).2))] [] = some ([Res.agg (Cl.cs c2), Res.top 5 (List.map Ou.cs o1)], [])) (hB : ∀ k, ag PP GL XX HH NN (k + 12) 44 [A.agg (Cl.cs c2), A.c (ii 1), A.agg (Nd.cs (cM c2.n1 c2.link.ses).1), A.c (C.slice 5 (List.map Ou.cs (cM c2.n1 c2.link.ses).2))] [] = some ([Res.agg (Cl.cs c3), Res.top 5 (List.map Ou.cs o2)], [])) (k : Nat) : ag PP GL XX HH NN (k + 13) 35 [A.agg (Cl.cs c), A.c (ii 1)] [] = some ([Res.agg (Cl.cs (ll c c2 c3 o1 o2).1), Res.top 5 (List.map Ou.cs (ll c c2 c3 o1 o2).2)], []) := by
  rcases bft c.n1.up with z0 | z0
  · rcases bft c.w0 with z1 | z1
    · rcases bft c.n0.up with z2 | z2
      · rcases bft c.link.up with z3 | z3
        · exact rt (ep (rz 1) <| eg (G.at 1) <| en z0 <| ep (rz 1) <| eg (G.at 1) <| ep (rz 0) <| eg (G.at 0) <| en4 z1 <| ep (rz 0) <| eg (G.at 0) <| en4 z1 <| en4 z2 <| eb z3 <| e0) (rs := [Res.agg (Cl.cs ({ c with w1 := true } : Cl)), Res.top 5 (List.map Ou.cs [])]) (by simp only [ll, z0, z1, z2, z3, vq] <;> rfl)
        · exact rt (ep (rz 1) <| eg (G.at 1) <| en z0 <| ep (rz 1) <| eg (G.at 1) <| ep (rz 0) <| eg (G.at 0) <| en4 z1 <| ep (rz 0) <| eg (G.at 0) <| en4 z1 <| en4 z2 <| eb z3 <| ec (uO c.link (k + 11)) <| ec (n8 c.n0 (b6 c.link).ses (k + 2)) <| ec (hA k) <| ec (n8 c2.n1 c2.link.ses (k + 2)) <| ec (hB k) <| ep (a9 (Ou.cs) (o1) (o2)) <| ep (ar (Ou.cs) (l := o1 ++ o2) (n := 1073741824) (by simp only [vr]; omega)) <| ep (Eq.refl (List.length (List.map Ou.cs o1))) <| eg (G.app (List.map Ou.cs (o1 ++ o2))) <| eq1 (List.length (List.map Ou.cs (o1 ++ o2))) <| e0) (rs := [Res.agg (Cl.cs c3), Res.top 5 (List.map Ou.cs (o1 ++ o2))]) (by simp only [ll, z0, z1, z2, z3, vq] <;> rfl)
      · exact rt (ep (rz 1) <| eg (G.at 1) <| en z0 <| ep (rz 1) <| eg (G.at 1) <| ep (rz 0) <| eg (G.at 0) <| en4 z1 <| ep (rz 0) <| eg (G.at 0) <| en4 z1 <| en4 z2 <| et <| e0) (rs := [Res.agg (Cl.cs ({ c with w1 := true } : Cl)), Res.top 5 (List.map Ou.cs [])]) (by simp only [ll, z0, z1, z2, vq] <;> rfl)
    · exact rt (ep (rz 1) <| eg (G.at 1) <| en z0 <| ep (rz 1) <| eg (G.at 1) <| ep (rz 0) <| eg (G.at 0) <| en8 z1 <| et5 <| e0) (rs := [Res.agg (Cl.cs ({ c with w1 := true } : Cl)), Res.top 5 (List.map Ou.cs [])]) (by simp only [ll, z0, z1, vq] <;> rfl)
  · exact rt (ep (rz 1) <| eg (G.at 1) <| en z0 <| e0) (rs := [Res.agg (Cl.cs c), Res.top 5 (List.map Ou.cs [])]) (by simp only [ll, z0, vq] <;> rfl)
end Go.Dm
namespace Go.Dm
open Go
set_option maxHeartbeats 1000000
abbrev pq (n : Nd) (k : Int) : Nd := ⟨n.id, n.up, ⟨Dh n.store.disk (IntKind.wrap .i64 (if 1000 < k then 1000 else k)), n.store.super, n.store.mask⟩, n.primary, n.state, n.ses, n.peer, n.peerPri, n.req, n.asking, n.askId, n.wanted, n.minted, n.draws, n.mints⟩
abbrev drawn (n : Nd) (g : Int) : Nd := ⟨n.id, n.up, n.store, n.primary, n.state, n.ses, n.peer, n.peerPri, n.req, n.asking, n.askId, n.wanted, n.minted, n.draws ++ [g], n.mints⟩
theorem tT (c : Cl) (e : Evt) (c2 : Cl) (o2 : List Ou) (x : Nd) (o : List Ou) (hP : ∀ k, ag PP GL XX HH NN (k + 13) 30 [A.agg (Nd.cs c.n0), A.c (ii e.id)] [] = some ([Res.agg (Nd.cs x), Res.top 5 (List.map Ou.cs o)], [])) (hA : ∀ k, ag PP GL XX HH NN (k + 13) 44 [A.agg (Cl.cs c), A.c (ii 0), A.agg (Nd.cs x), A.c (C.slice 5 (List.map Ou.cs o))] [] = some ([Res.agg (Cl.cs c2), Res.top 5 (List.map Ou.cs o2)], [])) (k : Nat) : ag PP GL XX HH NN (k + 14) 18 [A.agg (Cl.cs c), A.agg [ii 1, ii 0, ii e.id, ii e.block, st e.data, u e.n, C.slice 1 (List.map eB e.keeps)]] [] = some ([Res.agg (Cl.cs c2), Res.top 5 (List.map Ou.cs o2)], []) := by
  exact rt (ef4 <| ep (rz 0) <| eg (G.at 0) <| et <| ec (hP k) <| ec (hA k) <| eq1 (List.length (List.map Ou.cs o2)) <| e0) rfl
theorem wx (c : Cl) (e : Evt) (c2 : Cl) (o2 : List Ou) (x : Nd) (o : List Ou) (hP : ∀ k, ag PP GL XX HH NN (k + 13) 31 [A.agg (Nd.cs c.n0), A.c (ii e.id)] [] = some ([Res.agg (Nd.cs x), Res.top 5 (List.map Ou.cs o)], [])) (hA : ∀ k, ag PP GL XX HH NN (k + 13) 44 [A.agg (Cl.cs c), A.c (ii 0), A.agg (Nd.cs x), A.c (C.slice 5 (List.map Ou.cs o))] [] = some ([Res.agg (Cl.cs c2), Res.top 5 (List.map Ou.cs o2)], [])) (k : Nat) : ag PP GL XX HH NN (k + 14) 18 [A.agg (Cl.cs c), A.agg [ii 2, ii 0, ii e.id, ii e.block, st e.data, u e.n, C.slice 1 (List.map eB e.keeps)]] [] = some ([Res.agg (Cl.cs c2), Res.top 5 (List.map Ou.cs o2)], []) := by
  exact rt (ef4 <| ep (rz 0) <| eg (G.at 0) <| ef <| et <| ec (hP k) <| ec (hA k) <| eq1 (List.length (List.map Ou.cs o2)) <| e0) rfl
theorem tl (c : Cl) (e : Evt) (c2 : Cl) (o2 : List Ou) (x : Nd) (o : List Ou) (hP : ∀ k, ag PP GL XX HH NN (k + 13) 32 [A.agg (Nd.cs c.n0), A.c (ii e.id)] [] = some ([Res.agg (Nd.cs x), Res.top 5 (List.map Ou.cs o)], [])) (hA : ∀ k, ag PP GL XX HH NN (k + 13) 44 [A.agg (Cl.cs c), A.c (ii 0), A.agg (Nd.cs x), A.c (C.slice 5 (List.map Ou.cs o))] [] = some ([Res.agg (Cl.cs c2), Res.top 5 (List.map Ou.cs o2)], [])) (k : Nat) : ag PP GL XX HH NN (k + 14) 18 [A.agg (Cl.cs c), A.agg [ii 3, ii 0, ii e.id, ii e.block, st e.data, u e.n, C.slice 1 (List.map eB e.keeps)]] [] = some ([Res.agg (Cl.cs c2), Res.top 5 (List.map Ou.cs o2)], []) := by
  exact rt (ef4 <| ep (rz 0) <| eg (G.at 0) <| ef2 <| et <| ec (hP k) <| ec (hA k) <| eq1 (List.length (List.map Ou.cs o2)) <| e0) rfl
theorem Cc (c : Cl) (e : Evt) (c2 : Cl) (o2 : List Ou) (x : Nd) (o : List Ou) (hP : ∀ k, ag PP GL XX HH NN (k + 13) 33 [A.agg (Nd.cs c.n0), A.c (ii e.id), A.c (ii e.block)] [] = some ([Res.agg (Nd.cs x), Res.top 5 (List.map Ou.cs o)], [])) (hA : ∀ k, ag PP GL XX HH NN (k + 13) 44 [A.agg (Cl.cs c), A.c (ii 0), A.agg (Nd.cs x), A.c (C.slice 5 (List.map Ou.cs o))] [] = some ([Res.agg (Cl.cs c2), Res.top 5 (List.map Ou.cs o2)], [])) (k : Nat) : ag PP GL XX HH NN (k + 14) 18 [A.agg (Cl.cs c), A.agg [ii 4, ii 0, ii e.id, ii e.block, st e.data, u e.n, C.slice 1 (List.map eB e.keeps)]] [] = some ([Res.agg (Cl.cs c2), Res.top 5 (List.map Ou.cs o2)], []) := by
  exact rt (ef4 <| ep (rz 0) <| eg (G.at 0) <| ef3 <| et <| ec (hP k) <| ec (hA k) <| eq1 (List.length (List.map Ou.cs o2)) <| e0) rfl
theorem zL (c : Cl) (e : Evt) (c2 : Cl) (o2 : List Ou) (x : Nd) (o : List Ou) (hP : ∀ k, ag PP GL XX HH NN (k + 13) 34 [A.agg (Nd.cs c.n0), A.c (ii e.id), A.c (ii e.block), A.c (st e.data)] [] = some ([Res.agg (Nd.cs x), Res.top 5 (List.map Ou.cs o)], [])) (hA : ∀ k, ag PP GL XX HH NN (k + 13) 44 [A.agg (Cl.cs c), A.c (ii 0), A.agg (Nd.cs x), A.c (C.slice 5 (List.map Ou.cs o))] [] = some ([Res.agg (Cl.cs c2), Res.top 5 (List.map Ou.cs o2)], [])) (k : Nat) : ag PP GL XX HH NN (k + 14) 18 [A.agg (Cl.cs c), A.agg [ii 5, ii 0, ii e.id, ii e.block, st e.data, u e.n, C.slice 1 (List.map eB e.keeps)]] [] = some ([Res.agg (Cl.cs c2), Res.top 5 (List.map Ou.cs o2)], []) := by
  exact rt (ef4 <| ep (rz 0) <| eg (G.at 0) <| ef4 <| et <| ec (hP k) <| ec (hA k) <| eq1 (List.length (List.map Ou.cs o2)) <| e0) rfl
theorem uo (c : Cl) (e : Evt) (c2 : Cl) (o2 : List Ou) (hC : ∀ k, ag PP GL XX HH NN (k + 13) 35 [A.agg (Cl.cs c), A.c (ii 0)] [] = some ([Res.agg (Cl.cs c2), Res.top 5 (List.map Ou.cs o2)], [])) (k : Nat) : ag PP GL XX HH NN (k + 14) 18 [A.agg (Cl.cs c), A.agg [ii 6, ii 0, ii e.id, ii e.block, st e.data, u e.n, C.slice 1 (List.map eB e.keeps)]] [] = some ([Res.agg (Cl.cs c2), Res.top 5 (List.map Ou.cs o2)], []) := by
  exact rt (ef4 <| ep (rz 0) <| eg (G.at 0) <| ef5 <| et <| ec (hC k) <| eq1 (List.length (List.map Ou.cs o2)) <| e0) rfl
def pT (c c2 : Cl) (o2 : List Ou) : Cl × List Ou := bif !c.link.up then (c, []) else (c2, o2)
theorem nW (c : Cl) (e : Evt) (c2 : Cl) (o2 : List Ou) (hE : ∀ k, ag PP GL XX HH NN (k + 13) 36 [A.agg (Cl.cs ({ c with w0 := false } : Cl)), A.nil] [] = some ([Res.agg (Cl.cs c2), Res.top 5 (List.map Ou.cs o2)], [])) (k : Nat) : ag PP GL XX HH NN (k + 14) 18 [A.agg (Cl.cs c), A.agg [ii 7, ii 0, ii e.id, ii e.block, st e.data, u e.n, C.slice 1 (List.map eB e.keeps)]] [] = some ([Res.agg (Cl.cs (pT ({ c with w0 := false } : Cl) c2 o2).1), Res.top 5 (List.map Ou.cs (pT ({ c with w0 := false } : Cl) c2 o2).2)], []) := by
  rcases bft c.link.up with z0 | z0
  · exact rt (ef4 <| ep (rz 0) <| eg (G.at 0) <| ef6 <| et3 <| ep (rz 0) <| eg (G.at 0) <| en z0 <| ec (hE k) <| eq1 (List.length (List.map Ou.cs o2)) <| e0) (by simp only [pT, z0, vq] <;> rfl)
  · exact rt (ef4 <| ep (rz 0) <| eg (G.at 0) <| ef6 <| et3 <| ep (rz 0) <| eg (G.at 0) <| en z0 <| e0) (by simp only [pT, z0, vq] <;> rfl)
theorem B7 (c : Cl) (e : Evt) (c2 : Cl) (o2 : List Ou) (hE : ∀ k, ag PP GL XX HH NN (k + 13) 36 [A.agg (Cl.cs c), A.nil] [] = some ([Res.agg (Cl.cs c2), Res.top 5 (List.map Ou.cs o2)], [])) (k : Nat) : ag PP GL XX HH NN (k + 14) 18 [A.agg (Cl.cs c), A.agg [ii 8, ii 0, ii e.id, ii e.block, st e.data, u e.n, C.slice 1 (List.map eB e.keeps)]] [] = some ([Res.agg (Cl.cs (pT c c2 o2).1), Res.top 5 (List.map Ou.cs (pT c c2 o2).2)], []) := by
  rcases bft c.link.up with z0 | z0
  · exact rt (ef4 <| ep (rz 0) <| eg (G.at 0) <| ef7 <| et <| ef <| en z0 <| ec (hE k) <| eq1 (List.length (List.map Ou.cs o2)) <| e0) (by simp only [pT, z0, vq] <;> rfl)
  · exact rt (ef4 <| ep (rz 0) <| eg (G.at 0) <| ef7 <| et <| ef <| en z0 <| e0) (by simp only [pT, z0, vq] <;> rfl)
def sq (c c2 : Cl) (o2 : List Ou) (q : Bool) : Cl × List Ou := bif !q then (c, []) else (c2, o2)
theorem tX (c : Cl) (e : Evt) (c2 : Cl) (o2 : List Ou) (x : Nd) (o : List Ou) (b : ByteArray) (l : Lk) (q : Bool) (hT : ∀ k, ag PP GL XX HH NN (k + 13) 37 [A.agg (Lk.cs c.link), A.c (ii 0)] [] = some ([Res.c (st b), Res.agg (Lk.cs l), Res.c (bo q)], [])) (hP : ∀ k, ag PP GL XX HH NN (k + 13) 38 [A.agg (Nd.cs c.n0), A.c (st b)] [] = some ([Res.agg (Nd.cs x), Res.top 5 (List.map Ou.cs o)], [])) (hA : ∀ k, ag PP GL XX HH NN (k + 13) 44 [A.agg (Cl.cs ({ c with link := l } : Cl)), A.c (ii 0), A.agg (Nd.cs x), A.c (C.slice 5 (List.map Ou.cs o))] [] = some ([Res.agg (Cl.cs c2), Res.top 5 (List.map Ou.cs o2)], [])) (k : Nat) : ag PP GL XX HH NN (k + 14) 18 [A.agg (Cl.cs c), A.agg [ii 9, ii 0, ii e.id, ii e.block, st e.data, u e.n, C.slice 1 (List.map eB e.keeps)]] [] = some ([Res.agg (Cl.cs (sq c c2 o2 q).1), Res.top 5 (List.map Ou.cs (sq c c2 o2 q).2)], []) := by
  rcases bft (q) with z0 | z0
  · exact rt (ef4 <| ep (rz 0) <| eg (G.at 0) <| ef8 <| et <| ec (hT k) <| en z0 <| ec (hP k) <| ec (hA k) <| eq1 (List.length (List.map Ou.cs o2)) <| e0) (by simp only [sq, z0, vq] <;> rfl)
  · exact rt (ef4 <| ep (rz 0) <| eg (G.at 0) <| ef8 <| et <| ec (hT k) <| en z0 <| e0) (by simp only [sq, z0, vq] <;> rfl)
def nP (c c2 : Cl) (o2 : List Ou) : Cl × List Ou := bif !c.n0.up then (c, []) else (c2, o2)
theorem yF (c : Cl) (e : Evt) (c2 : Cl) (o2 : List Ou) (hA : ∀ k, ag PP GL XX HH NN (k + 13) 44 [A.agg (Cl.cs c), A.c (ii 0), A.agg (Nd.cs (fQ c.n0)), A.c (C.slice 5 [])] [] = some ([Res.agg (Cl.cs c2), Res.top 5 (List.map Ou.cs o2)], [])) (k : Nat) : ag PP GL XX HH NN (k + 14) 18 [A.agg (Cl.cs c), A.agg [ii 10, ii 0, ii e.id, ii e.block, st e.data, u e.n, C.slice 1 (List.map eB e.keeps)]] [] = some ([Res.agg (Cl.cs (nP c c2 o2).1), Res.top 5 (List.map Ou.cs (nP c c2 o2).2)], []) := by
  rcases bft c.n0.up with z0 | z0
  · exact rt (ef4 <| ep (rz 0) <| eg (G.at 0) <| ef9 <| et <| en z0 <| ec (r3 c.n0 (k + 11)) <| ec (hA k) <| eq1 (List.length (List.map Ou.cs o2)) <| e0) (by simp only [nP, z0, vq] <;> rfl)
  · exact rt (ef4 <| ep (rz 0) <| eg (G.at 0) <| ef9 <| et <| en z0 <| e0) (by simp only [nP, z0, vq] <;> rfl)
theorem ti (c : Cl) (e : Evt) (x : Nd) (f : Int) (hP : ∀ k, ag PP GL XX HH NN (k + 13) 40 [A.agg (Nd.cs c.n0), A.c (C.slice 1 (List.map eB e.keeps))] [] = some ([Res.agg (Nd.cs x), Res.c (ii f)], [])) (k : Nat) : ag PP GL XX HH NN (k + 14) 18 [A.agg (Cl.cs c), A.agg [ii 11, ii 0, ii e.id, ii e.block, st e.data, u e.n, C.slice 1 (List.map eB e.keeps)]] [] = some ([Res.agg (Cl.cs ({ c with n0 := x } : Cl)), Res.top 5 (List.map Ou.cs [ae x e.id f ⟨#[]⟩])], []) := by
  exact rt (ef4 <| ep (rz 0) <| eg (G.at 0) <| zZ <| et <| ec (hP k) <| ep (rz 0) <| eg (G.at 0) <| ec (br x e.id f ⟨#[]⟩ (k + 12)) <| e0) rfl
theorem xU (c : Cl) (e : Evt) (c2 : Cl) (o2 : List Ou) (hu : Nd.up c.n0 = true) (hA : ∀ k, ag PP GL XX HH NN (k + 13) 44 [A.agg (Cl.cs c), A.c (ii 0), A.agg (Nd.cs (pq c.n0 e.n)), A.c (C.slice 5 [])] [] = some ([Res.agg (Cl.cs c2), Res.top 5 (List.map Ou.cs o2)], [])) (k : Nat) : ag PP GL XX HH NN (k + 14) 18 [A.agg (Cl.cs c), A.agg [ii 12, ii 0, ii e.id, ii e.block, st e.data, u e.n, C.slice 1 (List.map eB e.keeps)]] [] = some ([Res.agg (Cl.cs c2), Res.top 5 (List.map Ou.cs o2)], []) := by
  exact rt (ef4 <| ep (rz 0) <| eg (G.at 0) <| qu <| et <| eb hu <| ec (GX c.n0.store.disk (IntKind.wrap .i64 (if 1000 < Evt.n e then 1000 else Evt.n e)) (k + 12)) <| ec (hA k) <| eq1 (List.length (List.map Ou.cs o2)) <| e0) rfl
theorem zF (c : Cl) (e : Evt) (c2 : Cl) (o2 : List Ou) (hu : Nd.up c.n0 = false) (hA : ∀ k, ag PP GL XX HH NN (k + 13) 44 [A.agg (Cl.cs c), A.c (ii 0), A.agg (Nd.cs c.n0), A.c (C.slice 5 [])] [] = some ([Res.agg (Cl.cs c2), Res.top 5 (List.map Ou.cs o2)], [])) (k : Nat) : ag PP GL XX HH NN (k + 14) 18 [A.agg (Cl.cs c), A.agg [ii 12, ii 0, ii e.id, ii e.block, st e.data, u e.n, C.slice 1 (List.map eB e.keeps)]] [] = some ([Res.agg (Cl.cs c2), Res.top 5 (List.map Ou.cs o2)], []) := by
  exact rt (ef4 <| ep (rz 0) <| eg (G.at 0) <| qu <| et <| eb hu <| ec (hA k) <| eq1 (List.length (List.map Ou.cs o2)) <| e0) rfl
theorem zd (c : Cl) (e : Evt) (hr : c.n0.draws.length ≤ 1000000) (hd : decide ((↑(c.n0.draws.length) : Int) < 1000) = true) (k : Nat) : ag PP GL XX HH NN (k + 14) 18 [A.agg (Cl.cs c), A.agg [ii 13, ii 0, ii e.id, ii e.block, st e.data, u e.n, C.slice 1 (List.map eB e.keeps)]] [] = some ([Res.agg (Cl.cs ({ c with n0 := drawn c.n0 e.n } : Cl)), Res.top 5 []], []) := by
  exact rt (ef4 <| ep (rz 0) <| eg (G.at 0) <| kj <| et <| ep (af (eU) c.n0.draws) <| eg (G.len (c.n0.draws.length)) <| eb hd <| ep (bq (List.map eU c.n0.draws)) <| ep (ar (eU) (l := Nd.draws c.n0) (n := 1073741824) (by omega)) <| eg (G.app (List.map eU c.n0.draws)) <| ep (a9 (eU) c.n0.draws ([Evt.n e])) <| ep (ar (eU) (l := Nd.draws c.n0 ++ [Evt.n e]) (n := 1073741824) (by simp only [vr]; omega)) <| ep (Eq.refl (List.length (List.map eU c.n0.draws))) <| eg (G.app (List.map eU (Nd.draws c.n0 ++ [Evt.n e]))) <| ep (rz 0) <| eg (G.at 0) <| e0) rfl
theorem ym (c : Cl) (e : Evt) (hd : decide ((↑(c.n0.draws.length) : Int) < 1000) = false) (k : Nat) : ag PP GL XX HH NN (k + 14) 18 [A.agg (Cl.cs c), A.agg [ii 13, ii 0, ii e.id, ii e.block, st e.data, u e.n, C.slice 1 (List.map eB e.keeps)]] [] = some ([Res.agg (Cl.cs c), Res.top 5 []], []) := by
  exact rt (ef4 <| ep (rz 0) <| eg (G.at 0) <| kj <| et <| ep (af (eU) c.n0.draws) <| eg (G.len (c.n0.draws.length)) <| eb hd <| ep (rz 0) <| eg (G.at 0) <| e0) rfl
def nR (c c2 : Cl) (o2 : List Ou) (f : Int) : Cl × List Ou := bif f == 0 then (c, []) else (c2, o2)
theorem zE (c : Cl) (e : Evt) (c2 : Cl) (o2 : List Ou) (x : Nd) (o : List Ou) (p : Pk) (f : Int) (hR : ∀ k, ag PP GL XX HH NN (k + 13) 43 [A.c (st e.data), A.c (u c.link.ses)] [] = some ([Res.agg (Pk.cs p), Res.c (ii f)], [])) (hP : ∀ k, ag PP GL XX HH NN (k + 13) 38 [A.agg (Nd.cs c.n0), A.c (st e.data)] [] = some ([Res.agg (Nd.cs x), Res.top 5 (List.map Ou.cs o)], [])) (hA : ∀ k, ag PP GL XX HH NN (k + 13) 44 [A.agg (Cl.cs c), A.c (ii 0), A.agg (Nd.cs x), A.c (C.slice 5 (List.map Ou.cs o))] [] = some ([Res.agg (Cl.cs c2), Res.top 5 (List.map Ou.cs o2)], [])) (k : Nat) : ag PP GL XX HH NN (k + 14) 18 [A.agg (Cl.cs c), A.agg [ii 14, ii 0, ii e.id, ii e.block, st e.data, u e.n, C.slice 1 (List.map eB e.keeps)]] [] = some ([Res.agg (Cl.cs (nR c c2 o2 f).1), Res.top 5 (List.map Ou.cs (nR c c2 o2 f).2)], []) := by
  rcases bft (f == 0) with z0 | z0
  · exact rt (ef4 <| ep (rz 0) <| eg (G.at 0) <| kj <| ef <| et <| ec (hR k) <| eb z0 <| e0) (by simp only [nR, z0, vq] <;> rfl)
  · exact rt (ef4 <| ep (rz 0) <| eg (G.at 0) <| kj <| ef <| et <| ec (hR k) <| eb z0 <| ec (hP k) <| ec (hA k) <| eq1 (List.length (List.map Ou.cs o2)) <| e0) (by simp only [nR, z0, vq] <;> rfl)
theorem xW (c : Cl) (e : Evt) (h1 : (Evt.kind e == 1) = false) (h2 : (Evt.kind e == 2) = false) (h3 : (Evt.kind e == 3) = false) (h4 : (Evt.kind e == 4) = false) (h5 : (Evt.kind e == 5) = false) (h6 : (Evt.kind e == 6) = false) (h7 : (Evt.kind e == 7) = false) (h8 : (Evt.kind e == 8) = false) (h9 : (Evt.kind e == 9) = false) (h10 : (Evt.kind e == 10) = false) (h11 : (Evt.kind e == 11) = false) (h12 : (Evt.kind e == 12) = false) (h13 : (Evt.kind e == 13) = false) (h14 : (Evt.kind e == 14) = false) (k : Nat) : ag PP GL XX HH NN (k + 14) 18 [A.agg (Cl.cs c), A.agg [ii e.kind, ii 0, ii e.id, ii e.block, st e.data, u e.n, C.slice 1 (List.map eB e.keeps)]] [] = some ([Res.agg (Cl.cs c), Res.top 5 []], []) := by
  exact rt (ef4 <| ep (rz 0) <| eg (G.at 0) <| eb h1 <| eb h2 <| eb h3 <| eb h4 <| eb h5 <| eb h6 <| eb h7 <| eb h8 <| eb h9 <| eb h10 <| eb h11 <| eb h12 <| eb h13 <| eb h14 <| e0) rfl
theorem s8 (c : Cl) (e : Evt) (c2 : Cl) (o2 : List Ou) (x : Nd) (o : List Ou) (hP : ∀ k, ag PP GL XX HH NN (k + 13) 30 [A.agg (Nd.cs c.n1), A.c (ii e.id)] [] = some ([Res.agg (Nd.cs x), Res.top 5 (List.map Ou.cs o)], [])) (hA : ∀ k, ag PP GL XX HH NN (k + 13) 44 [A.agg (Cl.cs c), A.c (ii 1), A.agg (Nd.cs x), A.c (C.slice 5 (List.map Ou.cs o))] [] = some ([Res.agg (Cl.cs c2), Res.top 5 (List.map Ou.cs o2)], [])) (k : Nat) : ag PP GL XX HH NN (k + 14) 18 [A.agg (Cl.cs c), A.agg [ii 1, ii 1, ii e.id, ii e.block, st e.data, u e.n, C.slice 1 (List.map eB e.keeps)]] [] = some ([Res.agg (Cl.cs c2), Res.top 5 (List.map Ou.cs o2)], []) := by
  exact rt (et3 <| ef <| ep (rz 1) <| eg (G.at 1) <| et <| ec (hP k) <| ec (hA k) <| eq1 (List.length (List.map Ou.cs o2)) <| e0) rfl
theorem uQ (c : Cl) (e : Evt) (c2 : Cl) (o2 : List Ou) (x : Nd) (o : List Ou) (hP : ∀ k, ag PP GL XX HH NN (k + 13) 31 [A.agg (Nd.cs c.n1), A.c (ii e.id)] [] = some ([Res.agg (Nd.cs x), Res.top 5 (List.map Ou.cs o)], [])) (hA : ∀ k, ag PP GL XX HH NN (k + 13) 44 [A.agg (Cl.cs c), A.c (ii 1), A.agg (Nd.cs x), A.c (C.slice 5 (List.map Ou.cs o))] [] = some ([Res.agg (Cl.cs c2), Res.top 5 (List.map Ou.cs o2)], [])) (k : Nat) : ag PP GL XX HH NN (k + 14) 18 [A.agg (Cl.cs c), A.agg [ii 2, ii 1, ii e.id, ii e.block, st e.data, u e.n, C.slice 1 (List.map eB e.keeps)]] [] = some ([Res.agg (Cl.cs c2), Res.top 5 (List.map Ou.cs o2)], []) := by
  exact rt (et3 <| ef <| ep (rz 1) <| eg (G.at 1) <| ef <| et <| ec (hP k) <| ec (hA k) <| eq1 (List.length (List.map Ou.cs o2)) <| e0) rfl
theorem uj (c : Cl) (e : Evt) (c2 : Cl) (o2 : List Ou) (x : Nd) (o : List Ou) (hP : ∀ k, ag PP GL XX HH NN (k + 13) 32 [A.agg (Nd.cs c.n1), A.c (ii e.id)] [] = some ([Res.agg (Nd.cs x), Res.top 5 (List.map Ou.cs o)], [])) (hA : ∀ k, ag PP GL XX HH NN (k + 13) 44 [A.agg (Cl.cs c), A.c (ii 1), A.agg (Nd.cs x), A.c (C.slice 5 (List.map Ou.cs o))] [] = some ([Res.agg (Cl.cs c2), Res.top 5 (List.map Ou.cs o2)], [])) (k : Nat) : ag PP GL XX HH NN (k + 14) 18 [A.agg (Cl.cs c), A.agg [ii 3, ii 1, ii e.id, ii e.block, st e.data, u e.n, C.slice 1 (List.map eB e.keeps)]] [] = some ([Res.agg (Cl.cs c2), Res.top 5 (List.map Ou.cs o2)], []) := by
  exact rt (et3 <| ef <| ep (rz 1) <| eg (G.at 1) <| ef2 <| et <| ec (hP k) <| ec (hA k) <| eq1 (List.length (List.map Ou.cs o2)) <| e0) rfl
theorem B9 (c : Cl) (e : Evt) (c2 : Cl) (o2 : List Ou) (x : Nd) (o : List Ou) (hP : ∀ k, ag PP GL XX HH NN (k + 13) 33 [A.agg (Nd.cs c.n1), A.c (ii e.id), A.c (ii e.block)] [] = some ([Res.agg (Nd.cs x), Res.top 5 (List.map Ou.cs o)], [])) (hA : ∀ k, ag PP GL XX HH NN (k + 13) 44 [A.agg (Cl.cs c), A.c (ii 1), A.agg (Nd.cs x), A.c (C.slice 5 (List.map Ou.cs o))] [] = some ([Res.agg (Cl.cs c2), Res.top 5 (List.map Ou.cs o2)], [])) (k : Nat) : ag PP GL XX HH NN (k + 14) 18 [A.agg (Cl.cs c), A.agg [ii 4, ii 1, ii e.id, ii e.block, st e.data, u e.n, C.slice 1 (List.map eB e.keeps)]] [] = some ([Res.agg (Cl.cs c2), Res.top 5 (List.map Ou.cs o2)], []) := by
  exact rt (et3 <| ef <| ep (rz 1) <| eg (G.at 1) <| ef3 <| et <| ec (hP k) <| ec (hA k) <| eq1 (List.length (List.map Ou.cs o2)) <| e0) rfl
theorem x8 (c : Cl) (e : Evt) (c2 : Cl) (o2 : List Ou) (x : Nd) (o : List Ou) (hP : ∀ k, ag PP GL XX HH NN (k + 13) 34 [A.agg (Nd.cs c.n1), A.c (ii e.id), A.c (ii e.block), A.c (st e.data)] [] = some ([Res.agg (Nd.cs x), Res.top 5 (List.map Ou.cs o)], [])) (hA : ∀ k, ag PP GL XX HH NN (k + 13) 44 [A.agg (Cl.cs c), A.c (ii 1), A.agg (Nd.cs x), A.c (C.slice 5 (List.map Ou.cs o))] [] = some ([Res.agg (Cl.cs c2), Res.top 5 (List.map Ou.cs o2)], [])) (k : Nat) : ag PP GL XX HH NN (k + 14) 18 [A.agg (Cl.cs c), A.agg [ii 5, ii 1, ii e.id, ii e.block, st e.data, u e.n, C.slice 1 (List.map eB e.keeps)]] [] = some ([Res.agg (Cl.cs c2), Res.top 5 (List.map Ou.cs o2)], []) := by
  exact rt (et3 <| ef <| ep (rz 1) <| eg (G.at 1) <| ef4 <| et <| ec (hP k) <| ec (hA k) <| eq1 (List.length (List.map Ou.cs o2)) <| e0) rfl
theorem um (c : Cl) (e : Evt) (c2 : Cl) (o2 : List Ou) (hC : ∀ k, ag PP GL XX HH NN (k + 13) 35 [A.agg (Cl.cs c), A.c (ii 1)] [] = some ([Res.agg (Cl.cs c2), Res.top 5 (List.map Ou.cs o2)], [])) (k : Nat) : ag PP GL XX HH NN (k + 14) 18 [A.agg (Cl.cs c), A.agg [ii 6, ii 1, ii e.id, ii e.block, st e.data, u e.n, C.slice 1 (List.map eB e.keeps)]] [] = some ([Res.agg (Cl.cs c2), Res.top 5 (List.map Ou.cs o2)], []) := by
  exact rt (et3 <| ef <| ep (rz 1) <| eg (G.at 1) <| ef5 <| et <| ec (hC k) <| eq1 (List.length (List.map Ou.cs o2)) <| e0) rfl
def qi (c c2 : Cl) (o2 : List Ou) : Cl × List Ou := bif !c.link.up then (c, []) else (c2, o2)
theorem od (c : Cl) (e : Evt) (c2 : Cl) (o2 : List Ou) (hE : ∀ k, ag PP GL XX HH NN (k + 13) 36 [A.agg (Cl.cs ({ c with w1 := false } : Cl)), A.nil] [] = some ([Res.agg (Cl.cs c2), Res.top 5 (List.map Ou.cs o2)], [])) (k : Nat) : ag PP GL XX HH NN (k + 14) 18 [A.agg (Cl.cs c), A.agg [ii 7, ii 1, ii e.id, ii e.block, st e.data, u e.n, C.slice 1 (List.map eB e.keeps)]] [] = some ([Res.agg (Cl.cs (qi ({ c with w1 := false } : Cl) c2 o2).1), Res.top 5 (List.map Ou.cs (qi ({ c with w1 := false } : Cl) c2 o2).2)], []) := by
  rcases bft c.link.up with z0 | z0
  · exact rt (et3 <| ef <| ep (rz 1) <| eg (G.at 1) <| ef6 <| et3 <| ep (rz 1) <| eg (G.at 1) <| en z0 <| ec (hE k) <| eq1 (List.length (List.map Ou.cs o2)) <| e0) (by simp only [qi, z0, vq] <;> rfl)
  · exact rt (et3 <| ef <| ep (rz 1) <| eg (G.at 1) <| ef6 <| et3 <| ep (rz 1) <| eg (G.at 1) <| en z0 <| e0) (by simp only [qi, z0, vq] <;> rfl)
theorem Cb (c : Cl) (e : Evt) (c2 : Cl) (o2 : List Ou) (hE : ∀ k, ag PP GL XX HH NN (k + 13) 36 [A.agg (Cl.cs c), A.nil] [] = some ([Res.agg (Cl.cs c2), Res.top 5 (List.map Ou.cs o2)], [])) (k : Nat) : ag PP GL XX HH NN (k + 14) 18 [A.agg (Cl.cs c), A.agg [ii 8, ii 1, ii e.id, ii e.block, st e.data, u e.n, C.slice 1 (List.map eB e.keeps)]] [] = some ([Res.agg (Cl.cs (qi c c2 o2).1), Res.top 5 (List.map Ou.cs (qi c c2 o2).2)], []) := by
  rcases bft c.link.up with z0 | z0
  · exact rt (et3 <| ef <| ep (rz 1) <| eg (G.at 1) <| ef7 <| et <| ef <| en z0 <| ec (hE k) <| eq1 (List.length (List.map Ou.cs o2)) <| e0) (by simp only [qi, z0, vq] <;> rfl)
  · exact rt (et3 <| ef <| ep (rz 1) <| eg (G.at 1) <| ef7 <| et <| ef <| en z0 <| e0) (by simp only [qi, z0, vq] <;> rfl)
def r8 (c c2 : Cl) (o2 : List Ou) (q : Bool) : Cl × List Ou := bif !q then (c, []) else (c2, o2)
theorem tE (c : Cl) (e : Evt) (c2 : Cl) (o2 : List Ou) (x : Nd) (o : List Ou) (b : ByteArray) (l : Lk) (q : Bool) (hT : ∀ k, ag PP GL XX HH NN (k + 13) 37 [A.agg (Lk.cs c.link), A.c (ii 1)] [] = some ([Res.c (st b), Res.agg (Lk.cs l), Res.c (bo q)], [])) (hP : ∀ k, ag PP GL XX HH NN (k + 13) 38 [A.agg (Nd.cs c.n1), A.c (st b)] [] = some ([Res.agg (Nd.cs x), Res.top 5 (List.map Ou.cs o)], [])) (hA : ∀ k, ag PP GL XX HH NN (k + 13) 44 [A.agg (Cl.cs ({ c with link := l } : Cl)), A.c (ii 1), A.agg (Nd.cs x), A.c (C.slice 5 (List.map Ou.cs o))] [] = some ([Res.agg (Cl.cs c2), Res.top 5 (List.map Ou.cs o2)], [])) (k : Nat) : ag PP GL XX HH NN (k + 14) 18 [A.agg (Cl.cs c), A.agg [ii 9, ii 1, ii e.id, ii e.block, st e.data, u e.n, C.slice 1 (List.map eB e.keeps)]] [] = some ([Res.agg (Cl.cs (r8 c c2 o2 q).1), Res.top 5 (List.map Ou.cs (r8 c c2 o2 q).2)], []) := by
  rcases bft (q) with z0 | z0
  · exact rt (et3 <| ef <| ep (rz 1) <| eg (G.at 1) <| ef8 <| et <| ec (hT k) <| en z0 <| ec (hP k) <| ec (hA k) <| eq1 (List.length (List.map Ou.cs o2)) <| e0) (by simp only [r8, z0, vq] <;> rfl)
  · exact rt (et3 <| ef <| ep (rz 1) <| eg (G.at 1) <| ef8 <| et <| ec (hT k) <| en z0 <| e0) (by simp only [r8, z0, vq] <;> rfl)
def oE (c c2 : Cl) (o2 : List Ou) : Cl × List Ou := bif !c.n1.up then (c, []) else (c2, o2)
theorem yW (c : Cl) (e : Evt) (c2 : Cl) (o2 : List Ou) (hA : ∀ k, ag PP GL XX HH NN (k + 13) 44 [A.agg (Cl.cs c), A.c (ii 1), A.agg (Nd.cs (fQ c.n1)), A.c (C.slice 5 [])] [] = some ([Res.agg (Cl.cs c2), Res.top 5 (List.map Ou.cs o2)], [])) (k : Nat) : ag PP GL XX HH NN (k + 14) 18 [A.agg (Cl.cs c), A.agg [ii 10, ii 1, ii e.id, ii e.block, st e.data, u e.n, C.slice 1 (List.map eB e.keeps)]] [] = some ([Res.agg (Cl.cs (oE c c2 o2).1), Res.top 5 (List.map Ou.cs (oE c c2 o2).2)], []) := by
  rcases bft c.n1.up with z0 | z0
  · exact rt (et3 <| ef <| ep (rz 1) <| eg (G.at 1) <| ef9 <| et <| en z0 <| ec (r3 c.n1 (k + 11)) <| ec (hA k) <| eq1 (List.length (List.map Ou.cs o2)) <| e0) (by simp only [oE, z0, vq] <;> rfl)
  · exact rt (et3 <| ef <| ep (rz 1) <| eg (G.at 1) <| ef9 <| et <| en z0 <| e0) (by simp only [oE, z0, vq] <;> rfl)
theorem ug (c : Cl) (e : Evt) (x : Nd) (f : Int) (hP : ∀ k, ag PP GL XX HH NN (k + 13) 40 [A.agg (Nd.cs c.n1), A.c (C.slice 1 (List.map eB e.keeps))] [] = some ([Res.agg (Nd.cs x), Res.c (ii f)], [])) (k : Nat) : ag PP GL XX HH NN (k + 14) 18 [A.agg (Cl.cs c), A.agg [ii 11, ii 1, ii e.id, ii e.block, st e.data, u e.n, C.slice 1 (List.map eB e.keeps)]] [] = some ([Res.agg (Cl.cs ({ c with n1 := x } : Cl)), Res.top 5 (List.map Ou.cs [ae x e.id f ⟨#[]⟩])], []) := by
  exact rt (et3 <| ef <| ep (rz 1) <| eg (G.at 1) <| zZ <| et <| ec (hP k) <| ep (rz 1) <| eg (G.at 1) <| ec (br x e.id f ⟨#[]⟩ (k + 12)) <| e0) rfl
theorem yy (c : Cl) (e : Evt) (c2 : Cl) (o2 : List Ou) (hu : Nd.up c.n1 = true) (hA : ∀ k, ag PP GL XX HH NN (k + 13) 44 [A.agg (Cl.cs c), A.c (ii 1), A.agg (Nd.cs (pq c.n1 e.n)), A.c (C.slice 5 [])] [] = some ([Res.agg (Cl.cs c2), Res.top 5 (List.map Ou.cs o2)], [])) (k : Nat) : ag PP GL XX HH NN (k + 14) 18 [A.agg (Cl.cs c), A.agg [ii 12, ii 1, ii e.id, ii e.block, st e.data, u e.n, C.slice 1 (List.map eB e.keeps)]] [] = some ([Res.agg (Cl.cs c2), Res.top 5 (List.map Ou.cs o2)], []) := by
  exact rt (et3 <| ef <| ep (rz 1) <| eg (G.at 1) <| qu <| et <| eb hu <| ec (GX c.n1.store.disk (IntKind.wrap .i64 (if 1000 < Evt.n e then 1000 else Evt.n e)) (k + 12)) <| ec (hA k) <| eq1 (List.length (List.map Ou.cs o2)) <| e0) rfl
theorem xV (c : Cl) (e : Evt) (c2 : Cl) (o2 : List Ou) (hu : Nd.up c.n1 = false) (hA : ∀ k, ag PP GL XX HH NN (k + 13) 44 [A.agg (Cl.cs c), A.c (ii 1), A.agg (Nd.cs c.n1), A.c (C.slice 5 [])] [] = some ([Res.agg (Cl.cs c2), Res.top 5 (List.map Ou.cs o2)], [])) (k : Nat) : ag PP GL XX HH NN (k + 14) 18 [A.agg (Cl.cs c), A.agg [ii 12, ii 1, ii e.id, ii e.block, st e.data, u e.n, C.slice 1 (List.map eB e.keeps)]] [] = some ([Res.agg (Cl.cs c2), Res.top 5 (List.map Ou.cs o2)], []) := by
  exact rt (et3 <| ef <| ep (rz 1) <| eg (G.at 1) <| qu <| et <| eb hu <| ec (hA k) <| eq1 (List.length (List.map Ou.cs o2)) <| e0) rfl
theorem yv (c : Cl) (e : Evt) (hr : c.n1.draws.length ≤ 1000000) (hd : decide ((↑(c.n1.draws.length) : Int) < 1000) = true) (k : Nat) : ag PP GL XX HH NN (k + 14) 18 [A.agg (Cl.cs c), A.agg [ii 13, ii 1, ii e.id, ii e.block, st e.data, u e.n, C.slice 1 (List.map eB e.keeps)]] [] = some ([Res.agg (Cl.cs ({ c with n1 := drawn c.n1 e.n } : Cl)), Res.top 5 []], []) := by
  exact rt (et3 <| ef <| ep (rz 1) <| eg (G.at 1) <| kj <| et <| ep (af (eU) c.n1.draws) <| eg (G.len (c.n1.draws.length)) <| eb hd <| ep (bq (List.map eU c.n1.draws)) <| ep (ar (eU) (l := Nd.draws c.n1) (n := 1073741824) (by omega)) <| eg (G.app (List.map eU c.n1.draws)) <| ep (a9 (eU) c.n1.draws ([Evt.n e])) <| ep (ar (eU) (l := Nd.draws c.n1 ++ [Evt.n e]) (n := 1073741824) (by simp only [vr]; omega)) <| ep (Eq.refl (List.length (List.map eU c.n1.draws))) <| eg (G.app (List.map eU (Nd.draws c.n1 ++ [Evt.n e]))) <| ep (rz 1) <| eg (G.at 1) <| e0) rfl
theorem yZ (c : Cl) (e : Evt) (hd : decide ((↑(c.n1.draws.length) : Int) < 1000) = false) (k : Nat) : ag PP GL XX HH NN (k + 14) 18 [A.agg (Cl.cs c), A.agg [ii 13, ii 1, ii e.id, ii e.block, st e.data, u e.n, C.slice 1 (List.map eB e.keeps)]] [] = some ([Res.agg (Cl.cs c), Res.top 5 []], []) := by
  exact rt (et3 <| ef <| ep (rz 1) <| eg (G.at 1) <| kj <| et <| ep (af (eU) c.n1.draws) <| eg (G.len (c.n1.draws.length)) <| eb hd <| ep (rz 1) <| eg (G.at 1) <| e0) rfl
def nZ (c c2 : Cl) (o2 : List Ou) (f : Int) : Cl × List Ou := bif f == 0 then (c, []) else (c2, o2)
theorem zl (c : Cl) (e : Evt) (c2 : Cl) (o2 : List Ou) (x : Nd) (o : List Ou) (p : Pk) (f : Int) (hR : ∀ k, ag PP GL XX HH NN (k + 13) 43 [A.c (st e.data), A.c (u c.link.ses)] [] = some ([Res.agg (Pk.cs p), Res.c (ii f)], [])) (hP : ∀ k, ag PP GL XX HH NN (k + 13) 38 [A.agg (Nd.cs c.n1), A.c (st e.data)] [] = some ([Res.agg (Nd.cs x), Res.top 5 (List.map Ou.cs o)], [])) (hA : ∀ k, ag PP GL XX HH NN (k + 13) 44 [A.agg (Cl.cs c), A.c (ii 1), A.agg (Nd.cs x), A.c (C.slice 5 (List.map Ou.cs o))] [] = some ([Res.agg (Cl.cs c2), Res.top 5 (List.map Ou.cs o2)], [])) (k : Nat) : ag PP GL XX HH NN (k + 14) 18 [A.agg (Cl.cs c), A.agg [ii 14, ii 1, ii e.id, ii e.block, st e.data, u e.n, C.slice 1 (List.map eB e.keeps)]] [] = some ([Res.agg (Cl.cs (nZ c c2 o2 f).1), Res.top 5 (List.map Ou.cs (nZ c c2 o2 f).2)], []) := by
  rcases bft (f == 0) with z0 | z0
  · exact rt (et3 <| ef <| ep (rz 1) <| eg (G.at 1) <| kj <| ef <| et <| ec (hR k) <| eb z0 <| e0) (by simp only [nZ, z0, vq] <;> rfl)
  · exact rt (et3 <| ef <| ep (rz 1) <| eg (G.at 1) <| kj <| ef <| et <| ec (hR k) <| eb z0 <| ec (hP k) <| ec (hA k) <| eq1 (List.length (List.map Ou.cs o2)) <| e0) (by simp only [nZ, z0, vq] <;> rfl)
theorem yk (c : Cl) (e : Evt) (h1 : (Evt.kind e == 1) = false) (h2 : (Evt.kind e == 2) = false) (h3 : (Evt.kind e == 3) = false) (h4 : (Evt.kind e == 4) = false) (h5 : (Evt.kind e == 5) = false) (h6 : (Evt.kind e == 6) = false) (h7 : (Evt.kind e == 7) = false) (h8 : (Evt.kind e == 8) = false) (h9 : (Evt.kind e == 9) = false) (h10 : (Evt.kind e == 10) = false) (h11 : (Evt.kind e == 11) = false) (h12 : (Evt.kind e == 12) = false) (h13 : (Evt.kind e == 13) = false) (h14 : (Evt.kind e == 14) = false) (k : Nat) : ag PP GL XX HH NN (k + 14) 18 [A.agg (Cl.cs c), A.agg [ii e.kind, ii 1, ii e.id, ii e.block, st e.data, u e.n, C.slice 1 (List.map eB e.keeps)]] [] = some ([Res.agg (Cl.cs c), Res.top 5 []], []) := by
  exact rt (et3 <| ef <| ep (rz 1) <| eg (G.at 1) <| eb h1 <| eb h2 <| eb h3 <| eb h4 <| eb h5 <| eb h6 <| eb h7 <| eb h8 <| eb h9 <| eb h10 <| eb h11 <| eb h12 <| eb h13 <| eb h14 <| e0) rfl
end Go.Dm
namespace Go.Dm
open Go
set_option maxHeartbeats 1000000
abbrev Rc (x : Cl × List Ou) : List Res × List (List C) := ([.agg x.1.cs, .top 5 (x.2.map Ou.cs)], [])
theorem NdB.sure {N a m : Nat} {n : Nd} (h : NdB N a m n) : n.store.disk.sure.length = N := h.1.1
theorem NdB.draws {N a m : Nat} {n : Nd} (h : NdB N a m n) : n.draws.length ≤ m := by have := h.2.2; omega
theorem NdB.mints {N a m : Nat} {n : Nd} (h : NdB N a m n) : n.mints.length ≤ m := by have := h.2.2; omega
theorem yK.cacheIn {N : Nat} {d : Dk} (h : yK N d) : ri d := fun w hw => by
  have := h.2.2 w hw
  exact ⟨this.1, by rw [h.1]; exact this.2.1⟩
theorem ph {N a m : Nat} (n : Nd) (ks : List Bool) (h : NdB N a m n) (hN : 0 < N) (hN2 : N ≤ 1000) (ha : a ≤ 870) (k : Nat) : ag PP GL XX HH NN (k + 9) 40 [.agg n.cs, .c (.slice 1 (ks.map eB))] [] = some ([.agg (bF n ks).1.cs, .c (ii (bF n ks).2)], []) := by
  have h0 := h.1.1
  have h1 := (jk n.store.disk ks).1 N h.1
  have h2 := h.2.1
  exact zm n ks (bV n.store.disk ks) (by rw [h1.1]; omega) (Nat.zero_le _) (Nat.le_trans (fT h1 0) (by decide)) (Nat.le_trans (fT h1 1) (by decide)) (fun k => Bz n.store.disk ks h.1.cacheIn (by omega) (by omega) (by omega) (k + 6)) k
theorem mH {N a m : Nat} (n : Nd) (h : NdB N a m n) (hN : 0 < N) (hN2 : N ≤ 1000) (ha : a ≤ 870) (k : Nat) : ag PP GL XX HH NN (k + 9) 40 [.agg n.cs, .nil] [] = some ([.agg (bF n []).1.cs, .c (ii (bF n []).2)], []) := by
  have h0 := h.1.1
  have h1 := (jk n.store.disk []).1 N h.1
  exact xR n (bV n.store.disk []) (by rw [h1.1]; omega) (Nat.zero_le _) (Nat.le_trans (fT h1 0) (by decide)) (Nat.le_trans (fT h1 1) (by decide)) (fun k => BG n.store.disk (by omega) (by omega) (k + 6)) k
theorem EK {N a m s : Nat} (c : Cl) (h : ClB N a m s c) (hN2 : N ≤ 1000) (ha : a ≤ 870) (hm : m ≤ 100000) (k : Nat) : ag PP GL XX HH NN (k + 11) 36 [.agg c.cs, .nil] [] = some (Rc (ez c)) := by
  have a0 := h.n0.sure
  have a1 := h.n1.sure
  have b0 := h.n0.2.1
  have b1 := h.n1.2.1
  have d0 := h.n0.draws
  have d1 := h.n1.draws
  have e0 := h.n0.mints
  have e1 := h.n1.mints
  exact CG c (by omega) (by omega) (by omega) (by omega) (by omega) (by omega) (by omega) (by omega) k
theorem cr {N a m s : Nat} (c : Cl) (n : Nd) (l : List Ou) (h : ClB N a m s c) (hn : NdB N a m n) (hl : ay 3 l) (hN2 : N ≤ 1000) (ha : a ≤ 870) (hm : m ≤ 100000) (hs : s ≤ 100000) (k : Nat) : ag PP GL XX HH NN (k + 12) 44 [.agg c.cs, .c (ii 0), .agg n.cs, .c (.slice 5 (l.map Ou.cs))] [] = some (Rc (bB c 0 n l)) := by
  have a0 := hn.sure
  have a1 := h.n1.sure
  have b0 := hn.2.1
  have b1 := h.n1.2.1
  have d0 := hn.draws
  have d1 := h.n1.draws
  have e0 := hn.mints
  have e1 := h.n1.mints
  have f0 := h.link.1
  have f1 := h.link.2.1
  have g := hl.1
  have g2 := nO l
  have := BU c n l { aW c 0 n with link := cT 0 c.link l } (bi l) (cP l) (by omega) (show n.draws.length ≤ 1000000 by omega) (show n.mints.length ≤ 1000000 by omega) (show n.store.disk.sure.length ≤ 1000000 by omega) (show n.store.disk.cache.length ≤ 880 by omega) (show c.n1.draws.length ≤ 1000000 by omega) (show c.n1.mints.length ≤ 1000000 by omega) (show c.n1.store.disk.sure.length ≤ 1000000 by omega) (show c.n1.store.disk.cache.length ≤ 880 by omega) (fun k => La0 c n l (by omega) (by omega) (by omega) k) k
  rw [qm] at this
  exact this
theorem cp {N a m s : Nat} (c : Cl) (n : Nd) (l : List Ou) (h : ClB N a m s c) (hn : NdB N a m n) (hl : ay 3 l) (hN2 : N ≤ 1000) (ha : a ≤ 870) (hm : m ≤ 100000) (hs : s ≤ 100000) (k : Nat) : ag PP GL XX HH NN (k + 12) 44 [.agg c.cs, .c (ii 1), .agg n.cs, .c (.slice 5 (l.map Ou.cs))] [] = some (Rc (bB c 1 n l)) := by
  have a0 := hn.sure
  have a1 := h.n0.sure
  have b0 := hn.2.1
  have b1 := h.n0.2.1
  have d0 := hn.draws
  have d1 := h.n0.draws
  have e0 := hn.mints
  have e1 := h.n0.mints
  have f0 := h.link.1
  have f1 := h.link.2.1
  have g := hl.1
  have g2 := nO l
  have := Cf c n l { aW c 1 n with link := cT 1 c.link l } (bi l) (cP l) (by omega) (show c.n0.draws.length ≤ 1000000 by omega) (show c.n0.mints.length ≤ 1000000 by omega) (show c.n0.store.disk.sure.length ≤ 1000000 by omega) (show c.n0.store.disk.cache.length ≤ 880 by omega) (show n.draws.length ≤ 1000000 by omega) (show n.mints.length ≤ 1000000 by omega) (show n.store.disk.sure.length ≤ 1000000 by omega) (show n.store.disk.cache.length ≤ 880 by omega) (fun k => La1 c n l (by omega) (by omega) (by omega) k) k
  rw [qm] at this
  exact this
theorem qR {N a m s : Nat} (c : Cl) (h : ClB N a m s c) (hN2 : N ≤ 1000) (ha : a ≤ 860) (hm : m ≤ 90000) (hs : s ≤ 90000) (k : Nat) : ag PP GL XX HH NN (k + 13) 35 [.agg c.cs, .c (ii 0)] [] = some (Rc (dk c 0)) := by
  have h0 := rn h 0
  have h1 := nr h0
  have h2 := oI h1.1
  have l1 := h1.2.1
  have l2 := h2.2.1
  exact vE c (dQ { aB c 0 true with link := b6 c.link }).1 (f9 (dQ { aB c 0 true with link := b6 c.link }).1).1 (dQ { aB c 0 true with link := b6 c.link }).2 (f9 (dQ { aB c 0 true with link := b6 c.link }).1).2 (by omega) (fun k => cr { aB c 0 true with link := b6 c.link } _ _ h0 (fo h.n0 _) (eG _ _).2 hN2 (by omega) (by omega) (by omega) k) (fun k => cp _ _ _ h1.1 (fo h1.1.n1 _) (eG _ _).2 hN2 (by omega) (by omega) (by omega) k) k
set_option maxRecDepth 100000 in
theorem DY {N a m s : Nat} (c : Cl) (h : ClB N a m s c) (hN : 0 < N) (hN2 : N ≤ 1000) (ha : a ≤ 860) (hm : m ≤ 90000) (hs : s ≤ 90000) (kind id block g : Int) (data : ByteArray) (keeps : List Bool) (hd : data.size ≤ 300) (k : Nat) : ag PP GL XX HH NN (k + 14) 18 [.agg c.cs, .agg (Evt.mk kind 0 id block data g keeps).cs] [] = some (Rc (rV c ⟨kind, 0, id, block, data, g, keeps⟩ 0 c.n0)) := by
  have hn := h.n0
  have h3 := h.le (show a ≤ a + 3 by omega) (Nat.le_refl m) (Nat.le_refl s)
  have a0 := hn.sure
  have b0 := hn.2.1
  have d0 := hn.draws
  have e0 := hn.mints
  by_cases k1 : kind = 1
  · subst k1
    have hr := iu c.n0 id
    exact tT c ⟨1, 0, id, block, data, g, keeps⟩ _ _ _ _ (fun k => pd c.n0 id (by omega) (by omega) (k + 3)) (fun k => cr c _ _ h3 (hn.nw hr.1) hr.2 hN2 (by omega) (by omega) (by omega) (k + 1)) k
  by_cases k2 : kind = 2
  · subst k2
    have hr := jB c.n0 id
    exact wx c ⟨2, 0, id, block, data, g, keeps⟩ _ _ _ _ (fun k => sn c.n0 id (by omega) (by omega) (k + 3)) (fun k => cr c _ _ h3 (hn.nw hr.1) hr.2 hN2 (by omega) (by omega) (by omega) (k + 1)) k
  by_cases k3 : kind = 3
  · subst k3
    have hr := iC c.n0 id
    exact tl c ⟨3, 0, id, block, data, g, keeps⟩ _ _ _ _ (fun k => oY c.n0 id (by omega) (by omega) (k + 3)) (fun k => cr c _ _ h3 (hn.nw hr.1) hr.2 hN2 (by omega) (by omega) (by omega) (k + 1)) k
  by_cases k4 : kind = 4
  · subst k4
    have hr := l8 c.n0 id block
    exact Cc c ⟨4, 0, id, block, data, g, keeps⟩ _ _ _ _ (fun k => vR c.n0 id block (by omega) (k + 7)) (fun k => cr c _ _ h3 (hn.nw hr.1) hr.2 hN2 (by omega) (by omega) (by omega) (k + 1)) k
  by_cases k5 : kind = 5
  · subst k5
    have hr := lU c.n0 id block data
    exact zL c ⟨5, 0, id, block, data, g, keeps⟩ _ _ _ _ (fun k => xt c.n0 id block data (by omega) (by omega) (by omega) (by omega) (by omega) (k + 3)) (fun k => cr c _ _ h3 (hn.nw hr.1) hr.2 hN2 (by omega) (by omega) (by omega) (k + 1)) k
  by_cases k6 : kind = 6
  · subst k6
    exact uo c ⟨6, 0, id, block, data, g, keeps⟩ _ _ (fun k => qR c h hN2 ha hm hs k) k
  by_cases k7 : kind = 7
  · subst k7
    exact nW c ⟨7, 0, id, block, data, g, keeps⟩ _ _ (fun k => EK (aB c 0 false) (fA h 0 false) hN2 (by omega) (by omega) (k + 2)) k
  by_cases k8 : kind = 8
  · subst k8
    exact B7 c ⟨8, 0, id, block, data, g, keeps⟩ _ _ (fun k => EK c h hN2 (by omega) (by omega) (k + 2)) k
  by_cases k9 : kind = 9
  · subst k9
    have ht := rg h.link 0
    have f0 := h.link.1
    have f1 := h.link.2.1
    have hr := dH c.n0 (df c.link 0).1
    exact tX c ⟨9, 0, id, block, data, g, keeps⟩ _ _ _ _ _ _ _ (fun k => wY c.link 0 (by omega) (by omega) (k + 11)) (fun k => iL c.n0 _ (Nat.le_trans ht.2 (by decide)) (by omega) (by omega) k) (fun k => cr { c with link := (df c.link 0).2.1 } _ _ ⟨h3.n0, h3.n1, ht.1⟩ (hn.nw hr.1) hr.2 hN2 (by omega) (by omega) (by omega) (k + 1)) k
  by_cases k10 : kind = 10
  · subst k10
    exact yF c ⟨10, 0, id, block, data, g, keeps⟩ _ _ (fun k => cr c _ [] h3 (hn.nw (Nw.down (a := 3) (Nw.refl _ _))) (ay.nil _) hN2 (by omega) (by omega) (by omega) (k + 1)) k
  by_cases k11 : kind = 11
  · subst k11
    exact ti c ⟨11, 0, id, block, data, g, keeps⟩ _ _ (fun k => ph c.n0 keeps hn hN hN2 (by omega) (k + 4)) k
  by_cases k12 : kind = 12
  · subst k12
    cases hu : c.n0.up with
    | true =>
      have := xU c ⟨12, 0, id, block, data, g, keeps⟩ _ _ hu (fun k => cr c (pq c.n0 g) [] h3 (hn.nw (b := 3) ⟨(wq _ _).le (by omega), Nat.le_refl _, rfl⟩) (ay.nil _) hN2 (by omega) (by omega) (by omega) (k + 1)) k
      have e : dq c.n0 g = pq c.n0 g := by simp only [dq, pq, hu, cond_true]
      show _ = some (Rc (bB c 0 (dq c.n0 g) []))
      rw [e]
      exact this
    | false =>
      have := zF c ⟨12, 0, id, block, data, g, keeps⟩ _ _ hu (fun k => cr c c.n0 [] h3 (hn.nw (b := 3) (Nw.refl _ _)) (ay.nil _) hN2 (by omega) (by omega) (by omega) (k + 1)) k
      have e : dq c.n0 g = c.n0 := by unfold dq; rw [hu]; rfl
      show _ = some (Rc (bB c 0 (dq c.n0 g) []))
      rw [e]
      exact this
  by_cases k13 : kind = 13
  · subst k13
    show _ = some (Rc (aW c 0 (fg c.n0 g), []))
    cases hq : decide ((c.n0.draws.length : Int) < 1000) with
    | true =>
      have e : aW c 0 (fg c.n0 g) = Cl.mk (drawn c.n0 g) c.n1 c.link c.w0 c.w1 := by
        have e1 : fg c.n0 g = drawn c.n0 g := by unfold fg; rw [hq]; rfl
        rw [e1]; rfl
      rw [e]
      exact zd c ⟨13, 0, id, block, data, g, keeps⟩ (by omega) hq k
    | false =>
      have e : aW c 0 (fg c.n0 g) = c := by
        have e1 : fg c.n0 g = c.n0 := by unfold fg; rw [hq]; rfl
        rw [e1]; rfl
      rw [e]
      exact ym c ⟨13, 0, id, block, data, g, keeps⟩ hq k
  by_cases k14 : kind = 14
  · subst k14
    have hr := dH c.n0 data
    exact zE c ⟨14, 0, id, block, data, g, keeps⟩ _ _ _ _ _ _ (fun k => cg data c.link.ses (by omega) (k + 4)) (fun k => iL c.n0 data (by omega) (by omega) (by omega) k) (fun k => cr c _ _ h3 (hn.nw hr.1) hr.2 hN2 (by omega) (by omega) (by omega) (k + 1)) k
  have hk : ∀ j : Int, kind ≠ j → (kind == j) = false := fun j hj => beq_false_of_ne hj
  have e : rV c ⟨kind, 0, id, block, data, g, keeps⟩ 0 c.n0 = (c, []) := by
    unfold rV
    simp only [hk _ k1, hk _ k2, hk _ k3, hk _ k4, hk _ k5, hk _ k6, hk _ k7, hk _ k8, hk _ k9, hk _ k10, hk _ k11, hk _ k12, hk _ k13, hk _ k14, cond_false]
  rw [e]
  exact xW c ⟨kind, 0, id, block, data, g, keeps⟩ (hk _ k1) (hk _ k2) (hk _ k3) (hk _ k4) (hk _ k5) (hk _ k6) (hk _ k7) (hk _ k8) (hk _ k9) (hk _ k10) (hk _ k11) (hk _ k12) (hk _ k13) (hk _ k14) k
theorem qA {N a m s : Nat} (c : Cl) (h : ClB N a m s c) (hN2 : N ≤ 1000) (ha : a ≤ 860) (hm : m ≤ 90000) (hs : s ≤ 90000) (k : Nat) : ag PP GL XX HH NN (k + 13) 35 [.agg c.cs, .c (ii 1)] [] = some (Rc (dk c 1)) := by
  have h0 := rn h 1
  have h1 := nr h0
  have h2 := oI h1.1
  have l1 := h1.2.1
  have l2 := h2.2.1
  exact vT c (dQ { aB c 1 true with link := b6 c.link }).1 (f9 (dQ { aB c 1 true with link := b6 c.link }).1).1 (dQ { aB c 1 true with link := b6 c.link }).2 (f9 (dQ { aB c 1 true with link := b6 c.link }).1).2 (by omega) (fun k => cr { aB c 1 true with link := b6 c.link } _ _ h0 (fo h.n0 _) (eG _ _).2 hN2 (by omega) (by omega) (by omega) k) (fun k => cp _ _ _ h1.1 (fo h1.1.n1 _) (eG _ _).2 hN2 (by omega) (by omega) (by omega) k) k
set_option maxRecDepth 100000 in
theorem EF {N a m s : Nat} (c : Cl) (h : ClB N a m s c) (hN : 0 < N) (hN2 : N ≤ 1000) (ha : a ≤ 860) (hm : m ≤ 90000) (hs : s ≤ 90000) (kind id block g : Int) (data : ByteArray) (keeps : List Bool) (hd : data.size ≤ 300) (k : Nat) : ag PP GL XX HH NN (k + 14) 18 [.agg c.cs, .agg (Evt.mk kind 1 id block data g keeps).cs] [] = some (Rc (rV c ⟨kind, 1, id, block, data, g, keeps⟩ 1 c.n1)) := by
  have hn := h.n1
  have h3 := h.le (show a ≤ a + 3 by omega) (Nat.le_refl m) (Nat.le_refl s)
  have a0 := hn.sure
  have b0 := hn.2.1
  have d0 := hn.draws
  have e0 := hn.mints
  by_cases k1 : kind = 1
  · subst k1
    have hr := iu c.n1 id
    exact s8 c ⟨1, 1, id, block, data, g, keeps⟩ _ _ _ _ (fun k => pd c.n1 id (by omega) (by omega) (k + 3)) (fun k => cp c _ _ h3 (hn.nw hr.1) hr.2 hN2 (by omega) (by omega) (by omega) (k + 1)) k
  by_cases k2 : kind = 2
  · subst k2
    have hr := jB c.n1 id
    exact uQ c ⟨2, 1, id, block, data, g, keeps⟩ _ _ _ _ (fun k => sn c.n1 id (by omega) (by omega) (k + 3)) (fun k => cp c _ _ h3 (hn.nw hr.1) hr.2 hN2 (by omega) (by omega) (by omega) (k + 1)) k
  by_cases k3 : kind = 3
  · subst k3
    have hr := iC c.n1 id
    exact uj c ⟨3, 1, id, block, data, g, keeps⟩ _ _ _ _ (fun k => oY c.n1 id (by omega) (by omega) (k + 3)) (fun k => cp c _ _ h3 (hn.nw hr.1) hr.2 hN2 (by omega) (by omega) (by omega) (k + 1)) k
  by_cases k4 : kind = 4
  · subst k4
    have hr := l8 c.n1 id block
    exact B9 c ⟨4, 1, id, block, data, g, keeps⟩ _ _ _ _ (fun k => vR c.n1 id block (by omega) (k + 7)) (fun k => cp c _ _ h3 (hn.nw hr.1) hr.2 hN2 (by omega) (by omega) (by omega) (k + 1)) k
  by_cases k5 : kind = 5
  · subst k5
    have hr := lU c.n1 id block data
    exact x8 c ⟨5, 1, id, block, data, g, keeps⟩ _ _ _ _ (fun k => xt c.n1 id block data (by omega) (by omega) (by omega) (by omega) (by omega) (k + 3)) (fun k => cp c _ _ h3 (hn.nw hr.1) hr.2 hN2 (by omega) (by omega) (by omega) (k + 1)) k
  by_cases k6 : kind = 6
  · subst k6
    exact um c ⟨6, 1, id, block, data, g, keeps⟩ _ _ (fun k => qA c h hN2 ha hm hs k) k
  by_cases k7 : kind = 7
  · subst k7
    exact od c ⟨7, 1, id, block, data, g, keeps⟩ _ _ (fun k => EK (aB c 1 false) (fA h 1 false) hN2 (by omega) (by omega) (k + 2)) k
  by_cases k8 : kind = 8
  · subst k8
    exact Cb c ⟨8, 1, id, block, data, g, keeps⟩ _ _ (fun k => EK c h hN2 (by omega) (by omega) (k + 2)) k
  by_cases k9 : kind = 9
  · subst k9
    have ht := rg h.link 1
    have f0 := h.link.1
    have f1 := h.link.2.1
    have hr := dH c.n1 (df c.link 1).1
    exact tE c ⟨9, 1, id, block, data, g, keeps⟩ _ _ _ _ _ _ _ (fun k => wY c.link 1 (by omega) (by omega) (k + 11)) (fun k => iL c.n1 _ (Nat.le_trans ht.2 (by decide)) (by omega) (by omega) k) (fun k => cp { c with link := (df c.link 1).2.1 } _ _ ⟨h3.n0, h3.n1, ht.1⟩ (hn.nw hr.1) hr.2 hN2 (by omega) (by omega) (by omega) (k + 1)) k
  by_cases k10 : kind = 10
  · subst k10
    exact yW c ⟨10, 1, id, block, data, g, keeps⟩ _ _ (fun k => cp c _ [] h3 (hn.nw (Nw.down (a := 3) (Nw.refl _ _))) (ay.nil _) hN2 (by omega) (by omega) (by omega) (k + 1)) k
  by_cases k11 : kind = 11
  · subst k11
    exact ug c ⟨11, 1, id, block, data, g, keeps⟩ _ _ (fun k => ph c.n1 keeps hn hN hN2 (by omega) (k + 4)) k
  by_cases k12 : kind = 12
  · subst k12
    cases hu : c.n1.up with
    | true =>
      have := yy c ⟨12, 1, id, block, data, g, keeps⟩ _ _ hu (fun k => cp c (pq c.n1 g) [] h3 (hn.nw (b := 3) ⟨(wq _ _).le (by omega), Nat.le_refl _, rfl⟩) (ay.nil _) hN2 (by omega) (by omega) (by omega) (k + 1)) k
      have e : dq c.n1 g = pq c.n1 g := by simp only [dq, pq, hu, cond_true]
      show _ = some (Rc (bB c 1 (dq c.n1 g) []))
      rw [e]
      exact this
    | false =>
      have := xV c ⟨12, 1, id, block, data, g, keeps⟩ _ _ hu (fun k => cp c c.n1 [] h3 (hn.nw (b := 3) (Nw.refl _ _)) (ay.nil _) hN2 (by omega) (by omega) (by omega) (k + 1)) k
      have e : dq c.n1 g = c.n1 := by unfold dq; rw [hu]; rfl
      show _ = some (Rc (bB c 1 (dq c.n1 g) []))
      rw [e]
      exact this
  by_cases k13 : kind = 13
  · subst k13
    show _ = some (Rc (aW c 1 (fg c.n1 g), []))
    cases hq : decide ((c.n1.draws.length : Int) < 1000) with
    | true =>
      have e : aW c 1 (fg c.n1 g) = Cl.mk c.n0 (drawn c.n1 g) c.link c.w0 c.w1 := by
        have e1 : fg c.n1 g = drawn c.n1 g := by unfold fg; rw [hq]; rfl
        rw [e1]; rfl
      rw [e]
      exact yv c ⟨13, 1, id, block, data, g, keeps⟩ (by omega) hq k
    | false =>
      have e : aW c 1 (fg c.n1 g) = c := by
        have e1 : fg c.n1 g = c.n1 := by unfold fg; rw [hq]; rfl
        rw [e1]; rfl
      rw [e]
      exact yZ c ⟨13, 1, id, block, data, g, keeps⟩ hq k
  by_cases k14 : kind = 14
  · subst k14
    have hr := dH c.n1 data
    exact zl c ⟨14, 1, id, block, data, g, keeps⟩ _ _ _ _ _ _ (fun k => cg data c.link.ses (by omega) (k + 4)) (fun k => iL c.n1 data (by omega) (by omega) (by omega) k) (fun k => cp c _ _ h3 (hn.nw hr.1) hr.2 hN2 (by omega) (by omega) (by omega) (k + 1)) k
  have hk : ∀ j : Int, kind ≠ j → (kind == j) = false := fun j hj => beq_false_of_ne hj
  have e : rV c ⟨kind, 1, id, block, data, g, keeps⟩ 1 c.n1 = (c, []) := by
    unfold rV
    simp only [hk _ k1, hk _ k2, hk _ k3, hk _ k4, hk _ k5, hk _ k6, hk _ k7, hk _ k8, hk _ k9, hk _ k10, hk _ k11, hk _ k12, hk _ k13, hk _ k14, cond_false]
  rw [e]
  exact yk c ⟨kind, 1, id, block, data, g, keeps⟩ (hk _ k1) (hk _ k2) (hk _ k3) (hk _ k4) (hk _ k5) (hk _ k6) (hk _ k7) (hk _ k8) (hk _ k9) (hk _ k10) (hk _ k11) (hk _ k12) (hk _ k13) (hk _ k14) k
theorem CJ (c : Cl) (e : Evt) (h0 : (Evt.node e == 0) = false) (h1 : (Evt.node e == 1) = false) (k : Nat) : ag PP GL XX HH NN (k + 14) 18 [A.agg (Cl.cs c), A.agg (Evt.cs e)] [] = some ([Res.agg (Cl.cs c), Res.top 5 []], []) := by
  exact rt (en3 h0 <| en h1 <| e0) rfl
theorem Ft {N a m s : Nat} (c : Cl) (e : Evt) (h : ClB N a m s c) (hN : 0 < N) (hN2 : N ≤ 1000) (ha : a ≤ 860) (hm : m ≤ 90000) (hs : s ≤ 90000) (hd : e.data.size ≤ 300) (k : Nat) : ag PP GL XX HH NN (k + 14) 18 [.agg c.cs, .agg e.cs] [] = some (Rc (doM c e)) := by
  obtain ⟨kind, node, id, block, data, g, keeps⟩ := e
  rcases pB node with rfl | rfl | ⟨h0, h1⟩
  · exact DY c h hN hN2 ha hm hs kind id block g data keeps hd k
  · exact EF c h hN hN2 ha hm hs kind id block g data keeps hd k
  · have e : doM c ⟨kind, node, id, block, data, g, keeps⟩ = (c, []) := by
      unfold doM
      simp only [h0, h1, Bool.not_false, Bool.and_self, cond_true]
    rw [e]
    exact CJ c ⟨kind, node, id, block, data, g, keeps⟩ h0 h1 k
end Go.Dm
namespace Go.Dm
open Go
set_option maxHeartbeats 1000000
def Spl (l : List Evt) (c0 : List (List C)) (c1 : Int) (c2 : Cl) : St := St.mk (T.hole :: tc (C.slice 7 (List.map Evt.cs l)) :: T.k (K.v (V.ptr 0 0)) :: T.hole :: T.k (K.v (V.ptr 1 0)) :: T.hole :: T.k (K.v (V.own 5 c0 (Tk.tok 0))) :: tc (ii c1) :: hs 23 []) [List.map V.c (Cl.cs c2), [V.c (ii 0), V.c (bo false), V.own 1 [] Tk.exact, V.own 2 [] Tk.exact, V.c (ii 0), V.c (bo false), V.c (ii 0), V.c (u 0), V.c (u 0), V.c (u 0), V.c (u 0), V.c (bo false), V.c (bo false), V.c (bo false), V.c (w4 0), V.c (bo false), V.c (ii 0), V.c (u 0), V.c (ii 0), V.c (u 0), V.c (u 0), V.c (u 0), V.c (u 0), V.c (bo false), V.c (bo false), V.c (bo false), V.c (bo false), V.c (w4 0), V.c (bo false), V.c (bo false), V.c (ii 0), V.c (ii 0), V.c (st ⟨#[]⟩), V.c (bo false), V.c (ii 0), V.c (ii 0), V.c (bo false), V.own 1 [] Tk.exact, V.own 3 [] Tk.exact, V.c (ii 0), V.c (bo false), V.own 1 [] Tk.exact, V.own 2 [] Tk.exact, V.c (ii 0), V.c (bo false), V.c (ii 0), V.c (u 0), V.c (u 0), V.c (u 0), V.c (u 0), V.c (bo false), V.c (bo false), V.c (bo false), V.c (w4 0), V.c (bo false), V.c (ii 0), V.c (u 0), V.c (ii 0), V.c (u 0), V.c (u 0), V.c (u 0), V.c (u 0), V.c (bo false), V.c (bo false), V.c (bo false), V.c (bo false), V.c (w4 0), V.c (bo false), V.c (bo false), V.c (ii 0), V.c (ii 0), V.c (st ⟨#[]⟩), V.c (bo false), V.c (ii 0), V.c (ii 0), V.c (bo false), V.own 1 [] Tk.exact, V.own 3 [] Tk.exact, V.c (bo false), V.c (u 0), V.own 1 [] Tk.exact, V.own 1 [] Tk.exact, V.c (bo false), V.c (bo false)]] [c0.length]
theorem FP (l : List Evt) (out : List Ou) (i : Nat) (c : Cl) (x : Evt) (c2 : Cl) (o2 : List Ou) (hx : l[i]? = some x) (ho : out.length ≤ 100000) (ho2 : o2.length ≤ 100) (hD : ∀ k, ag PP GL XX HH NN (k + 15) 18 [A.agg (Cl.cs c), A.agg (Evt.cs x)] [] = some ([Res.agg (Cl.cs c2), Res.top 5 (List.map Ou.cs o2)], [])) (k : Nat) (z0 : (decide ((↑i : Int) < (↑(l.length) : Int))) = true) : ax (EE (k + 15)) (HH 28) NN (LB PP 28 3) 2 1 (Spl l (List.map Ou.cs out) (↑i : Int) c) (Spl l (List.map Ou.cs (out ++ o2)) (IntKind.wrap .i64 ((↑i : Int) + 1)) c2) :=
  nx (ep (af (Evt.cs) (l)) <| eg (G.len (l.length)) <| eb z0 <| ep (rz i) <| ep (ao (f := Evt.cs) hx) <| eg (G.idx i [ii x.kind, ii x.node, ii x.id, ii x.block, st x.data, u x.n, C.slice 1 (List.map eB x.keeps)]) <| ec (hD k) <| ep (a9 (Ou.cs) (out) (o2)) <| ep (ar (Ou.cs) (l := out ++ o2) (n := 1073741824) (by simp only [vr]; omega)) <| ep (Eq.refl (List.length (List.map Ou.cs out))) <| eg (G.app (List.map Ou.cs (out ++ o2))) <| e0)
def pz (l : List Evt) (out : List Ou) (i : Nat) (c : Cl) : St := St.mk (T.hole :: tc (C.slice 7 (List.map Evt.cs l)) :: T.k (K.v (V.ptr 0 0)) :: T.hole :: T.k (K.v (V.ptr 1 0)) :: T.hole :: T.k (K.v (V.own 5 (List.map Ou.cs out) (Tk.tok 0))) :: tc (ii (↑i : Int)) :: T.hole :: T.hole :: tc (ii (↑i : Int)) :: tc (C.slice 7 (List.map Evt.cs l)) :: tc (ii (↑(l.length) : Int)) :: tc (bo (decide ((↑i : Int) < (↑(l.length) : Int)))) :: hs 17 []) [List.map V.c (Cl.cs c), [V.c (ii 0), V.c (bo false), V.own 1 [] Tk.exact, V.own 2 [] Tk.exact, V.c (ii 0), V.c (bo false), V.c (ii 0), V.c (u 0), V.c (u 0), V.c (u 0), V.c (u 0), V.c (bo false), V.c (bo false), V.c (bo false), V.c (w4 0), V.c (bo false), V.c (ii 0), V.c (u 0), V.c (ii 0), V.c (u 0), V.c (u 0), V.c (u 0), V.c (u 0), V.c (bo false), V.c (bo false), V.c (bo false), V.c (bo false), V.c (w4 0), V.c (bo false), V.c (bo false), V.c (ii 0), V.c (ii 0), V.c (st ⟨#[]⟩), V.c (bo false), V.c (ii 0), V.c (ii 0), V.c (bo false), V.own 1 [] Tk.exact, V.own 3 [] Tk.exact, V.c (ii 0), V.c (bo false), V.own 1 [] Tk.exact, V.own 2 [] Tk.exact, V.c (ii 0), V.c (bo false), V.c (ii 0), V.c (u 0), V.c (u 0), V.c (u 0), V.c (u 0), V.c (bo false), V.c (bo false), V.c (bo false), V.c (w4 0), V.c (bo false), V.c (ii 0), V.c (u 0), V.c (ii 0), V.c (u 0), V.c (u 0), V.c (u 0), V.c (u 0), V.c (bo false), V.c (bo false), V.c (bo false), V.c (bo false), V.c (w4 0), V.c (bo false), V.c (bo false), V.c (ii 0), V.c (ii 0), V.c (st ⟨#[]⟩), V.c (bo false), V.c (ii 0), V.c (ii 0), V.c (bo false), V.own 1 [] Tk.exact, V.own 3 [] Tk.exact, V.c (bo false), V.c (u 0), V.own 1 [] Tk.exact, V.own 1 [] Tk.exact, V.c (bo false), V.c (bo false)]] [List.length (List.map Ou.cs out)]
theorem FG (l : List Evt) (out : List Ou) (i : Nat) (c : Cl) (k : Nat) (z0 : (decide ((↑i : Int) < (↑(l.length) : Int))) = false) : bj (EE (k + 15)) (HH 28) NN (LB PP 28 3) (Spl l (List.map Ou.cs out) (↑i : Int) c) (Ext.exit 0) (pz l out i c) :=
  ou (ep (af (Evt.cs) (l)) <| eg (G.len (l.length)) <| eb z0 <| e0)
abbrev wS (x : Cl × List Ou) (e : Evt) : Cl × List Ou := ((doM x.1 e).1, x.2 ++ (doM x.1 e).2)
theorem Lpl {N a m s : Nat} (c : Cl) (l : List Evt) (h : ClB N a m s c) (hN : 0 < N) (hN2 : N ≤ 1000) (ha : a + 4 * l.length ≤ 860) (hm : m + l.length ≤ 90000) (hs : s + 6 * l.length ≤ 90000) (hd : ∀ e ∈ l, e.data.size ≤ 300) (k : Nat) : aA (EE (k + 15)) (HH 28) NN (LB PP 28 3) (Spl l [] 0 c) (.exit 0) (pz l (pS c l).2 l.length (pS c l).1) := by
  refine cq (E := EE (k + 15)) (fun (x : Cl × List Ou) (i : Nat) => Spl l (x.2.map Ou.cs) (i : Nat) x.1) (fun i x => ClB N (a + 4 * i) (m + i) (s + 6 * i) x.1 ∧ x.2.length ≤ 18 * i) l wS (c, []) (nv := 2) (nt := 1) (e := .exit 0) (t := fun x => pz l x.2 l.length x.1) rfl (by kernel_rfl) (by kernel_rfl) ⟨h, Nat.le_refl _⟩ (fun x i e hx hp => ?_) (fun hp => FG l _ _ _ k dge) (by unfold NN; omega)
  obtain ⟨c1, out⟩ := x
  obtain ⟨p1, p2⟩ := hp
  simp only at p1 p2
  have hlt := bO hx
  have hw := mq hx (by omega)
  have hb := xq p1 e
  have hl := hb.2.1
  refine ⟨?_, hb.1, ?_⟩
  · have := FP l out i c1 e (doM c1 e).1 (doM c1 e).2 hx (by omega) (by omega) (fun k => Ft c1 e p1 hN hN2 (by omega) (by omega) (by omega) (hd e (List.mem_of_getElem? hx)) (k + 1)) k (dlt hx)
    rwa [hw] at this
  · simp only [List.length_append]; omega
theorem Gi (c : Cl) (l : List Evt) (c3 : Cl) (out : List Ou) (ho : out.length ≤ 100000) (hL : ∀ k, aA (EE (k + 15)) (HH 28) NN (LB PP 28 3) (Spl l [] 0 c) (Ext.exit 0) (pz l out (l.length) c3)) (k : Nat) : ag PP GL XX HH NN (k + 16) 28 [A.agg (Cl.cs c), A.c (C.slice 7 (List.map Evt.cs l))] [] = some ([Res.agg (Cl.cs c3), Res.top 5 (List.map Ou.cs out)], []) := by
  exact rt (eg (G.loop (Ext.exit 0) (pz l out (l.length) c3)) <| ep (hL k) <| eq1 (List.length (List.map Ou.cs out)) <| e0) rfl
theorem AY (c : Cl) (k : Nat) : ag PP GL XX HH NN (k + 16) 28 [A.agg (Cl.cs c), A.nil] [] = some ([Res.agg (Cl.cs c), Res.top 5 []], []) := by
  exact rt (eg (G.un) <| ep (rfl : (0 : Nat) = (0 : Nat)) <| eg (G.len 0) <| ef <| ep ((rfl : (0 : Nat) = (0 : Nat))).symm <| e0) rfl
theorem vY {N : Nat} : ∀ (l : List Evt) {a m s : Nat} {c : Cl}, ClB N a m s c → (pS c l).2.length ≤ 18 * l.length
  | l, a, m, s, c, h => by
    have key : ∀ (l : List Evt) {a m s : Nat} (x : Cl × List Ou), ClB N a m s x.1 → (l.foldl wS x).2.length ≤ x.2.length + 18 * l.length := by
      intro l
      induction l with
      | nil => intro a m s x h; exact Nat.le_refl _
      | cons e l ih =>
        intro a m s x h
        rw [List.foldl_cons]
        have hb := xq h e
        have := ih (wS x e) hb.1
        have h2 := hb.2.1
        simp only [List.length_append, List.length_cons] at this ⊢
        omega
    have := key l (c, []) h
    simp only [List.length_nil, Nat.zero_add] at this
    exact this
theorem CU {N a m s : Nat} (c : Cl) (l : List Evt) (h : ClB N a m s c) (hN : 0 < N) (hN2 : N ≤ 1000) (ha : a + 4 * l.length ≤ 860) (hm : m + l.length ≤ 90000) (hs : s + 6 * l.length ≤ 90000) (hd : ∀ e ∈ l, e.data.size ≤ 300) (k : Nat) : ag PP GL XX HH NN (k + 16) 28 [.agg c.cs, .c (.slice 7 (l.map Evt.cs))] [] = some (Rc (pS c l)) := by
  have ho := vY l h
  exact Gi c l _ _ (by omega) (fun k => Lpl c l h hN hN2 ha hm hs hd k) k
def gP (n : Nat) : Cl := ⟨(bF (fx 0 (bR n 7)) []).1, (bF (fx 1 (bR n 7)) []).1, lk0, false, false⟩
theorem wA (n : Nat) (h1 : cR (aF n 7) = true) : yK (n + 2) (bR n 7) := by
  refine ⟨by simp [bR], fun s hs => ?_, fun w hw => by cases hw⟩
  simp only [bR, List.mem_append, List.mem_cons, List.not_mem_nil, or_false, List.mem_replicate] at hs
  rcases hs with (rfl | rfl) | ⟨_, rfl⟩
  · have : (aY (aF n 7)).1 = bg (cE (aF n 7)) := by unfold aY; rw [h1]; rfl
    rw [this, dG, kw]
    decide
  · rw [dG, jf]; decide
  · decide
theorem nG (n : Nat) (i : Int) (h1 : cR (aF n 7) = true) : NdB (n + 2) 0 0 (fx i (bR n 7)) := ⟨wA n h1, Nat.zero_le _, Nat.zero_le _⟩
theorem BR (n : Nat) (h1 : cR (aF n 7) = true) : ClB (n + 2) 0 0 0 (gP n) := ⟨(nG n 0 h1).nw (ip _ _), (nG n 1 h1).nw (ip _ _), LkB.none _ _ _⟩
theorem Gm (n : Nat) (h1 : cR (aF n 7) = true) (hn : n ≤ 900) (hF : ∀ k, ag PP GL XX HH NN (k + 9) 55 [.c (ii (n : Int)), .c (u 7)] [] = some ([.agg (bR n 7).cs, .c (ii 0)], [])) (k : Nat) : ag PP GL XX HH NN (k + 10) 27 [.c (ii (n : Int)), .c (u 7)] [] = some ([.agg (gP n).cs, .c (ii 0)], []) :=
  Dw n 7 (bR n 7) _ _ _ _ hF (fun k => by
    have := mH (fx 0 (bR n 7)) (nG n 0 h1) (by omega) (by omega) (by omega) k
    rw [sV] at this
    exact this) (fun k => by
    have := mH (fx 1 (bR n 7)) (nG n 1 h1) (by omega) (by omega) (by omega) k
    rw [sV] at this
    exact this) k
theorem Dt (n : Nat) (h : n = 1 ∨ n = 2 ∨ n = 3 ∨ n = 4) : cR (aF n 7) = true := by
  rcases h with rfl | rfl | rfl | rfl <;> decide
theorem F4 (n : Nat) (h : n = 1 ∨ n = 2 ∨ n = 3 ∨ n = 4) : ((aY (aF n 7)).2 == 0) = true := by
  unfold aY
  rw [Dt n h]
  rfl
theorem Ao (n : Nat) (h : n = 1 ∨ n = 2 ∨ n = 3 ∨ n = 4) (k : Nat) : ag PP GL XX HH NN (k + 10) 27 [.c (ii (n : Int)), .c (u 7)] [] = some ([.agg (gP n).cs, .c (ii 0)], []) := by
  refine Gm n (Dt n h) (by omega) (fun k => ?_) k
  have h2 := F4 n h
  rcases h with rfl | rfl | rfl | rfl
  · exact Bn 7 h2 (fun k => ka (aF 1 7) k) (k + 3)
  · exact A5 7 h2 (fun k => ka (aF 2 7) k) (k + 3)
  · exact BD 7 h2 (fun k => ka (aF 3 7) k) (k + 3)
  · exact Ci 7 h2 (fun k => ka (aF 4 7) k) (k + 3)
abbrev kL (b : Int) : Int := IntKind.wrap .i64 (1 + IntKind.wrap .i64 (b.tmod 4))
theorem DF (b : Int) (l : List Evt) (c : Cl) (c2 : Cl) (o : List Ou) (hN : ∀ k, ag PP GL XX HH NN (k + 16) 27 [A.c (ii (kL b)), A.c (u 7)] [] = some ([Res.agg (Cl.cs c), Res.c (ii 0)], [])) (hP : ∀ k, ag PP GL XX HH NN (k + 16) 28 [A.agg (Cl.cs c), A.c (C.slice 7 (List.map Evt.cs l))] [] = some ([Res.agg (Cl.cs c2), Res.top 5 (List.map Ou.cs o)], [])) (k : Nat) : ag PP GL XX HH NN (k + 17) 16 [A.c (by8 b), A.c (C.slice 7 (List.map Evt.cs l))] [] = some ([Res.agg (Cl.cs c2)], []) := by
  exact rt (ep (show (4 : Int) ≠ (0 : Int) from by decide) <| eg (G.ok) <| ec (wN (k + 15)) <| ec (hN k) <| ec (hP k) <| e0) rfl
theorem Ek (b : Int) (c : Cl) (hN : ∀ k, ag PP GL XX HH NN (k + 16) 27 [A.c (ii (kL b)), A.c (u 7)] [] = some ([Res.agg (Cl.cs c), Res.c (ii 0)], [])) (k : Nat) : ag PP GL XX HH NN (k + 17) 16 [A.c (by8 b), A.nil] [] = some ([Res.agg (Cl.cs c)], []) := by
  exact rt (ep (show (4 : Int) ≠ (0 : Int) from by decide) <| eg (G.ok) <| ec (wN (k + 15)) <| ec (hN k) <| ec (AY c k) <| e0) rfl
def dF (b : Int) : Nat := (b.tmod 4).toNat + 1
theorem fH (b : Int) (h : 0 ≤ b) : dF b = 1 ∨ dF b = 2 ∨ dF b = 3 ∨ dF b = 4 := by
  unfold dF
  have h1 := Int.tmod_nonneg 4 h
  have h2 := Int.tmod_lt_of_pos b (show (0 : Int) < 4 by decide)
  omega
theorem oZ (b : Int) (h : 0 ≤ b) : kL b = (dF b : Int) := by
  unfold kL dF
  have h1 := Int.tmod_nonneg 4 h
  have h2 := Int.tmod_lt_of_pos b (show (0 : Int) < 4 by decide)
  rw [cI (x := b.tmod 4) (by omega) (by omega), cI (by omega) (by omega)]
  omega
def mC (b : Int) (l : List Evt) : Cl := (pS (gP (dF b)) l).1
theorem Cr (b : Int) (hb : 0 ≤ b) (l : List Evt) (hl : l.length ≤ 200) (hd : ∀ e ∈ l, e.data.size ≤ 300) (k : Nat) : ag PP GL XX HH NN (k + 17) 16 [.c (by8 b), .c (.slice 7 (l.map Evt.cs))] [] = some ([.agg (mC b l).cs], []) := by
  have h4 := fH b hb
  exact DF b l _ _ (pS (gP (dF b)) l).2 (fun k => by rw [oZ b hb]; exact Ao _ h4 (k + 6)) (fun k => CU (gP (dF b)) l (BR _ (Dt _ h4)) (by omega) (by omega) (by omega) (by omega) (by omega) hd k) k
theorem yh (b : Int) (hb : 0 ≤ b) (k : Nat) : ag PP GL XX HH NN (k + 17) 16 [.c (by8 b), .nil] [] = some ([.agg (mC b []).cs], []) := by
  have h4 := fH b hb
  exact Ek b _ (fun k => by rw [oZ b hb]; exact Ao _ h4 (k + 6)) k
theorem AO (b : Int) (hb : 0 ≤ b) (l : List Evt) : ClB (dF b + 2) (4 * l.length) l.length (6 * l.length) (mC b l) := by
  have := B2 l (BR _ (Dt _ (fH b hb)))
  exact this.le (by omega) (by omega) (by omega)
end Go.Dm
namespace Go.Dm
open Go
set_option maxHeartbeats 1000000
theorem AQ (d : Dk) (i : Int) (hc : d.cache.length ≤ 1000000) (k : Nat) : ag PP GL XX HH NN (k + 1) 57 [.agg d.cs, .c (ii i)] [] = some ([.c (st (aK d i).1), .c (ii (aK d i).2)], []) := by
  rw [r9 (h := rl) rfl]
  show ((match (d.sure.map eS).mapM DJ, (d.cache.map Wr.cs).mapM Dy with
    | some sl, some wl => if wl.length ≤ 1000000 then some ([.c (st (aK ⟨sl, wl, d.fuse, d.dead⟩ i).1), .c (ii (aK ⟨sl, wl, d.fuse, d.dead⟩ i).2)], []) else none
    | _, _ => none) : Option (List Res × List (List C))) = _
  rw [xu, vW]
  simp only [hc, if_true]
theorem rB (d : Dk) (i : Int) (k : Nat) : ag PP GL XX HH NN (k + 1) 56 [A.agg (Dk.cs d), A.c (ii i)] [] = some ([Res.c (bo (ey d i))], []) := by
  rcases bft (decide (i ≥ 0)) with z0 | z0
  · exact rt (eb4 z0 <| ep (af (eS) d.sure) <| eg (G.len (d.sure.length)) <| eb3 z0 <| e0) (rs := [Res.c (bo (decide (i < IntKind.wrap .i64 ((↑(d.sure.length) : Int) - 2))))]) (by first | (simp only [ey, z0, vq] <;> rfl) | (simp_all only [ey, vq] <;> rfl))
  · exact rt (eb7 z0 <| e0) (rs := [Res.c (bo false)]) (by first | (simp only [ey, z0, vq] <;> rfl) | (simp_all only [ey, vq] <;> rfl))
theorem vQ (d : Dk) (i : Int) (hc : d.cache.length ≤ 1000000) (k : Nat) : ag PP GL XX HH NN (k + 4) 29 [A.agg (Dk.cs d), A.c (ii i)] [] = some ([Res.c (st (ak d i).1), Res.c (ii (ak d i).2)], []) := by
  rcases bft (ey d i) with z0 | z0
  · rcases bft (Prod.snd (aK d (IntKind.wrap .i64 (i + 2))) == 0) with z1 | z1
    · rcases bft ((↑(ByteArray.size (aK d (IntKind.wrap .i64 (i + 2))).1) : Int) == 8) with z2 | z2
      · exact rt (ec (rB d i (k + 2)) <| en z0 <| ec (AQ d (IntKind.wrap .i64 (i + 2)) hc (k + 2)) <| en z1 <| en z2 <| e0) (rs := [Res.c (st (aK d (IntKind.wrap .i64 (i + 2))).1), Res.c (ii 0)]) (by first | (simp only [ak, z0, z1, z2, vq] <;> rfl) | (simp_all only [ak, vq] <;> rfl))
      · exact rt (ec (rB d i (k + 2)) <| en z0 <| ec (AQ d (IntKind.wrap .i64 (i + 2)) hc (k + 2)) <| en z1 <| en z2 <| e0) (rs := [Res.c (st ⟨#[]⟩), Res.c (ii 2)]) (by first | (simp only [ak, z0, z1, z2, vq] <;> rfl) | (simp_all only [ak, vq] <;> rfl))
    · exact rt (ec (rB d i (k + 2)) <| en z0 <| ec (AQ d (IntKind.wrap .i64 (i + 2)) hc (k + 2)) <| en z1 <| e0) (rs := [Res.c (st ⟨#[]⟩), Res.c (ii (aK d (IntKind.wrap .i64 (i + 2))).2)]) (by first | (simp only [ak, z0, z1, vq] <;> rfl) | (simp_all only [ak, vq] <;> rfl))
  · exact rt (ec (rB d i (k + 2)) <| en z0 <| e0) (rs := [Res.c (st ⟨#[]⟩), Res.c (ii 4)]) (by first | (simp only [ak, z0, vq] <;> rfl) | (simp_all only [ak, vq] <;> rfl))
theorem rU (s : So) (i : Int) (hc : s.disk.cache.length ≤ 1000000) (k : Nat) : ag PP GL XX HH NN (k + 5) 49 [A.agg (So.cs s), A.c (ii i)] [] = some ([Res.c (st (ak s.disk i).1), Res.c (ii (ak s.disk i).2)], []) := by
  exact rt (ec (vQ s.disk i hc k) <| e0) (rs := [Res.c (st (ak s.disk i).1), Res.c (ii (ak s.disk i).2)]) rfl
def oz (d : Dk) (c0 : List (List C)) (c1 : Int) : St := St.mk (T.hole :: T.k (K.v (V.ptr 0 0)) :: T.hole :: T.hole :: T.k (K.v (V.own 1 c0 (Tk.tok 0))) :: hs 7 (tc (ii (if 0 > IntKind.wrap .i64 ((↑(d.sure.length) : Int) - 2) then 0 else IntKind.wrap .i64 ((↑(d.sure.length) : Int) - 2))) :: tc (ii c1) :: hs 17 [])) [[V.c (C.slice 1 (List.map eS d.sure)), V.c (C.slice 2 (List.map Wr.cs d.cache)), V.c (ii d.fuse), V.c (bo d.dead)]] [c0.length]
theorem AK (d : Dk) (l : List ByteArray) (i : Nat) (hc : d.cache.length ≤ 1000000) (hl : l.length ≤ 1000000) (k : Nat) (z0 : (decide ((↑i : Int) < if 0 > IntKind.wrap .i64 ((↑(d.sure.length) : Int) - 2) then 0 else IntKind.wrap .i64 ((↑(d.sure.length) : Int) - 2))) = true) (z1 : (Prod.snd (ak d (↑i : Int)) == 0) = true) : ax (EE (k + 4)) (HH 17) NN (LB PP 17 3) 1 1 (oz d (List.map eS l) (↑i : Int)) (oz d (List.map eS (l ++ [Prod.fst (ak d (↑i : Int))])) (IntKind.wrap .i64 ((↑i : Int) + 1))) :=
  nx (eb z0 <| ec (vQ d ((↑i : Int)) hc k) <| en z1 <| ep (a9 (eS) (l) ([Prod.fst (ak d (↑i : Int))])) <| ep (ar (eS) (l := l ++ [Prod.fst (ak d (↑i : Int))]) (n := 1073741824) (by simp only [vr]; omega)) <| ep (Eq.refl (List.length (List.map eS l))) <| eg (G.app (List.map eS (l ++ [Prod.fst (ak d (↑i : Int))]))) <| e0)
def i4 (d : Dk) (l : List ByteArray) (i : Nat) : St := St.mk (T.hole :: T.k (K.v (V.ptr 0 0)) :: T.k (K.v (V.own 1 [] Tk.exact)) :: tc (ii (ak d (↑i : Int)).2) :: T.k (K.v (V.own 1 (List.map eS l) (Tk.tok 0))) :: tc (ii (↑i : Int)) :: tc (st (ak d (↑i : Int)).1) :: tc (ii (ak d (↑i : Int)).2) :: hs 4 (tc (ii (if 0 > IntKind.wrap .i64 ((↑(d.sure.length) : Int) - 2) then 0 else IntKind.wrap .i64 ((↑(d.sure.length) : Int) - 2))) :: tc (ii (↑i : Int)) :: tc (bo (decide ((↑i : Int) < if 0 > IntKind.wrap .i64 ((↑(d.sure.length) : Int) - 2) then 0 else IntKind.wrap .i64 ((↑(d.sure.length) : Int) - 2)))) :: tc (ii (↑i : Int)) :: T.tup [K.v (V.c (st (ak d (↑i : Int)).1)), K.v (V.c (ii (ak d (↑i : Int)).2))] :: T.k (K.agg [V.c (C.slice 1 (List.map eS d.sure)), V.c (C.slice 2 (List.map Wr.cs d.cache)), V.c (ii d.fuse), V.c (bo d.dead)]) :: tc (ii (↑i : Int)) :: T.tup [K.v (V.c (st (ak d (↑i : Int)).1)), K.v (V.c (ii (ak d (↑i : Int)).2))] :: tc (st (ak d (↑i : Int)).1) :: tc (ii (ak d (↑i : Int)).2) :: tc (ii (ak d (↑i : Int)).2) :: tc (bo (Prod.snd (ak d (↑i : Int)) != 0)) :: tc (ii (ak d (↑i : Int)).2) :: hs 6 [])) [[V.c (C.slice 1 (List.map eS d.sure)), V.c (C.slice 2 (List.map Wr.cs d.cache)), V.c (ii d.fuse), V.c (bo d.dead)]] [List.length (List.map eS l)]
theorem A1 (d : Dk) (l : List ByteArray) (i : Nat) (hc : d.cache.length ≤ 1000000) (k : Nat) (z0 : (decide ((↑i : Int) < if 0 > IntKind.wrap .i64 ((↑(d.sure.length) : Int) - 2) then 0 else IntKind.wrap .i64 ((↑(d.sure.length) : Int) - 2))) = true) (z1 : (Prod.snd (ak d (↑i : Int)) == 0) = false) : bj (EE (k + 4)) (HH 17) NN (LB PP 17 3) (oz d (List.map eS l) (↑i : Int)) (Ext.ret) (i4 d l i) :=
  ou (eb z0 <| ec (vQ d ((↑i : Int)) hc k) <| en z1 <| e0)
def jn (d : Dk) (l : List ByteArray) (i : Nat) : St := St.mk (T.hole :: T.k (K.v (V.ptr 0 0)) :: T.hole :: T.hole :: T.k (K.v (V.own 1 (List.map eS l) (Tk.tok 0))) :: hs 7 (tc (ii (if 0 > IntKind.wrap .i64 ((↑(d.sure.length) : Int) - 2) then 0 else IntKind.wrap .i64 ((↑(d.sure.length) : Int) - 2))) :: tc (ii (↑i : Int)) :: tc (bo (decide ((↑i : Int) < if 0 > IntKind.wrap .i64 ((↑(d.sure.length) : Int) - 2) then 0 else IntKind.wrap .i64 ((↑(d.sure.length) : Int) - 2)))) :: hs 16 [])) [[V.c (C.slice 1 (List.map eS d.sure)), V.c (C.slice 2 (List.map Wr.cs d.cache)), V.c (ii d.fuse), V.c (bo d.dead)]] [List.length (List.map eS l)]
theorem A9 (d : Dk) (l : List ByteArray) (i : Nat) (k : Nat) (z0 : (decide ((↑i : Int) < if 0 > IntKind.wrap .i64 ((↑(d.sure.length) : Int) - 2) then 0 else IntKind.wrap .i64 ((↑(d.sure.length) : Int) - 2))) = false) : bj (EE (k + 4)) (HH 17) NN (LB PP 17 3) (oz d (List.map eS l) (↑i : Int)) (Ext.exit 0) (jn d l i) :=
  ou (eb z0 <| e0)
def EM (d : Dk) : Int := if (0 : Int) > IntKind.wrap .i64 ((d.sure.length : Int) - 2) then 0 else IntKind.wrap .i64 ((d.sure.length : Int) - 2)
theorem vv (d : Dk) (hs : d.sure.length ≤ 1000000) : EM d = ((d.sure.length - 2 : Nat) : Int) := by
  unfold EM
  rw [cI (by omega) (by omega)]
  split <;> omega
theorem F9 (d : Dk) (hs : d.sure.length ≤ 1000000) (hc : d.cache.length ≤ 1000000) :
    ((iD d = ((List.range (d.sure.length - 2)).map fun (i : Nat) => (ak d (i : Int)).1, 0)) ∧ ∀ k, aA (EE (k + 4)) (HH 17) NN (LB PP 17 3) (oz d [] 0) (.exit 0) (jn d ((List.range (d.sure.length - 2)).map fun (i : Nat) => (ak d (i : Int)).1) (d.sure.length - 2 : Nat))) ∨
    ∃ (l : List ByteArray) (i : Nat), iD d = ([], (ak d (i : Int)).2) ∧ ∀ k, aA (EE (k + 4)) (HH 17) NN (LB PP 17 3) (oz d [] 0) .ret (i4 d l i) := by
  have hn : ∀ i : Nat, i < d.sure.length - 2 → decide ((i : Int) < EM d) = true := fun i hi => decide_eq_true (by rw [vv d hs]; omega)
  have hn2 : decide (((d.sure.length - 2 : Nat) : Int) < EM d) = false := decide_eq_false (by rw [vv d hs]; omega)
  rcases gA (E := fun k => EE (k + 4)) (H := HH 17) (n := NN) (b := LB PP 17 3) (fun i => oz d (((List.range i).map fun (i : Nat) => (ak d (i : Int)).1).map eS) (i : Nat)) (List.range (d.sure.length - 2)) (fun (i : Nat) => !((ak d (i : Int)).2 == 0)) (fun i x => i4 d ((List.range i).map fun (i : Nat) => (ak d (i : Int)).1) i) (jn d ((List.range (d.sure.length - 2)).map fun (i : Nat) => (ak d (i : Int)).1) (d.sure.length - 2 : Nat)) (nv := 1) (nt := 1) (e := .ret) (e' := .exit 0) (by kernel_rfl) (by kernel_rfl)
    (fun k i x hx hp => by
      have hi := bO hx
      rw [List.length_range] at hi
      have hxi : x = i := by have := (List.getElem?_eq_some_iff.1 hx).2; simpa using this.symm
      subst hxi
      have := AK d ((List.range x).map fun (i : Nat) => (ak d (i : Int)).1) x hc (by simp; omega) k (hn x hi) (by simpa using hp)
      rw [w64 hi (by omega)] at this
      rw [List.range_succ, List.map_append, List.map_cons, List.map_nil]
      exact this)
    (fun k i x hx hp => by
      have hi := bO hx
      rw [List.length_range] at hi
      have hxi : x = i := by have := (List.getElem?_eq_some_iff.1 hx).2; simpa using this.symm
      subst hxi
      exact A1 d _ x hc k (hn x hi) (by simpa using hp))
    (fun k => by rw [List.length_range]; exact A9 d _ _ k hn2) (by rw [List.length_range]; unfold NN; omega) with ⟨h1, h2⟩ | ⟨h1, i, x, hx, hp, hf, _, h2⟩
  · refine .inl ⟨?_, h2⟩
    unfold iD
    have : (List.range (d.sure.length - 2)).find? (fun (i : Nat) => !((ak d (i : Int)).2 == 0)) = none := by
      rw [List.find?_eq_none]
      rw [List.any_eq_false] at h1
      exact h1
    rw [this]
  · have hxi : x = i := by have := (List.getElem?_eq_some_iff.1 hx).2; simpa using this.symm
    subst hxi
    refine .inr ⟨_, x, ?_, h2⟩
    unfold iD
    rw [hf]
theorem FI (d : Dk) (l : List ByteArray) (i : Nat) (hL : ∀ k, aA (EE (k + 4)) (HH 17) NN (LB PP 17 3) (oz d [] 0) Ext.ret (i4 d l i)) (k : Nat) : ag PP GL XX HH NN (k + 5) 17 [A.agg (Dk.cs d)] [] = some ([Res.top 1 [], Res.c (ii (ak d (↑i : Int)).2)], []) := by
  exact ro (ep (af (eS) d.sure) <| eg (G.len (d.sure.length)) <| eg (G.loop Ext.ret (i4 d l i)) <| ep (hL k) <| e0)
theorem Fj (d : Dk) (l : List ByteArray) (i : Nat) (hL : ∀ k, aA (EE (k + 4)) (HH 17) NN (LB PP 17 3) (oz d [] 0) (Ext.exit 0) (jn d l i)) (k : Nat) : ag PP GL XX HH NN (k + 5) 17 [A.agg (Dk.cs d)] [] = some ([Res.top 1 (List.map eS l), Res.c (ii 0)], []) := by
  exact ro (ep (af (eS) d.sure) <| eg (G.len (d.sure.length)) <| eg (G.loop (Ext.exit 0) (jn d l i)) <| ep (hL k) <| eq1 (List.length (List.map eS l)) <| e0)
theorem C3 (d : Dk) (hs : d.sure.length ≤ 1000000) (hc : d.cache.length ≤ 1000000) (k : Nat) : ag PP GL XX HH NN (k + 5) 17 [.agg d.cs] [] = some ([.top 1 ((iD d).1.map eS), .c (ii (iD d).2)], []) := by
  rcases F9 d hs hc with ⟨h1, h2⟩ | ⟨l, i, h1, h2⟩
  · rw [h1]; exact Fj d _ _ h2 k
  · rw [h1]; exact FI d l i h2 k
end Go.Dm
