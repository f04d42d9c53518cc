/-
  A part of the proofs over this seat: its functions, one by one (the file in which the theorems stand says what is proved).
-/
import Derived.KernelRfl
import Derived.Lib.AppendZerosOnto
import Derived.Lib.SliceRun
import Derived.Lib.Walk
import Derived.LoopIn
import Derived.LoopNIn
import Derived.MapKept
import Derived.Maps.OwnIn
import Derived.OwnWalkIn
import Derived.RangeFuncBox
import Derived.RangeFuncLeaves
import Derived.RangeFuncNested
import Derived.RangeFuncWrites
import Derived.Shelf.Abstract
import Derived.Shelf.RegionOpenPlain
import Derived.TacticsInMore
import Derived.Test.YtafmihnhdodekaaGreatProg
import Derived.WalkKit
import Derived.Test.YtafmihnhdodekaaGreatReL1
set_option linter.unusedSimpArgs false
set_option linter.unusedVariables false
set_option maxRecDepth 100000
set_option maxHeartbeats 4000000
namespace Go.Dm
open Go
abbrev Rc (x : Cl × List Ou) : List Res × List (List C) := ([.agg x.1.cs, .top 5 (x.2.map Ou.cs)], [])
theorem NdB.sure {N a m : Nat} {n : Nd} (h : NdB N a m n) : n.store.disk.sure.length = N := h.1.1
theorem NdB.draws {N a m : Nat} {n : Nd} (h : NdB N a m n) : n.draws.length ≤ m := by have := h.2.2; omega
theorem NdB.mints {N a m : Nat} {n : Nd} (h : NdB N a m n) : n.mints.length ≤ m := by have := h.2.2; omega
theorem Ak.cacheIn {N : Nat} {d : Dk} (h : Ak N d) : rK d := fun w hw => by
  have := h.2.2 w hw
  exact ⟨this.1, by rw [h.1]; exact this.2.1⟩
theorem qJ {N a m : Nat} (n : Nd) (ks : List Bool) (h : NdB N a m n) (hN : 0 < N) (hN2 : N ≤ 1000) (ha : a ≤ 870) (k : Nat) : aj PP GL XX HH NN (k + 9) 65 [.agg n.cs, .c (.slice 1 (ks.map eB))] [] = some ([.agg (bt n ks).1.cs, .c (ii (bt n ks).2)], []) := by
  have h0 := h.1.1
  have h1 := (jV n.store.disk ks).1 N h.1
  have h2 := h.2.1
  exact Ao n ks (bU n.store.disk ks) (by rw [h1.1]; omega) (Nat.zero_le _) (Nat.le_trans (gQ h1 0) (by decide)) (Nat.le_trans (gQ h1 1) (by decide)) (fun k => Bv n.store.disk ks h.1.cacheIn (by omega) (by omega) (by omega) (k + 6)) k
theorem nL {N a m : Nat} (n : Nd) (h : NdB N a m n) (hN : 0 < N) (hN2 : N ≤ 1000) (ha : a ≤ 870) (k : Nat) : aj PP GL XX HH NN (k + 9) 65 [.agg n.cs, .nil] [] = some ([.agg (bt n []).1.cs, .c (ii (bt n []).2)], []) := by
  have h0 := h.1.1
  have h1 := (jV n.store.disk []).1 N h.1
  exact y8 n (bU n.store.disk []) (by rw [h1.1]; omega) (Nat.zero_le _) (Nat.le_trans (gQ h1 0) (by decide)) (Nat.le_trans (gQ h1 1) (by decide)) (fun k => Cq n.store.disk (by omega) (by omega) (k + 6)) k
theorem EA {N a m s : Nat} (c : Cl) (h : ClB N a m s c) (hN2 : N ≤ 1000) (ha : a ≤ 870) (hm : m ≤ 100000) (k : Nat) : aj PP GL XX HH NN (k + 11) 61 [.agg c.cs, .nil] [] = some (Rc (fo c)) := by
  have a0 := h.n0.sure
  have a1 := h.n1.sure
  have b0 := h.n0.2.1
  have b1 := h.n1.2.1
  have d0 := h.n0.draws
  have d1 := h.n1.draws
  have e0 := h.n0.mints
  have e1 := h.n1.mints
  exact Em c (by omega) (by omega) (by omega) (by omega) (by omega) (by omega) (by omega) (by omega) k
theorem cZ {N a m s : Nat} (c : Cl) (n : Nd) (l : List Ou) (h : ClB N a m s c) (hn : NdB N a m n) (hl : aS 3 l) (hN2 : N ≤ 1000) (ha : a ≤ 870) (hm : m ≤ 100000) (hs : s ≤ 100000) (k : Nat) : aj PP GL XX HH NN (k + 12) 69 [.agg c.cs, .c (ii 0), .agg n.cs, .c (.slice 5 (l.map Ou.cs))] [] = some (Rc (bC c 0 n l)) := by
  have a0 := hn.sure
  have a1 := h.n1.sure
  have b0 := hn.2.1
  have b1 := h.n1.2.1
  have d0 := hn.draws
  have d1 := h.n1.draws
  have e0 := hn.mints
  have e1 := h.n1.mints
  have f0 := h.link.1
  have f1 := h.link.2.1
  have g := hl.1
  have g2 := oT l
  have := B7 c n l { aZ c 0 n with link := a9 0 c.link l } (cR l) (cO l) (by omega) (show n.draws.length ≤ 1000000 by omega) (show n.mints.length ≤ 1000000 by omega) (show n.store.disk.sure.length ≤ 1000000 by omega) (show n.store.disk.cache.length ≤ 880 by omega) (show c.n1.draws.length ≤ 1000000 by omega) (show c.n1.mints.length ≤ 1000000 by omega) (show c.n1.store.disk.sure.length ≤ 1000000 by omega) (show c.n1.store.disk.cache.length ≤ 880 by omega) (fun k => La0 c n l (by omega) (by omega) (by omega) k) k
  rw [rj] at this
  exact this
theorem cW {N a m s : Nat} (c : Cl) (n : Nd) (l : List Ou) (h : ClB N a m s c) (hn : NdB N a m n) (hl : aS 3 l) (hN2 : N ≤ 1000) (ha : a ≤ 870) (hm : m ≤ 100000) (hs : s ≤ 100000) (k : Nat) : aj PP GL XX HH NN (k + 12) 69 [.agg c.cs, .c (ii 1), .agg n.cs, .c (.slice 5 (l.map Ou.cs))] [] = some (Rc (bC c 1 n l)) := by
  have a0 := hn.sure
  have a1 := h.n0.sure
  have b0 := hn.2.1
  have b1 := h.n0.2.1
  have d0 := hn.draws
  have d1 := h.n0.draws
  have e0 := hn.mints
  have e1 := h.n0.mints
  have f0 := h.link.1
  have f1 := h.link.2.1
  have g := hl.1
  have g2 := oT l
  have := BD c n l { aZ c 1 n with link := a9 1 c.link l } (cR l) (cO l) (by omega) (show c.n0.draws.length ≤ 1000000 by omega) (show c.n0.mints.length ≤ 1000000 by omega) (show c.n0.store.disk.sure.length ≤ 1000000 by omega) (show c.n0.store.disk.cache.length ≤ 880 by omega) (show n.draws.length ≤ 1000000 by omega) (show n.mints.length ≤ 1000000 by omega) (show n.store.disk.sure.length ≤ 1000000 by omega) (show n.store.disk.cache.length ≤ 880 by omega) (fun k => La1 c n l (by omega) (by omega) (by omega) k) k
  rw [rj] at this
  exact this
theorem si {N a m s : Nat} (c : Cl) (h : ClB N a m s c) (hN2 : N ≤ 1000) (ha : a ≤ 860) (hm : m ≤ 90000) (hs : s ≤ 90000) (k : Nat) : aj PP GL XX HH NN (k + 13) 60 [.agg c.cs, .c (ii 0)] [] = some (Rc (ey c 0)) := by
  have h0 := rV h 0
  have h1 := oY h0
  have h2 := pt h1.1
  have l1 := h1.2.1
  have l2 := h2.2.1
  exact xf c (dU { ax c 0 true with link := cL c.link }).1 (fP (dU { ax c 0 true with link := cL c.link }).1).1 (dU { ax c 0 true with link := cL c.link }).2 (fP (dU { ax c 0 true with link := cL c.link }).1).2 (by omega) (fun k => cZ { ax c 0 true with link := cL c.link } _ _ h0 (ge h.n0 _) (fy _ _).2 hN2 (by omega) (by omega) (by omega) k) (fun k => cW _ _ _ h1.1 (ge h1.1.n1 _) (fy _ _).2 hN2 (by omega) (by omega) (by omega) k) k
set_option maxRecDepth 100000 in
theorem CW {N a m s : Nat} (c : Cl) (h : ClB N a m s c) (hN : 0 < N) (hN2 : N ≤ 1000) (ha : a ≤ 860) (hm : m ≤ 90000) (hs : s ≤ 90000) (kind id block g : Int) (data : ByteArray) (keeps : List Bool) (hd : data.size ≤ 300) (k : Nat) : aj PP GL XX HH NN (k + 14) 42 [.agg c.cs, .agg (Evt.mk kind 0 id block data g keeps).cs] [] = some (Rc (oh c ⟨kind, 0, id, block, data, g, keeps⟩ 0 c.n0)) := by
  have hn := h.n0
  have h3 := h.le (show a ≤ a + 3 by omega) (Nat.le_refl m) (Nat.le_refl s)
  have a0 := hn.sure
  have b0 := hn.2.1
  have d0 := hn.draws
  have e0 := hn.mints
  by_cases k1 : kind = 1
  · subst k1
    have hr := jg c.n0 id
    exact uR c ⟨1, 0, id, block, data, g, keeps⟩ _ _ _ _ (fun k => pK c.n0 id (by omega) (by omega) (k + 3)) (fun k => cZ c _ _ h3 (hn.nw hr.1) hr.2 hN2 (by omega) (by omega) (by omega) (k + 1)) k
  by_cases k2 : kind = 2
  · subst k2
    have hr := kO c.n0 id
    exact xR c ⟨2, 0, id, block, data, g, keeps⟩ _ _ _ _ (fun k => te c.n0 id (by omega) (by omega) (k + 3)) (fun k => cZ c _ _ h3 (hn.nw hr.1) hr.2 hN2 (by omega) (by omega) (by omega) (k + 1)) k
  by_cases k3 : kind = 3
  · subst k3
    have hr := i8 c.n0 id
    exact uN c ⟨3, 0, id, block, data, g, keeps⟩ _ _ _ _ (fun k => qO c.n0 id (by omega) (by omega) (k + 3)) (fun k => cZ c _ _ h3 (hn.nw hr.1) hr.2 hN2 (by omega) (by omega) (by omega) (k + 1)) k
  by_cases k4 : kind = 4
  · subst k4
    have hr := mF c.n0 id block
    exact BH c ⟨4, 0, id, block, data, g, keeps⟩ _ _ _ _ (fun k => vM c.n0 id block (by omega) (k + 7)) (fun k => cZ c _ _ h3 (hn.nw hr.1) hr.2 hN2 (by omega) (by omega) (by omega) (k + 1)) k
  by_cases k5 : kind = 5
  · subst k5
    have hr := mP c.n0 id block data
    exact zV c ⟨5, 0, id, block, data, g, keeps⟩ _ _ _ _ (fun k => wO c.n0 id block data (by omega) (by omega) (by omega) (by omega) (by omega) (k + 3)) (fun k => cZ c _ _ h3 (hn.nw hr.1) hr.2 hN2 (by omega) (by omega) (by omega) (k + 1)) k
  by_cases k6 : kind = 6
  · subst k6
    exact vv c ⟨6, 0, id, block, data, g, keeps⟩ _ _ (fun k => si c h hN2 ha hm hs k) k
  by_cases k7 : kind = 7
  · subst k7
    exact pf c ⟨7, 0, id, block, data, g, keeps⟩ _ _ (fun k => EA (ax c 0 false) (gy h 0 false) hN2 (by omega) (by omega) (k + 2)) k
  by_cases k8 : kind = 8
  · subst k8
    exact Bh c ⟨8, 0, id, block, data, g, keeps⟩ _ _ (fun k => EA c h hN2 (by omega) (by omega) (k + 2)) k
  by_cases k9 : kind = 9
  · subst k9
    have ht := rF h.link 0
    have f0 := h.link.1
    have f1 := h.link.2.1
    have hr := em c.n0 (dk c.link 0).1
    exact uV c ⟨9, 0, id, block, data, g, keeps⟩ _ _ _ _ _ _ _ (fun k => wa c.link 0 (by omega) (by omega) (k + 11)) (fun k => jz c.n0 _ (Nat.le_trans ht.2 (by decide)) (by omega) (by omega) k) (fun k => cZ { c with link := (dk c.link 0).2.1 } _ _ ⟨h3.n0, h3.n1, ht.1⟩ (hn.nw hr.1) hr.2 hN2 (by omega) (by omega) (by omega) (k + 1)) k
  by_cases k10 : kind = 10
  · subst k10
    exact Ap c ⟨10, 0, id, block, data, g, keeps⟩ _ _ (fun k => cZ c _ [] h3 (hn.nw (Nw.down (a := 3) (Nw.refl _ _))) (aS.nil _) hN2 (by omega) (by omega) (by omega) (k + 1)) k
  by_cases k11 : kind = 11
  · subst k11
    exact uj c ⟨11, 0, id, block, data, g, keeps⟩ _ _ (fun k => qJ c.n0 keeps hn hN hN2 (by omega) (k + 4)) k
  by_cases k12 : kind = 12
  · subst k12
    cases hu : c.n0.up with
    | true =>
      have := zW c ⟨12, 0, id, block, data, g, keeps⟩ _ _ hu (fun k => cZ c (pQ c.n0 g) [] h3 (hn.nw (b := 3) ⟨(wu _ _).le (by omega), Nat.le_refl _, rfl⟩) (aS.nil _) hN2 (by omega) (by omega) (by omega) (k + 1)) k
      have e : du c.n0 g = pQ c.n0 g := by simp only [du, pQ, hu, cond_true]
      show _ = some (Rc (bC c 0 (du c.n0 g) []))
      rw [e]
      exact this
    | false =>
      have := zM c ⟨12, 0, id, block, data, g, keeps⟩ _ _ hu (fun k => cZ c c.n0 [] h3 (hn.nw (b := 3) (Nw.refl _ _)) (aS.nil _) hN2 (by omega) (by omega) (by omega) (k + 1)) k
      have e : du c.n0 g = c.n0 := by unfold du; rw [hu]; rfl
      show _ = some (Rc (bC c 0 (du c.n0 g) []))
      rw [e]
      exact this
  by_cases k13 : kind = 13
  · subst k13
    show _ = some (Rc (aZ c 0 (cI c.n0 g), []))
    cases hq : decide ((c.n0.draws.length : Int) < 1000) with
    | true =>
      have e : aZ c 0 (cI c.n0 g) = Cl.mk (drawn c.n0 g) c.n1 c.link c.w0 c.w1 := by
        have e1 : cI c.n0 g = drawn c.n0 g := by unfold cI; rw [hq]; rfl
        rw [e1]; rfl
      rw [e]
      exact zh c ⟨13, 0, id, block, data, g, keeps⟩ (by omega) hq k
    | false =>
      have e : aZ c 0 (cI c.n0 g) = c := by
        have e1 : cI c.n0 g = c.n0 := by unfold cI; rw [hq]; rfl
        rw [e1]; rfl
      rw [e]
      exact zp c ⟨13, 0, id, block, data, g, keeps⟩ hq k
  by_cases k14 : kind = 14
  · subst k14
    have hr := em c.n0 data
    exact Aj c ⟨14, 0, id, block, data, g, keeps⟩ _ _ _ _ _ _ (fun k => cV data c.link.ses (by omega) (k + 4)) (fun k => jz c.n0 data (by omega) (by omega) (by omega) k) (fun k => cZ c _ _ h3 (hn.nw hr.1) hr.2 hN2 (by omega) (by omega) (by omega) (k + 1)) k
  have hk : ∀ j : Int, kind ≠ j → (kind == j) = false := fun j hj => beq_false_of_ne hj
  have e : oh c ⟨kind, 0, id, block, data, g, keeps⟩ 0 c.n0 = (c, []) := by
    unfold oh
    simp only [hk _ k1, hk _ k2, hk _ k3, hk _ k4, hk _ k5, hk _ k6, hk _ k7, hk _ k8, hk _ k9, hk _ k10, hk _ k11, hk _ k12, hk _ k13, hk _ k14, cond_false]
  rw [e]
  exact yV c ⟨kind, 0, id, block, data, g, keeps⟩ (hk _ k1) (hk _ k2) (hk _ k3) (hk _ k4) (hk _ k5) (hk _ k6) (hk _ k7) (hk _ k8) (hk _ k9) (hk _ k10) (hk _ k11) (hk _ k12) (hk _ k13) (hk _ k14) k
theorem sk {N a m s : Nat} (c : Cl) (h : ClB N a m s c) (hN2 : N ≤ 1000) (ha : a ≤ 860) (hm : m ≤ 90000) (hs : s ≤ 90000) (k : Nat) : aj PP GL XX HH NN (k + 13) 60 [.agg c.cs, .c (ii 1)] [] = some (Rc (ey c 1)) := by
  have h0 := rV h 1
  have h1 := oY h0
  have h2 := pt h1.1
  have l1 := h1.2.1
  have l2 := h2.2.1
  exact v5 c (dU { ax c 1 true with link := cL c.link }).1 (fP (dU { ax c 1 true with link := cL c.link }).1).1 (dU { ax c 1 true with link := cL c.link }).2 (fP (dU { ax c 1 true with link := cL c.link }).1).2 (by omega) (fun k => cZ { ax c 1 true with link := cL c.link } _ _ h0 (ge h.n0 _) (fy _ _).2 hN2 (by omega) (by omega) (by omega) k) (fun k => cW _ _ _ h1.1 (ge h1.1.n1 _) (fy _ _).2 hN2 (by omega) (by omega) (by omega) k) k
set_option maxRecDepth 100000 in
theorem Dx {N a m s : Nat} (c : Cl) (h : ClB N a m s c) (hN : 0 < N) (hN2 : N ≤ 1000) (ha : a ≤ 860) (hm : m ≤ 90000) (hs : s ≤ 90000) (kind id block g : Int) (data : ByteArray) (keeps : List Bool) (hd : data.size ≤ 300) (k : Nat) : aj PP GL XX HH NN (k + 14) 42 [.agg c.cs, .agg (Evt.mk kind 1 id block data g keeps).cs] [] = some (Rc (oh c ⟨kind, 1, id, block, data, g, keeps⟩ 1 c.n1)) := by
  have hn := h.n1
  have h3 := h.le (show a ≤ a + 3 by omega) (Nat.le_refl m) (Nat.le_refl s)
  have a0 := hn.sure
  have b0 := hn.2.1
  have d0 := hn.draws
  have e0 := hn.mints
  by_cases k1 : kind = 1
  · subst k1
    have hr := jg c.n1 id
    exact uF c ⟨1, 1, id, block, data, g, keeps⟩ _ _ _ _ (fun k => pK c.n1 id (by omega) (by omega) (k + 3)) (fun k => cW c _ _ h3 (hn.nw hr.1) hr.2 hN2 (by omega) (by omega) (by omega) (k + 1)) k
  by_cases k2 : kind = 2
  · subst k2
    have hr := kO c.n1 id
    exact wy c ⟨2, 1, id, block, data, g, keeps⟩ _ _ _ _ (fun k => te c.n1 id (by omega) (by omega) (k + 3)) (fun k => cW c _ _ h3 (hn.nw hr.1) hr.2 hN2 (by omega) (by omega) (by omega) (k + 1)) k
  by_cases k3 : kind = 3
  · subst k3
    have hr := i8 c.n1 id
    exact vu c ⟨3, 1, id, block, data, g, keeps⟩ _ _ _ _ (fun k => qO c.n1 id (by omega) (by omega) (k + 3)) (fun k => cW c _ _ h3 (hn.nw hr.1) hr.2 hN2 (by omega) (by omega) (by omega) (k + 1)) k
  by_cases k4 : kind = 4
  · subst k4
    have hr := mF c.n1 id block
    exact Bt c ⟨4, 1, id, block, data, g, keeps⟩ _ _ _ _ (fun k => vM c.n1 id block (by omega) (k + 7)) (fun k => cW c _ _ h3 (hn.nw hr.1) hr.2 hN2 (by omega) (by omega) (by omega) (k + 1)) k
  by_cases k5 : kind = 5
  · subst k5
    have hr := mP c.n1 id block data
    exact zJ c ⟨5, 1, id, block, data, g, keeps⟩ _ _ _ _ (fun k => wO c.n1 id block data (by omega) (by omega) (by omega) (by omega) (by omega) (k + 3)) (fun k => cW c _ _ h3 (hn.nw hr.1) hr.2 hN2 (by omega) (by omega) (by omega) (k + 1)) k
  by_cases k6 : kind = 6
  · subst k6
    exact uD c ⟨6, 1, id, block, data, g, keeps⟩ _ _ (fun k => sk c h hN2 ha hm hs k) k
  by_cases k7 : kind = 7
  · subst k7
    exact pr c ⟨7, 1, id, block, data, g, keeps⟩ _ _ (fun k => EA (ax c 1 false) (gy h 1 false) hN2 (by omega) (by omega) (k + 2)) k
  by_cases k8 : kind = 8
  · subst k8
    exact Bn c ⟨8, 1, id, block, data, g, keeps⟩ _ _ (fun k => EA c h hN2 (by omega) (by omega) (k + 2)) k
  by_cases k9 : kind = 9
  · subst k9
    have ht := rF h.link 1
    have f0 := h.link.1
    have f1 := h.link.2.1
    have hr := em c.n1 (dk c.link 1).1
    exact uW c ⟨9, 1, id, block, data, g, keeps⟩ _ _ _ _ _ _ _ (fun k => wa c.link 1 (by omega) (by omega) (k + 11)) (fun k => jz c.n1 _ (Nat.le_trans ht.2 (by decide)) (by omega) (by omega) k) (fun k => cW { c with link := (dk c.link 1).2.1 } _ _ ⟨h3.n0, h3.n1, ht.1⟩ (hn.nw hr.1) hr.2 hN2 (by omega) (by omega) (by omega) (k + 1)) k
  by_cases k10 : kind = 10
  · subst k10
    exact yS c ⟨10, 1, id, block, data, g, keeps⟩ _ _ (fun k => cW c _ [] h3 (hn.nw (Nw.down (a := 3) (Nw.refl _ _))) (aS.nil _) hN2 (by omega) (by omega) (by omega) (k + 1)) k
  by_cases k11 : kind = 11
  · subst k11
    exact u6 c ⟨11, 1, id, block, data, g, keeps⟩ _ _ (fun k => qJ c.n1 keeps hn hN hN2 (by omega) (k + 4)) k
  by_cases k12 : kind = 12
  · subst k12
    cases hu : c.n1.up with
    | true =>
      have := zd c ⟨12, 1, id, block, data, g, keeps⟩ _ _ hu (fun k => cW c (pQ c.n1 g) [] h3 (hn.nw (b := 3) ⟨(wu _ _).le (by omega), Nat.le_refl _, rfl⟩) (aS.nil _) hN2 (by omega) (by omega) (by omega) (k + 1)) k
      have e : du c.n1 g = pQ c.n1 g := by simp only [du, pQ, hu, cond_true]
      show _ = some (Rc (bC c 1 (du c.n1 g) []))
      rw [e]
      exact this
    | false =>
      have := zr c ⟨12, 1, id, block, data, g, keeps⟩ _ _ hu (fun k => cW c c.n1 [] h3 (hn.nw (b := 3) (Nw.refl _ _)) (aS.nil _) hN2 (by omega) (by omega) (by omega) (k + 1)) k
      have e : du c.n1 g = c.n1 := by unfold du; rw [hu]; rfl
      show _ = some (Rc (bC c 1 (du c.n1 g) []))
      rw [e]
      exact this
  by_cases k13 : kind = 13
  · subst k13
    show _ = some (Rc (aZ c 1 (cI c.n1 g), []))
    cases hq : decide ((c.n1.draws.length : Int) < 1000) with
    | true =>
      have e : aZ c 1 (cI c.n1 g) = Cl.mk c.n0 (drawn c.n1 g) c.link c.w0 c.w1 := by
        have e1 : cI c.n1 g = drawn c.n1 g := by unfold cI; rw [hq]; rfl
        rw [e1]; rfl
      rw [e]
      exact zH c ⟨13, 1, id, block, data, g, keeps⟩ (by omega) hq k
    | false =>
      have e : aZ c 1 (cI c.n1 g) = c := by
        have e1 : cI c.n1 g = c.n1 := by unfold cI; rw [hq]; rfl
        rw [e1]; rfl
      rw [e]
      exact yM c ⟨13, 1, id, block, data, g, keeps⟩ hq k
  by_cases k14 : kind = 14
  · subst k14
    have hr := em c.n1 data
    exact yF c ⟨14, 1, id, block, data, g, keeps⟩ _ _ _ _ _ _ (fun k => cV data c.link.ses (by omega) (k + 4)) (fun k => jz c.n1 data (by omega) (by omega) (by omega) k) (fun k => cW c _ _ h3 (hn.nw hr.1) hr.2 hN2 (by omega) (by omega) (by omega) (k + 1)) k
  have hk : ∀ j : Int, kind ≠ j → (kind == j) = false := fun j hj => beq_false_of_ne hj
  have e : oh c ⟨kind, 1, id, block, data, g, keeps⟩ 1 c.n1 = (c, []) := by
    unfold oh
    simp only [hk _ k1, hk _ k2, hk _ k3, hk _ k4, hk _ k5, hk _ k6, hk _ k7, hk _ k8, hk _ k9, hk _ k10, hk _ k11, hk _ k12, hk _ k13, hk _ k14, cond_false]
  rw [e]
  exact zf c ⟨kind, 1, id, block, data, g, keeps⟩ (hk _ k1) (hk _ k2) (hk _ k3) (hk _ k4) (hk _ k5) (hk _ k6) (hk _ k7) (hk _ k8) (hk _ k9) (hk _ k10) (hk _ k11) (hk _ k12) (hk _ k13) (hk _ k14) k
theorem Dz (c : Cl) (e : Evt) (h0 : (Evt.node e == 0) = false) (h1 : (Evt.node e == 1) = false) (k : Nat) : aj PP GL XX HH NN (k + 14) 42 [A.agg (Cl.cs c), A.agg (Evt.cs e)] [] = some ([Res.agg (Cl.cs c), Res.top 5 []], []) := by
  exact rt (en3 h0 <| en h1 <| e0) rfl
theorem Gz {N a m s : Nat} (c : Cl) (e : Evt) (h : ClB N a m s c) (hN : 0 < N) (hN2 : N ≤ 1000) (ha : a ≤ 860) (hm : m ≤ 90000) (hs : s ≤ 90000) (hd : e.data.size ≤ 300) (k : Nat) : aj PP GL XX HH NN (k + 14) 42 [.agg c.cs, .agg e.cs] [] = some (Rc (doM c e)) := by
  obtain ⟨kind, node, id, block, data, g, keeps⟩ := e
  rcases pR node with rfl | rfl | ⟨h0, h1⟩
  · exact CW c h hN hN2 ha hm hs kind id block g data keeps hd k
  · exact Dx c h hN hN2 ha hm hs kind id block g data keeps hd k
  · have e : doM c ⟨kind, node, id, block, data, g, keeps⟩ = (c, []) := by
      unfold doM
      simp only [h0, h1, Bool.not_false, Bool.and_self, cond_true]
    rw [e]
    exact Dz c ⟨kind, node, id, block, data, g, keeps⟩ h0 h1 k
end Go.Dm
namespace Go.Dm
open Go
def Spl (l : List Evt) (c0 : List (List C)) (c1 : Int) (c2 : Cl) : St := St.mk (T.hole :: tc (C.slice 7 (List.map Evt.cs l)) :: T.k (K.v (V.ptr 0 0)) :: T.hole :: T.k (K.v (V.ptr 1 0)) :: T.hole :: T.k (K.v (V.own 5 c0 (Tk.tok 0))) :: tc (ii c1) :: hs 23 []) [List.map V.c (Cl.cs c2), [V.c (ii 0), V.c (bo false), V.own 1 [] Tk.exact, V.own 2 [] Tk.exact, V.c (ii 0), V.c (bo false), V.c (ii 0), V.c (u 0), V.c (u 0), V.c (u 0), V.c (u 0), V.c (bo false), V.c (bo false), V.c (bo false), V.c (w4 0), V.c (bo false), V.c (ii 0), V.c (u 0), V.c (ii 0), V.c (u 0), V.c (u 0), V.c (u 0), V.c (u 0), V.c (bo false), V.c (bo false), V.c (bo false), V.c (bo false), V.c (w4 0), V.c (bo false), V.c (bo false), V.c (ii 0), V.c (ii 0), V.c (st ⟨#[]⟩), V.c (bo false), V.c (ii 0), V.c (ii 0), V.c (bo false), V.own 1 [] Tk.exact, V.own 3 [] Tk.exact, V.c (ii 0), V.c (bo false), V.own 1 [] Tk.exact, V.own 2 [] Tk.exact, V.c (ii 0), V.c (bo false), V.c (ii 0), V.c (u 0), V.c (u 0), V.c (u 0), V.c (u 0), V.c (bo false), V.c (bo false), V.c (bo false), V.c (w4 0), V.c (bo false), V.c (ii 0), V.c (u 0), V.c (ii 0), V.c (u 0), V.c (u 0), V.c (u 0), V.c (u 0), V.c (bo false), V.c (bo false), V.c (bo false), V.c (bo false), V.c (w4 0), V.c (bo false), V.c (bo false), V.c (ii 0), V.c (ii 0), V.c (st ⟨#[]⟩), V.c (bo false), V.c (ii 0), V.c (ii 0), V.c (bo false), V.own 1 [] Tk.exact, V.own 3 [] Tk.exact, V.c (bo false), V.c (u 0), V.own 1 [] Tk.exact, V.own 1 [] Tk.exact, V.c (bo false), V.c (bo false)]] [c0.length]
theorem FW (l : List Evt) (out : List Ou) (i : Nat) (c : Cl) (x : Evt) (c2 : Cl) (o2 : List Ou) (hx : l[i]? = some x) (ho : out.length ≤ 100000) (ho2 : o2.length ≤ 100) (hD : ∀ k, aj PP GL XX HH NN (k + 15) 42 [A.agg (Cl.cs c), A.agg (Evt.cs x)] [] = some ([Res.agg (Cl.cs c2), Res.top 5 (List.map Ou.cs o2)], [])) (k : Nat) (z0 : (decide ((↑i : Int) < (↑(l.length) : Int))) = true) : bp (EE (k + 15)) (HH 30) NN (LB PP 30 3) 2 1 (Spl l (List.map Ou.cs out) (↑i : Int) c) (Spl l (List.map Ou.cs (out ++ o2)) (IntKind.wrap .i64 ((↑i : Int) + 1)) c2) :=
  nx (ep (av (Evt.cs) (l)) <| eg (G.len (l.length)) <| eb z0 <| ep (rfl : (↑i : Int) = (↑i : Int)) <| ep (aB (f := Evt.cs) hx) <| eg (G.idx i [ii x.kind, ii x.node, ii x.id, ii x.block, st x.data, u x.n, C.slice 1 (List.map eB x.keeps)]) <| ec (hD k) <| ep (bD (Ou.cs) (out) (o2)) <| ep (aP (Ou.cs) (l := out ++ o2) (n := 1073741824) (by simp only [vr]; omega)) <| ep (Eq.refl (List.length (List.map Ou.cs out))) <| eg (G.app (List.map Ou.cs (out ++ o2))) <| e0)
def qh (l : List Evt) (out : List Ou) (i : Nat) (c : Cl) : St := St.mk (T.hole :: tc (C.slice 7 (List.map Evt.cs l)) :: T.k (K.v (V.ptr 0 0)) :: T.hole :: T.k (K.v (V.ptr 1 0)) :: T.hole :: T.k (K.v (V.own 5 (List.map Ou.cs out) (Tk.tok 0))) :: tc (ii (↑i : Int)) :: T.hole :: T.hole :: tc (ii (↑i : Int)) :: tc (C.slice 7 (List.map Evt.cs l)) :: tc (ii (↑(l.length) : Int)) :: tc (bo (decide ((↑i : Int) < (↑(l.length) : Int)))) :: hs 17 []) [[V.c (ii c.n0.id), V.c (bo c.n0.up), V.c (C.slice 1 (List.map eS c.n0.store.disk.sure)), V.c (C.slice 2 (List.map Wr.cs c.n0.store.disk.cache)), V.c (ii c.n0.store.disk.fuse), V.c (bo c.n0.store.disk.dead), V.c (ii c.n0.store.super.blocks), V.c (u c.n0.store.super.v.cur), V.c (u c.n0.store.super.v.bit), V.c (u c.n0.store.super.v.o0), V.c (u c.n0.store.super.v.o1), V.c (bo c.n0.store.super.inc), V.c (bo c.n0.store.super.pri), V.c (bo c.n0.store.super.dis), V.c (w4 (mi c.n0.store.mask)), V.c (bo c.n0.primary), V.c (ii c.n0.state), V.c (u c.n0.ses), V.c (ii c.n0.peer.blocks), V.c (u c.n0.peer.v.cur), V.c (u c.n0.peer.v.bit), V.c (u c.n0.peer.v.o0), V.c (u c.n0.peer.v.o1), V.c (bo c.n0.peer.inc), V.c (bo c.n0.peer.was), V.c (bo c.n0.peer.dis), V.c (bo c.n0.peer.pri), V.c (w4 (mi c.n0.peer.mask)), V.c (bo c.n0.peerPri), V.c (bo c.n0.req.on), V.c (ii c.n0.req.id), V.c (ii c.n0.req.block), V.c (st c.n0.req.data), V.c (bo c.n0.asking), V.c (ii c.n0.askId), V.c (ii c.n0.wanted), V.c (bo c.n0.minted), V.c (C.slice 1 (List.map eU c.n0.draws)), V.c (C.slice 3 (List.map Mi.cs c.n0.mints)), V.c (ii c.n1.id), V.c (bo c.n1.up), V.c (C.slice 1 (List.map eS c.n1.store.disk.sure)), V.c (C.slice 2 (List.map Wr.cs c.n1.store.disk.cache)), V.c (ii c.n1.store.disk.fuse), V.c (bo c.n1.store.disk.dead), V.c (ii c.n1.store.super.blocks), V.c (u c.n1.store.super.v.cur), V.c (u c.n1.store.super.v.bit), V.c (u c.n1.store.super.v.o0), V.c (u c.n1.store.super.v.o1), V.c (bo c.n1.store.super.inc), V.c (bo c.n1.store.super.pri), V.c (bo c.n1.store.super.dis), V.c (w4 (mi c.n1.store.mask)), V.c (bo c.n1.primary), V.c (ii c.n1.state), V.c (u c.n1.ses), V.c (ii c.n1.peer.blocks), V.c (u c.n1.peer.v.cur), V.c (u c.n1.peer.v.bit), V.c (u c.n1.peer.v.o0), V.c (u c.n1.peer.v.o1), V.c (bo c.n1.peer.inc), V.c (bo c.n1.peer.was), V.c (bo c.n1.peer.dis), V.c (bo c.n1.peer.pri), V.c (w4 (mi c.n1.peer.mask)), V.c (bo c.n1.peerPri), V.c (bo c.n1.req.on), V.c (ii c.n1.req.id), V.c (ii c.n1.req.block), V.c (st c.n1.req.data), V.c (bo c.n1.asking), V.c (ii c.n1.askId), V.c (ii c.n1.wanted), V.c (bo c.n1.minted), V.c (C.slice 1 (List.map eU c.n1.draws)), V.c (C.slice 3 (List.map Mi.cs c.n1.mints)), V.c (bo c.link.up), V.c (u c.link.ses), V.c (C.slice 1 (List.map eS c.link.to0)), V.c (C.slice 1 (List.map eS c.link.to1)), V.c (bo c.w0), V.c (bo c.w1)], [V.c (ii 0), V.c (bo false), V.own 1 [] Tk.exact, V.own 2 [] Tk.exact, V.c (ii 0), V.c (bo false), V.c (ii 0), V.c (u 0), V.c (u 0), V.c (u 0), V.c (u 0), V.c (bo false), V.c (bo false), V.c (bo false), V.c (w4 0), V.c (bo false), V.c (ii 0), V.c (u 0), V.c (ii 0), V.c (u 0), V.c (u 0), V.c (u 0), V.c (u 0), V.c (bo false), V.c (bo false), V.c (bo false), V.c (bo false), V.c (w4 0), V.c (bo false), V.c (bo false), V.c (ii 0), V.c (ii 0), V.c (st ⟨#[]⟩), V.c (bo false), V.c (ii 0), V.c (ii 0), V.c (bo false), V.own 1 [] Tk.exact, V.own 3 [] Tk.exact, V.c (ii 0), V.c (bo false), V.own 1 [] Tk.exact, V.own 2 [] Tk.exact, V.c (ii 0), V.c (bo false), V.c (ii 0), V.c (u 0), V.c (u 0), V.c (u 0), V.c (u 0), V.c (bo false), V.c (bo false), V.c (bo false), V.c (w4 0), V.c (bo false), V.c (ii 0), V.c (u 0), V.c (ii 0), V.c (u 0), V.c (u 0), V.c (u 0), V.c (u 0), V.c (bo false), V.c (bo false), V.c (bo false), V.c (bo false), V.c (w4 0), V.c (bo false), V.c (bo false), V.c (ii 0), V.c (ii 0), V.c (st ⟨#[]⟩), V.c (bo false), V.c (ii 0), V.c (ii 0), V.c (bo false), V.own 1 [] Tk.exact, V.own 3 [] Tk.exact, V.c (bo false), V.c (u 0), V.own 1 [] Tk.exact, V.own 1 [] Tk.exact, V.c (bo false), V.c (bo false)]] [List.length (List.map Ou.cs out)]
theorem EG (l : List Evt) (out : List Ou) (i : Nat) (c : Cl) (k : Nat) (z0 : (decide ((↑i : Int) < (↑(l.length) : Int))) = false) : cx (EE (k + 15)) (HH 30) NN (LB PP 30 3) (Spl l (List.map Ou.cs out) (↑i : Int) c) (Ext.exit 0) (qh l out i c) :=
  ou (ep (av (Evt.cs) (l)) <| eg (G.len (l.length)) <| eb z0 <| e0)
abbrev wW (x : Cl × List Ou) (e : Evt) : Cl × List Ou := ((doM x.1 e).1, x.2 ++ (doM x.1 e).2)
theorem Lpl {N a m s : Nat} (c : Cl) (l : List Evt) (h : ClB N a m s c) (hN : 0 < N) (hN2 : N ≤ 1000) (ha : a + 4 * l.length ≤ 860) (hm : m + l.length ≤ 90000) (hs : s + 6 * l.length ≤ 90000) (hd : ∀ e ∈ l, e.data.size ≤ 300) (k : Nat) : br (EE (k + 15)) (HH 30) NN (LB PP 30 3) (Spl l [] 0 c) (.exit 0) (qh l (ja c l).2 l.length (ja c l).1) := by
  refine eL (E := EE (k + 15)) (fun (x : Cl × List Ou) (i : Nat) => Spl l (x.2.map Ou.cs) (i : Nat) x.1) (fun i x => ClB N (a + 4 * i) (m + i) (s + 6 * i) x.1 ∧ x.2.length ≤ 18 * i) l wW (c, []) (nv := 2) (nt := 1) (e := .exit 0) (t := fun x => qh l x.2 l.length x.1) rfl (by kernel_rfl) (by kernel_rfl) ⟨h, Nat.le_refl _⟩ (fun x i e hx hp => ?_) (fun hp => EG l _ _ _ k dge) (by unfold NN; omega)
  obtain ⟨c1, out⟩ := x
  obtain ⟨p1, p2⟩ := hp
  simp only at p1 p2
  have hlt := dJ hx
  have hw := sj hx (by omega)
  have hb := yE p1 e
  have hl := hb.2.1
  refine ⟨?_, hb.1, ?_⟩
  · have := FW l out i c1 e (doM c1 e).1 (doM c1 e).2 hx (by omega) (by omega) (fun k => Gz c1 e p1 hN hN2 (by omega) (by omega) (by omega) (hd e (List.mem_of_getElem? hx)) (k + 1)) k (dlt hx)
    rwa [hw] at this
  · simp only [List.length_append]; omega
theorem EF (c : Cl) (l : List Evt) (c3 : Cl) (out : List Ou) (ho : out.length ≤ 100000) (hL : ∀ k, br (EE (k + 15)) (HH 30) NN (LB PP 30 3) (Spl l [] 0 c) (Ext.exit 0) (qh l out (l.length) c3)) (k : Nat) : aj PP GL XX HH NN (k + 16) 30 [A.agg (Cl.cs c), A.c (C.slice 7 (List.map Evt.cs l))] [] = some ([Res.agg (Cl.cs c3), Res.top 5 (List.map Ou.cs out)], []) := by
  exact rt (eg (G.loop (Ext.exit 0) (qh l out (l.length) c3)) <| ep (hL k) <| eq1 (List.length (List.map Ou.cs out)) <| e0) rfl
theorem BG (c : Cl) (k : Nat) : aj PP GL XX HH NN (k + 16) 30 [A.agg (Cl.cs c), A.nil] [] = some ([Res.agg (Cl.cs c), Res.top 5 []], []) := by
  exact rt (eg (G.un) <| ep (rfl : (0 : Nat) = (0 : Nat)) <| eg (G.len 0) <| ef <| ep ((rfl : (0 : Nat) = (0 : Nat))).symm <| e0) rfl
theorem xE {N : Nat} : ∀ (l : List Evt) {a m s : Nat} {c : Cl}, ClB N a m s c → (ja c l).2.length ≤ 18 * l.length
  | l, a, m, s, c, h => by
    have key : ∀ (l : List Evt) {a m s : Nat} (x : Cl × List Ou), ClB N a m s x.1 → (l.foldl wW x).2.length ≤ x.2.length + 18 * l.length := by
      intro l
      induction l with
      | nil => intro a m s x h; exact Nat.le_refl _
      | cons e l ih =>
        intro a m s x h
        rw [List.foldl_cons]
        have hb := yE h e
        have := ih (wW x e) hb.1
        have h2 := hb.2.1
        simp only [List.length_append, List.length_cons] at this ⊢
        omega
    have := key l (c, []) h
    simp only [List.length_nil, Nat.zero_add] at this
    exact this
theorem AV {N a m s : Nat} (c : Cl) (l : List Evt) (h : ClB N a m s c) (hN : 0 < N) (hN2 : N ≤ 1000) (ha : a + 4 * l.length ≤ 860) (hm : m + l.length ≤ 90000) (hs : s + 6 * l.length ≤ 90000) (hd : ∀ e ∈ l, e.data.size ≤ 300) (k : Nat) : aj PP GL XX HH NN (k + 16) 30 [.agg c.cs, .c (.slice 7 (l.map Evt.cs))] [] = some (Rc (ja c l)) := by
  have ho := xE l h
  exact EF c l _ _ (by omega) (fun k => Lpl c l h hN hN2 ha hm hs hd k) k
def AH (n : Nat) : Cl := ⟨(bt (e8 0 (cr n 7)) []).1, (bt (e8 1 (cr n 7)) []).1, lk0, false, false⟩
theorem vY (n : Nat) (h1 : cH (aU n 7) = true) : Ak (n + 2) (cr n 7) := by
  refine ⟨by simp [cr], fun s hs => ?_, fun w hw => by cases hw⟩
  simp only [cr, List.mem_append, List.mem_cons, List.not_mem_nil, or_false, List.mem_replicate] at hs
  rcases hs with (rfl | rfl) | ⟨_, rfl⟩
  · have : (bn (aU n 7)).1 = bK (dE (aU n 7)) := by unfold bn; rw [h1]; rfl
    rw [this, ar, al]
    decide
  · rw [ar, az]; decide
  · decide
theorem oQ (n : Nat) (i : Int) (h1 : cH (aU n 7) = true) : NdB (n + 2) 0 0 (e8 i (cr n 7)) := ⟨vY n h1, Nat.zero_le _, Nat.zero_le _⟩
theorem Dh (n : Nat) (h1 : cH (aU n 7) = true) : ClB (n + 2) 0 0 0 (AH n) := ⟨(oQ n 0 h1).nw (jo _ _), (oQ n 1 h1).nw (jo _ _), LkB.none _ _ _⟩
theorem EO (n : Nat) (h1 : cH (aU n 7) = true) (hn : n ≤ 900) (hF : ∀ k, aj PP GL XX HH NN (k + 9) 71 [.c (ii (n : Int)), .c (u 7)] [] = some ([.agg (cr n 7).cs, .c (ii 0)], [])) (k : Nat) : aj PP GL XX HH NN (k + 10) 49 [.c (ii (n : Int)), .c (u 7)] [] = some ([.agg (AH n).cs, .c (ii 0)], []) :=
  D6 n 7 (cr n 7) _ _ _ _ hF (fun k => by
    have := nL (e8 0 (cr n 7)) (oQ n 0 h1) (by omega) (by omega) (by omega) k
    rw [sI] at this
    exact this) (fun k => by
    have := nL (e8 1 (cr n 7)) (oQ n 1 h1) (by omega) (by omega) (by omega) k
    rw [sI] at this
    exact this) k
theorem Ew (n : Nat) (h : n = 1 ∨ n = 2 ∨ n = 3 ∨ n = 4) : cH (aU n 7) = true := by
  rcases h with rfl | rfl | rfl | rfl <;> decide
theorem Fs (n : Nat) (h : n = 1 ∨ n = 2 ∨ n = 3 ∨ n = 4) : ((bn (aU n 7)).2 == 0) = true := by
  unfold bn
  rw [Ew n h]
  rfl
theorem Az (n : Nat) (h : n = 1 ∨ n = 2 ∨ n = 3 ∨ n = 4) (k : Nat) : aj PP GL XX HH NN (k + 10) 49 [.c (ii (n : Int)), .c (u 7)] [] = some ([.agg (AH n).cs, .c (ii 0)], []) := by
  refine EO n (Ew n h) (by omega) (fun k => ?_) k
  have h2 := Fs n h
  rcases h with rfl | rfl | rfl | rfl
  · exact Ct 7 h2 (fun k => lg (aU 1 7) k) (k + 3)
  · exact Bb 7 h2 (fun k => lg (aU 2 7) k) (k + 3)
  · exact Bg 7 h2 (fun k => lg (aU 3 7) k) (k + 3)
  · exact Ce 7 h2 (fun k => lg (aU 4 7) k) (k + 3)
abbrev lY (b : Int) : Int := IntKind.wrap .i64 (1 + IntKind.wrap .i64 (b.tmod 4))
theorem DA (b : Int) (l : List Evt) (c : Cl) (c2 : Cl) (o : List Ou) (hN : ∀ k, aj PP GL XX HH NN (k + 16) 49 [A.c (ii (lY b)), A.c (u 7)] [] = some ([Res.agg (Cl.cs c), Res.c (ii 0)], [])) (hP : ∀ k, aj PP GL XX HH NN (k + 16) 30 [A.agg (Cl.cs c), A.c (C.slice 7 (List.map Evt.cs l))] [] = some ([Res.agg (Cl.cs c2), Res.top 5 (List.map Ou.cs o)], [])) (k : Nat) : aj PP GL XX HH NN (k + 17) 29 [A.c (by8 b), A.c (C.slice 7 (List.map Evt.cs l))] [] = some ([Res.agg (Cl.cs c2)], []) := by
  exact rt (ep (show (4 : Int) ≠ (0 : Int) from by decide) <| eg (G.ok) <| ec (ko (k + 15)) <| ec (hN k) <| ec (hP k) <| e0) rfl
theorem C2 (b : Int) (c : Cl) (hN : ∀ k, aj PP GL XX HH NN (k + 16) 49 [A.c (ii (lY b)), A.c (u 7)] [] = some ([Res.agg (Cl.cs c), Res.c (ii 0)], [])) (k : Nat) : aj PP GL XX HH NN (k + 17) 29 [A.c (by8 b), A.nil] [] = some ([Res.agg (Cl.cs c)], []) := by
  exact rt (ep (show (4 : Int) ≠ (0 : Int) from by decide) <| eg (G.ok) <| ec (ko (k + 15)) <| ec (hN k) <| ec (BG c k) <| e0) rfl
def fB (b : Int) : Nat := (b.tmod 4).toNat + 1
theorem jd (b : Int) (h : 0 ≤ b) : fB b = 1 ∨ fB b = 2 ∨ fB b = 3 ∨ fB b = 4 := by
  unfold fB
  have h1 := Int.tmod_nonneg 4 h
  have h2 := Int.tmod_lt_of_pos b (show (0 : Int) < 4 by decide)
  omega
theorem qN (b : Int) (h : 0 ≤ b) : lY b = (fB b : Int) := by
  unfold lY fB
  have h1 := Int.tmod_nonneg 4 h
  have h2 := Int.tmod_lt_of_pos b (show (0 : Int) < 4 by decide)
  rw [eu (x := b.tmod 4) (by omega) (by omega), eu (by omega) (by omega)]
  omega
def lC (b : Int) (l : List Evt) : Cl := (ja (AH (fB b)) l).1
theorem rG (b : Int) (hb : 0 ≤ b) (l : List Evt) (hl : l.length ≤ 200) (hd : ∀ e ∈ l, e.data.size ≤ 300) (k : Nat) : aj PP GL XX HH NN (k + 17) 29 [.c (by8 b), .c (.slice 7 (l.map Evt.cs))] [] = some ([.agg (lC b l).cs], []) := by
  have h4 := jd b hb
  exact DA b l _ _ (ja (AH (fB b)) l).2 (fun k => by rw [qN b hb]; exact Az _ h4 (k + 6)) (fun k => AV (AH (fB b)) l (Dh _ (Ew _ h4)) (by omega) (by omega) (by omega) (by omega) (by omega) hd k) k
theorem zD (b : Int) (hb : 0 ≤ b) (k : Nat) : aj PP GL XX HH NN (k + 17) 29 [.c (by8 b), .nil] [] = some ([.agg (lC b []).cs], []) := by
  have h4 := jd b hb
  exact C2 b _ (fun k => by rw [qN b hb]; exact Az _ h4 (k + 6)) k
theorem mr (b : Int) (hb : 0 ≤ b) (l : List Evt) : ClB (fB b + 2) (4 * l.length) l.length (6 * l.length) (lC b l) := by
  have := w6 l (Dh _ (Ew _ (jd b hb)))
  exact this.le (by omega) (by omega) (by omega)
end Go.Dm
namespace Go.Dm
open Go
theorem wQ (l : List Mi) (hl : l.length ≤ 100000) (k : Nat) : aj PP GL XX HH NN (k + 1) 53 [.c (.slice 3 (l.map Mi.cs))] [] = some ([.c (.map (rB (par l)))], []) := by
  rw [sL (h := uf) rfl]
  unfold uf
  have : (l.map Mi.cs).length ≤ 1000000 := by rw [List.length_map]; omega
  have e : (l.map Mi.cs).mapM Ac = some l := u7 l
  simp only [true_or, true_and, this, if_true, e]
  rfl
theorem DX (n : Int) (hn : 0 ≤ n ∧ n ≤ 1000000) (k : Nat) : aj PP GL XX HH NN (k + 1) 50 [.nil, .c (ii n)] [] = some ([.top 3 []], []) := by
  rw [sL (h := pb 3) rfl]
  unfold pb
  simp only [hn, and_self, if_true]
theorem Co (a : List Mi) (b : List Mi) (h0 : a.length ≤ 1000000) (h1 : b.length ≤ 1000000) (w1 : decide (IntKind.wrap .i64 (0 + (↑(a.length) : Int)) < 0) = false) (w2 : decide (IntKind.wrap .i64 (IntKind.wrap .i64 (0 + (↑(a.length) : Int)) + (↑(b.length) : Int)) < 0) = false) (w3 : (0 : Int) ≤ IntKind.wrap .i64 (IntKind.wrap .i64 (0 + (↑(a.length) : Int)) + (↑(b.length) : Int)) ∧ IntKind.wrap .i64 (IntKind.wrap .i64 (0 + (↑(a.length) : Int)) + (↑(b.length) : Int)) ≤ 1000000) (k : Nat) : aj PP GL XX HH NN (k + 2) 31 [A.c (C.slice 1 [[C.slice 3 (List.map Mi.cs a)], [C.slice 3 (List.map Mi.cs b)]])] [] = some ([Res.top 3 (List.map Mi.cs (a ++ b))], []) := by
  exact rt (ep (rfl : (2 : Nat) = (2 : Nat)) <| eg (G.len 2) <| eg (G.un) <| et <| ep (rfl : (0 : Int) = (0 : Int)) <| ep (rfl : some ([C.slice 3 (List.map Mi.cs a)]) = some ([C.slice 3 (List.map Mi.cs a)])) <| eg (G.idx 0 [C.slice 3 (List.map Mi.cs a)]) <| ep (av (Mi.cs) (a)) <| eg (G.len (a.length)) <| eb w1 <| et <| ep (rfl : (1 : Int) = (1 : Int)) <| ep (rfl : some ([C.slice 3 (List.map Mi.cs b)]) = some ([C.slice 3 (List.map Mi.cs b)])) <| eg (G.idx 1 [C.slice 3 (List.map Mi.cs b)]) <| ep (av (Mi.cs) (b)) <| eg (G.len (b.length)) <| eb w2 <| ef <| ec (DX (IntKind.wrap .i64 (IntKind.wrap .i64 (0 + (↑(a.length) : Int)) + (↑(b.length) : Int))) w3 k) <| ep (rfl : (2 : Nat) = (2 : Nat)) <| eg (G.len 2) <| eg (G.un) <| et <| ep (rfl : (0 : Int) = (0 : Int)) <| ep (rfl : some ([C.slice 3 (List.map Mi.cs a)]) = some ([C.slice 3 (List.map Mi.cs a)])) <| eg (G.idx 0 [C.slice 3 (List.map Mi.cs a)]) <| ep (bQ (List.map Mi.cs a)) <| ep (aP (Mi.cs) (l := a) (n := 1073741824) (by omega)) <| ep ((rfl : (0 : Nat) = (0 : Nat))).symm <| eg (G.app (List.map Mi.cs a)) <| et <| ep (rfl : (1 : Int) = (1 : Int)) <| ep (rfl : some ([C.slice 3 (List.map Mi.cs b)]) = some ([C.slice 3 (List.map Mi.cs b)])) <| eg (G.idx 1 [C.slice 3 (List.map Mi.cs b)]) <| ep (bD (Mi.cs) (a) (b)) <| ep (aP (Mi.cs) (l := a ++ b) (n := 1073741824) (by simp only [vr]; omega)) <| ep (Eq.refl (List.length (List.map Mi.cs a))) <| eg (G.app (List.map Mi.cs (a ++ b))) <| ef <| eq1 (List.length (List.map Mi.cs (a ++ b))) <| e0) rfl
theorem zY (a b : List Mi) (h : a.length + b.length ≤ 1000000) (k : Nat) : aj PP GL XX HH NN (k + 2) 31 [.c (.slice 1 [[.slice 3 (a.map Mi.cs)], [.slice 3 (b.map Mi.cs)]])] [] = some ([.top 3 ((a ++ b).map Mi.cs)], []) := by
  have e1 : IntKind.wrap .i64 (0 + (a.length : Int)) = a.length := by rw [eu (by omega) (by omega)]; omega
  have e2 : IntKind.wrap .i64 (IntKind.wrap .i64 (0 + (a.length : Int)) + (b.length : Int)) = a.length + b.length := by rw [e1, eu (by omega) (by omega)]
  exact Co a b (by omega) (by omega) (by rw [e1]; exact decide_eq_false (by omega)) (by rw [e2]; exact decide_eq_false (by omega)) (by rw [e2]; omega) k
def Six (l : List Int) (g : Int) (c0 : Int) : St := St.mk (tc (C.slice 1 (List.map eU l)) :: tc (u g) :: hs 5 (tc (ii (↑(l.length) : Int)) :: tc (ii c0) :: hs 10 [])) [] []
def sN (l : List Int) (g : Int) (i : Nat) (x : Int) : St := St.mk [tc (C.slice 1 (List.map eU l)), tc (u g), T.hole, T.hole, tc (ii (↑i : Int)), tc (ii (↑i : Int)), T.hole, tc (ii (↑(l.length) : Int)), tc (ii (↑i : Int)), tc (bo (decide ((↑i : Int) < (↑(l.length) : Int)))), tc (ii (↑i : Int)), tc (u g), tc (C.slice 1 (List.map eU l)), tc (ii (↑i : Int)), tc (C.rptr [u x]), tc (u x), tc (bo (g == x)), tc (ii (↑i : Int)), T.hole] [] []
theorem Gk (l : List Int) (g : Int) (i : Nat) (x : Int) (hx : l[i]? = some x) (k : Nat) (z0 : (decide ((↑i : Int) < (↑(l.length) : Int))) = true) (z1 : (g == x) = true) : cx (EE (k + 1)) (HH 36) NN (LB PP 36 2) (Six l g (↑i : Int)) (Ext.ret) (sN l g i x) :=
  ou (eb z0 <| ep (rfl : (↑i : Int) = (↑i : Int)) <| ep (aB (f := eU) hx) <| eg (G.idx i [u x]) <| eb z1 <| e0)
theorem E7 (l : List Int) (g : Int) (i : Nat) (x : Int) (hx : l[i]? = some x) (k : Nat) (z0 : (decide ((↑i : Int) < (↑(l.length) : Int))) = true) (z1 : (g == x) = false) : bp (EE (k + 1)) (HH 36) NN (LB PP 36 2) 0 0 (Six l g (↑i : Int)) (Six l g (IntKind.wrap .i64 ((↑i : Int) + 1))) :=
  nx (eb z0 <| ep (rfl : (↑i : Int) = (↑i : Int)) <| ep (aB (f := eU) hx) <| eg (G.idx i [u x]) <| eb z1 <| e0)
def tO (l : List Int) (g : Int) (i : Nat) : St := St.mk (tc (C.slice 1 (List.map eU l)) :: tc (u g) :: hs 5 (tc (ii (↑(l.length) : Int)) :: tc (ii (↑i : Int)) :: tc (bo (decide ((↑i : Int) < (↑(l.length) : Int)))) :: hs 9 [])) [] []
theorem FB (l : List Int) (g : Int) (i : Nat) (k : Nat) (z0 : (decide ((↑i : Int) < (↑(l.length) : Int))) = false) : cx (EE (k + 1)) (HH 36) NN (LB PP 36 2) (Six l g (↑i : Int)) (Ext.exit 0) (tO l g i) :=
  ou (eb z0 <| e0)
theorem G8 (l : List Int) (g : Int) (i : Nat) (x : Int) (hL : ∀ k, br (EE (k + 1)) (HH 36) NN (LB PP 36 2) (Six l g 0) Ext.ret (sN l g i x)) (k : Nat) : aj PP GL XX HH NN (k + 2) 36 [A.c (C.slice 1 (List.map eU l)), A.c (u g)] [] = some ([Res.c (ii (↑i : Int))], []) := by
  exact rt (ep (av (eU) (l)) <| eg (G.len (l.length)) <| eg (G.loop Ext.ret (sN l g i x)) <| ep (hL k) <| e0) rfl
theorem Hp (l : List Int) (g : Int) (hL : ∀ k, br (EE (k + 1)) (HH 36) NN (LB PP 36 2) (Six l g 0) (Ext.exit 0) (tO l g (l.length))) (k : Nat) : aj PP GL XX HH NN (k + 2) 36 [A.c (C.slice 1 (List.map eU l)), A.c (u g)] [] = some ([Res.c (ii (-1 : Int))], []) := by
  exact rt (ep (av (eU) (l)) <| eg (G.len (l.length)) <| eg (G.loop (Ext.exit 0) (tO l g (l.length))) <| ep (hL k) <| e0) rfl
theorem ww (l : List Int) (g : Int) (hl : l.length ≤ 1000000) (k : Nat) : aj PP GL XX HH NN (k + 2) 36 [.c (.slice 1 (l.map eU)), .c (u g)] [] = some ([.c (ii (v8 l g))], []) := by
  rcases tC (E := fun k => EE (k + 1)) (H := HH 36) (n := NN) (b := LB PP 36 2) (fun i => Six l g (i : Nat)) l (g == ·) (fun i x => sN l g i x) (tO l g l.length) (nv := 0) (nt := 0) (e := .ret) (e' := .exit 0) (by kernel_rfl) (by kernel_rfl)
    (fun k i x hx hp => by
      have := E7 l g i x hx k (dlt hx) hp
      rwa [sj hx (by omega)] at this)
    (fun k i x hx hp => Gk l g i x hx k (dlt hx) hp)
    (fun k => FB l g l.length k dge) (by unfold NN; omega) with ⟨hb, hL⟩ | ⟨hb, i, x, hx, hp, hf, hj, hL⟩
  · unfold v8
    rw [hb]; exact Hp l g hL k
  · unfold v8
    rw [hb, Bx hx hp hj]; exact G8 l g i x hL k
theorem EZ (l : List Int) (g : Int) (hl : l.length ≤ 1000000) (k : Nat) : aj PP GL XX HH NN (k + 3) 51 [A.c (C.slice 1 (List.map eU l)), A.c (u g)] [] = some ([Res.c (bo (decide (v8 l g ≥ 0)))], []) := by
  exact rt (ec (ww l g hl k) <| e0) rfl
theorem kk (l : List Int) (g : Int) (hl : l.length ≤ 1000000) (k : Nat) : aj PP GL XX HH NN (k + 3) 51 [.c (.slice 1 (l.map eU)), .c (u g)] [] = some ([.c (bo (l.contains g))], []) := by
  rw [← Cb]; exact EZ l g hl k
def Sli (l : List Mi) (c0 : Int) (c1 : List (List C)) : St := St.mk (T.hole :: tc (u c0) :: T.hole :: T.hole :: T.k (K.v (V.own 1 c1 (Tk.tok 0))) :: tc (C.map (List.map (fun (x : Int × Int) => (Value.int IntKind.u64 x.1, Value.int IntKind.u64 x.2)) (par l))) :: hs 18 []) [] [c1.length]
def vT (l : List Mi) (a : List Int) (g : Int) : St := St.mk (T.hole :: tc (u g) :: T.hole :: T.hole :: T.k (K.v (V.own 1 (List.map eU a) (Tk.tok 0))) :: tc (C.map (List.map (fun (x : Int × Int) => (Value.int IntKind.u64 x.1, Value.int IntKind.u64 x.2)) (par l))) :: T.hole :: T.hole :: tc (u g) :: tc (bo (g != 0)) :: tc (bo (g != 0)) :: ks 4 (tc (bo false) :: hs 8 [])) [] [List.length (List.map eU a)]
theorem E8 (l : List Mi) (a : List Int) (g : Int) (k : Nat) (z0 : (g == 0) = true) : cx (EE (k + 4)) (HH 37) NN (LB PP 37 2) (Sli l g (List.map eU a)) (Ext.exit 0) (vT l a g) :=
  ou (en5 z0 <| ef <| e0)
def xN (l : List Mi) (a : List Int) (g : Int) : St := St.mk (T.hole :: tc (u g) :: T.hole :: T.hole :: T.k (K.v (V.own 1 (List.map eU a) (Tk.tok 0))) :: tc (C.map (List.map (fun (x : Int × Int) => (Value.int IntKind.u64 x.1, Value.int IntKind.u64 x.2)) (par l))) :: T.hole :: T.hole :: tc (u g) :: tc (bo (g != 0)) :: tc (bo (g != 0)) :: T.k (K.v (V.own 1 (List.map eU a) (Tk.tok 0))) :: tc (u g) :: tc (bo (List.contains a g)) :: tc (bo !List.contains a g) :: tc (bo !List.contains a g) :: hs 8 []) [] [List.length (List.map eU a)]
theorem Fq (l : List Mi) (a : List Int) (g : Int) (ha : a.length ≤ 1000000) (k : Nat) (z0 : (g == 0) = false) (z1 : (List.contains a g) = true) : cx (EE (k + 4)) (HH 37) NN (LB PP 37 2) (Sli l g (List.map eU a)) (Ext.exit 0) (xN l a g) :=
  ou (en3 z0 <| ec (kk a g ha (k + 1)) <| en2 z0 <| en z1 <| e0)
theorem EY (l : List Mi) (a : List Int) (g : Int) (ha : a.length ≤ 1000000) (hl : l.length ≤ 1000000) (k : Nat) (z0 : (g == 0) = false) (z1 : (List.contains a g) = false) : bp (EE (k + 4)) (HH 37) NN (LB PP 37 2) 0 1 (Sli l g (List.map eU a)) (Sli l (luk (par l) g).1 (List.map eU (a ++ [g]))) :=
  nx (en3 z0 <| ec (kk a g ha (k + 1)) <| en2 z0 <| en z1 <| ep (bD (eU) (a) ([g])) <| ep (aP (eU) (l := a ++ [g]) (n := 1073741824) (by simp only [vr]; omega)) <| ep (Eq.refl (List.length (List.map eU a))) <| eg (G.app (List.map eU (a ++ [g]))) <| ep (wA (par l) g) <| eg (G.look (luk (par l) g).1 (luk (par l) g).2) <| e0)
theorem AU (l : List Mi) (hl : l.length ≤ 100000) (g : Int) (k i : Nat) (hi : i < vK l g) : bp (EE (k + 4)) (HH 37) NN (LB PP 37 2) 0 1 (Sli l (gI (kQ l) g i) ((acc (kQ l) g i).map eU)) (Sli l (gI (kQ l) g (i + 1)) ((acc (kQ l) g (i + 1)).map eU)) := by
  obtain ⟨h1, _, h3⟩ := iE l g
  have hs := h3 i hi
  unfold dW at hs
  simp only [Bool.or_eq_false_iff] at hs
  have hlen := mO (kQ l) g i
  have := EY l (acc (kQ l) g i) (gI (kQ l) g i) (by omega) (by omega) k hs.1 hs.2
  rw [Ht] at this
  rw [sF]
  exact this
theorem G3 (l : List Mi) (g : Int) (a : List Int) (z : Int) (hl : l.length ≤ 100000) (hL : ∀ k, br (EE (k + 4)) (HH 37) NN (LB PP 37 2) (Sli l g []) (Ext.exit 0) (vT l a z)) (k : Nat) : aj PP GL XX HH NN (k + 5) 37 [A.c (C.slice 3 (List.map Mi.cs l)), A.c (u g)] [] = some ([Res.top 1 (List.map eU a)], []) := by
  exact rt (ec (wQ l hl (k + 3)) <| eg (G.loop (Ext.exit 0) (vT l a z)) <| ep (hL k) <| eq1 (List.length (List.map eU a)) <| e0) rfl
theorem GO (l : List Mi) (g : Int) (a : List Int) (z : Int) (hl : l.length ≤ 100000) (hL : ∀ k, br (EE (k + 4)) (HH 37) NN (LB PP 37 2) (Sli l g []) (Ext.exit 0) (xN l a z)) (k : Nat) : aj PP GL XX HH NN (k + 5) 37 [A.c (C.slice 3 (List.map Mi.cs l)), A.c (u g)] [] = some ([Res.top 1 (List.map eU a)], []) := by
  exact rt (ec (wQ l hl (k + 3)) <| eg (G.loop (Ext.exit 0) (xN l a z)) <| ep (hL k) <| eq1 (List.length (List.map eU a)) <| e0) rfl
theorem A3 (l : List Mi) (g : Int) (hl : l.length ≤ 100000) (k : Nat) : aj PP GL XX HH NN (k + 5) 37 [.c (.slice 3 (l.map Mi.cs)), .c (u g)] [] = some ([.top 1 ((gk l g).map eU)], []) := by
  obtain ⟨h1, h2, _⟩ := iE l g
  have hle := oN hl g
  cases hz : vb l g == 0 with
  | true =>
    refine G3 l g (gk l g) (vb l g) hl (fun k => ?_) k
    exact f7 (E := EE (k + 4)) (nv := 0) (nt := 1) (fun i => Sli l (gI (kQ l) g i) ((acc (kQ l) g i).map eU)) (vK l g) rfl (by kernel_rfl) (by kernel_rfl) (fun i hi => AU l hl g k i hi) (E8 l (gk l g) (vb l g) k hz) (by unfold NN; omega)
  | false =>
    have hc : (gk l g).contains (vb l g) = true := by
      unfold dW at h2
      have hz' : (gI (kQ l) g (vK l g) == 0) = false := hz
      rw [hz', Bool.false_or] at h2
      exact h2
    refine GO l g (gk l g) (vb l g) hl (fun k => ?_) k
    exact f7 (E := EE (k + 4)) (nv := 0) (nt := 1) (fun i => Sli l (gI (kQ l) g i) ((acc (kQ l) g i).map eU)) (vK l g) rfl (by kernel_rfl) (by kernel_rfl) (fun i hi => AU l hl g k i hi) (Fq l (gk l g) (vb l g) hle k hz hc) (by unfold NN; omega)
theorem GS (l : List Mi) (o : Int) (g : Int) (hl : l.length ≤ 100000) (h2 : List.length (gk l g) ≤ 1000000) (k : Nat) : aj PP GL XX HH NN (k + 6) 34 [A.c (C.slice 3 (List.map Mi.cs l)), A.c (u o), A.c (u g)] [] = some ([Res.c (bo (inL l o g))], []) := by
  exact rt (ec (A3 l g hl k) <| ec (kk (gk l g) o h2 (k + 2)) <| e0) (by simp only [inL, vq] <;> rfl)
theorem rN (l : List Mi) (o g : Int) (hl : l.length ≤ 100000) (k : Nat) : aj PP GL XX HH NN (k + 6) 34 [.c (.slice 3 (l.map Mi.cs)), .c (u o), .c (u g)] [] = some ([.c (bo (inL l o g))], []) := GS l o g hl (oN hl g) k
theorem sm (l : List Mi) (a : Int) (b : Int) (hl : l.length ≤ 100000) (k : Nat) : aj PP GL XX HH NN (k + 7) 33 [A.c (C.slice 3 (List.map Mi.cs l)), A.c (u a), A.c (u b)] [] = some ([Res.c (bo (!inL l a b && !inL l b a))], []) := by
  rcases bft (inL l a b) with z0 | z0
  · exact rt (ec (rN l a b hl k) <| en6 z0 <| e0) (by simp only [z0, vq] <;> rfl)
  · exact rt (ec (rN l a b hl k) <| en4 z0 <| ec (rN l b a hl k) <| en2 z0 <| e0) (by simp only [z0, vq] <;> rfl)
theorem io (c : Cl) (h : c.n0.mints.length + c.n1.mints.length ≤ 1000000) (k : Nat) : aj PP GL XX HH NN (k + 3) 13 [A.agg (Cl.cs c)] [] = some ([Res.top 3 (List.map Mi.cs (bL c))], []) := by
  exact rt (ec (zY c.n0.mints c.n1.mints h k) <| eq1 (List.length (List.map Mi.cs (Nd.mints c.n0 ++ Nd.mints c.n1))) <| e0) (by simp only [bL, vq] <;> rfl)
theorem d3 (c : Cl) (k : Nat) : aj PP GL XX HH NN (k + 1) 11 [A.agg (Cl.cs c), A.c (ii 0)] [] = some ([Res.c (u c.n0.store.super.v.cur)], []) := by
  exact rt (ep (rfl : (0 : Int) = 0) <| eg (G.at 0) <| e0) rfl
theorem iI (c : Cl) (k : Nat) : aj PP GL XX HH NN (k + 1) 32 [A.agg (Cl.cs c), A.c (ii 0)] [] = some ([Res.c (u c.n0.store.super.v.cur)], []) := by
  exact rt (ep (rfl : (0 : Int) = 0) <| eg (G.at 0) <| e0) rfl
theorem d6 (c : Cl) (k : Nat) : aj PP GL XX HH NN (k + 1) 11 [A.agg (Cl.cs c), A.c (ii 1)] [] = some ([Res.c (u c.n1.store.super.v.cur)], []) := by
  exact rt (ep (rfl : (1 : Int) = 1) <| eg (G.at 1) <| e0) rfl
theorem iJ (c : Cl) (k : Nat) : aj PP GL XX HH NN (k + 1) 32 [A.agg (Cl.cs c), A.c (ii 1)] [] = some ([Res.c (u c.n1.store.super.v.cur)], []) := by
  exact rt (ep (rfl : (1 : Int) = 1) <| eg (G.at 1) <| e0) rfl
theorem El (c : Cl) (h : c.n0.mints.length + c.n1.mints.length ≤ 100000) (hM : List.length (bL c) ≤ 100000) (k : Nat) : aj PP GL XX HH NN (k + 8) 15 [A.agg (Cl.cs c)] [] = some ([Res.c (ii (bif !Nd.up c.n0 || !Nd.up c.n1 then (-1 : Int) else bif Ve.cur c.n0.store.super.v == Ve.cur c.n1.store.super.v then 0 else bif !inL (bL c) c.n0.store.super.v.cur c.n1.store.super.v.cur && !inL (bL c) c.n1.store.super.v.cur c.n0.store.super.v.cur then 3 else bif inL (bL c) c.n1.store.super.v.cur c.n0.store.super.v.cur then 1 else 2))], []) := by
  rcases bft c.n0.up with z0 | z0
  · rcases bft c.n1.up with z1 | z1
    · rcases bft (Ve.cur c.n0.store.super.v == Ve.cur c.n1.store.super.v) with z2 | z2
      · exact rt (en6 z0 <| en z1 <| ec (iI c (k + 6)) <| ec (iJ c (k + 6)) <| ec (io c (show c.n0.mints.length + c.n1.mints.length ≤ 1000000 from by omega) (k + 4)) <| eb z2 <| e0) (by simp only [z0, z1, z2, vq] <;> rfl)
      · rcases bft (!inL (bL c) c.n0.store.super.v.cur c.n1.store.super.v.cur && !inL (bL c) c.n1.store.super.v.cur c.n0.store.super.v.cur) with z3 | z3
        · exact rt (en6 z0 <| en z1 <| ec (iI c (k + 6)) <| ec (iJ c (k + 6)) <| ec (io c (show c.n0.mints.length + c.n1.mints.length ≤ 1000000 from by omega) (k + 4)) <| eb z2 <| ec (sm (bL c) c.n0.store.super.v.cur c.n1.store.super.v.cur hM k) <| eb z3 <| e0) (by simp only [z0, z1, z2, z3, vq] <;> rfl)
        · rcases bft (inL (bL c) c.n1.store.super.v.cur c.n0.store.super.v.cur) with z4 | z4
          · exact rt (en6 z0 <| en z1 <| ec (iI c (k + 6)) <| ec (iJ c (k + 6)) <| ec (io c (show c.n0.mints.length + c.n1.mints.length ≤ 1000000 from by omega) (k + 4)) <| eb z2 <| ec (sm (bL c) c.n0.store.super.v.cur c.n1.store.super.v.cur hM k) <| eb z3 <| ec (rN (bL c) c.n1.store.super.v.cur c.n0.store.super.v.cur hM (k + 1)) <| eb z4 <| e0) (by simp_all only [vq] <;> rfl)
          · exact rt (en6 z0 <| en z1 <| ec (iI c (k + 6)) <| ec (iJ c (k + 6)) <| ec (io c (show c.n0.mints.length + c.n1.mints.length ≤ 1000000 from by omega) (k + 4)) <| eb z2 <| ec (sm (bL c) c.n0.store.super.v.cur c.n1.store.super.v.cur hM k) <| eb z3 <| ec (rN (bL c) c.n1.store.super.v.cur c.n0.store.super.v.cur hM (k + 1)) <| eb z4 <| e0) (by simp_all only [vq] <;> rfl)
    · exact rt (en6 z0 <| en z1 <| e0) (by simp only [z0, z1, vq] <;> rfl)
  · exact rt (en6 z0 <| et <| e0) (by simp only [z0, vq] <;> rfl)
theorem kp (c : Cl) : (bL c).length = c.n0.mints.length + c.n1.mints.length := by unfold bL; rw [List.length_append]
theorem eJ (c : Cl) (h : c.n0.mints.length + c.n1.mints.length ≤ 100000) (k : Nat) : aj PP GL XX HH NN (k + 8) 15 [.agg c.cs] [] = some ([.c (ii (l5 c))], []) := by
  have := El c h (by rw [kp]; exact h) k
  rw [this]
  unfold l5 mN
  simp only [show ((0 : Int) == 0) = true from rfl, show ((1 : Int) == 0) = false from rfl, cond_true, cond_false]
  cases inL (bL c) c.n0.store.super.v.cur c.n1.store.super.v.cur <;> cases inL (bL c) c.n1.store.super.v.cur c.n0.store.super.v.cur <;> rfl
theorem BN (c : Cl) (old : Int) (g : Int) (h : c.n0.mints.length + c.n1.mints.length ≤ 100000) (hM : List.length (bL c) ≤ 100000) (h2 : List.length (gk (bL c) g) ≤ 1000000) (k : Nat) : aj PP GL XX HH NN (k + 7) 17 [A.agg (Cl.cs c), A.c (u old), A.c (u g)] [] = some ([Res.c (ii (hJ c old g))], []) := by
  exact rt (ec (io c (show c.n0.mints.length + c.n1.mints.length ≤ 1000000 from by omega) (k + 3)) <| ec (A3 (bL c) g hM (k + 1)) <| ec (ww (gk (bL c) g) old h2 (k + 4)) <| e0) (by simp only [hJ, vq] <;> rfl)
theorem iW (c : Cl) (old g : Int) (h : c.n0.mints.length + c.n1.mints.length ≤ 100000) (k : Nat) : aj PP GL XX HH NN (k + 7) 17 [.agg c.cs, .c (u old), .c (u g)] [] = some ([.c (ii (hJ c old g))], []) := by
  have hM : (bL c).length ≤ 100000 := by rw [kp]; exact h
  exact BN c old g h hM (oN hM g) k
theorem FP (c : Cl) (d : Cl) (k : Nat) : aj PP GL XX HH NN (k + 1) 40 [A.c (ii 0), A.c (C.rptr (Cl.cs d)), A.c (C.rptr (Cl.cs c))] [] = some ([Res.c (bo (Nd.state d.n0 == 4 && !Nd.state c.n0 == 4))], []) := by
  rcases bft (Nd.state d.n0 == 4) with z0 | z0
  · exact rt (ep (rfl : (0 : Int) = 0) <| eg (G.at 0) <| eb3 z0 <| ep (rfl : (0 : Int) = 0) <| eg (G.at 0) <| eb4 z0 <| e0) (by simp only [z0, vq] <;> rfl)
  · exact rt (ep (rfl : (0 : Int) = 0) <| eg (G.at 0) <| eb7 z0 <| e0) (by simp only [z0, vq] <;> rfl)
theorem GC (c : Cl) (d : Cl) (k : Nat) : aj PP GL XX HH NN (k + 1) 40 [A.c (ii 1), A.c (C.rptr (Cl.cs d)), A.c (C.rptr (Cl.cs c))] [] = some ([Res.c (bo (Nd.state d.n1 == 4 && !Nd.state c.n1 == 4))], []) := by
  rcases bft (Nd.state d.n1 == 4) with z0 | z0
  · exact rt (ep (rfl : (1 : Int) = 1) <| eg (G.at 1) <| eb3 z0 <| ep (rfl : (1 : Int) = 1) <| eg (G.at 1) <| eb4 z0 <| e0) (by simp only [z0, vq] <;> rfl)
  · exact rt (ep (rfl : (1 : Int) = 1) <| eg (G.at 1) <| eb7 z0 <| e0) (by simp only [z0, vq] <;> rfl)
theorem Fu (c : Cl) (d : Cl) (k : Nat) : aj PP GL XX HH NN (k + 2) 39 [A.c (C.slice 1 [[ii 0], [ii 1]]), A.c (C.fn 40 [C.rptr (Cl.cs d), C.rptr (Cl.cs c)])] [] = some ([Res.c (ii (eZ c d))], []) := by
  rcases bft (Nd.state d.n0 == 4 && !Nd.state c.n0 == 4) with z0 | z0
  · exact rt (ep (rfl : (2 : Nat) = (2 : Nat)) <| eg (G.len 2) <| eg (G.un) <| et <| ep (rfl : (0 : Int) = (0 : Int)) <| ep (rfl : some ([ii 0]) = some ([ii 0])) <| eg (G.idx 0 [ii 0]) <| ec (FP c d k) <| eb z0 <| e0) (by simp only [eZ, z0, vq] <;> rfl)
  · rcases bft (Nd.state d.n1 == 4 && !Nd.state c.n1 == 4) with z1 | z1
    · exact rt (ep (rfl : (2 : Nat) = (2 : Nat)) <| eg (G.len 2) <| eg (G.un) <| et <| ep (rfl : (0 : Int) = (0 : Int)) <| ep (rfl : some ([ii 0]) = some ([ii 0])) <| eg (G.idx 0 [ii 0]) <| ec (FP c d k) <| eb z0 <| et <| ep (rfl : (1 : Int) = (1 : Int)) <| ep (rfl : some ([ii 1]) = some ([ii 1])) <| eg (G.idx 1 [ii 1]) <| ec (GC c d k) <| eb z1 <| e0) (by simp only [eZ, z0, z1, vq] <;> rfl)
    · exact rt (ep (rfl : (2 : Nat) = (2 : Nat)) <| eg (G.len 2) <| eg (G.un) <| et <| ep (rfl : (0 : Int) = (0 : Int)) <| ep (rfl : some ([ii 0]) = some ([ii 0])) <| eg (G.idx 0 [ii 0]) <| ec (FP c d k) <| eb z0 <| et <| ep (rfl : (1 : Int) = (1 : Int)) <| ep (rfl : some ([ii 1]) = some ([ii 1])) <| eg (G.idx 1 [ii 1]) <| ec (GC c d k) <| eb z1 <| ef <| e0) (by simp only [eZ, z0, z1, vq] <;> rfl)
theorem sw (c : Cl) (d : Cl) (k : Nat) : aj PP GL XX HH NN (k + 3) 19 [A.agg (Cl.cs c), A.agg (Cl.cs d)] [] = some ([Res.c (ii (eZ c d))], []) := by
  exact rt (ec (Fu c d k) <| e0) rfl
def Ssa (l : List Mi) (c0 : Int) : St := St.mk (tc (C.slice 3 (List.map Mi.cs l)) :: tc (C.slice 3 (List.map Mi.cs l)) :: T.hole :: T.hole :: T.hole :: tc (ii c0) :: hs 20 []) [] []
theorem Ge (l : List Mi) (i : Nat) (x : Mi) (hx : l[i]? = some x) (k : Nat) (z0 : (decide ((↑i : Int) < (↑(l.length) : Int))) = true) (z1 : (Mi.g x == Mi.g x && (Mi.p x == Mi.p x && (Mi.n x == Mi.n x && true))) = true) : bp (EE (k + 1)) (HH 12) NN (LB PP 12 4) 0 0 (Ssa l (↑i : Int)) (Ssa l (IntKind.wrap .i64 ((↑i : Int) + 1))) :=
  nx (ep (av (Mi.cs) (l)) <| eg (G.len (l.length)) <| eb z0 <| ep (rfl : (↑i : Int) = (↑i : Int)) <| ep (aB (f := Mi.cs) hx) <| eg (G.idx i [u x.g, u x.p, ii x.n]) <| ep (rfl : (↑i : Int) = (↑i : Int)) <| ep (aB (f := Mi.cs) hx) <| eg (G.idx i [u x.g, u x.p, ii x.n]) <| en z1 <| e0)
def vU (l : List Mi) (i : Nat) : St := St.mk (tc (C.slice 3 (List.map Mi.cs l)) :: tc (C.slice 3 (List.map Mi.cs l)) :: T.hole :: T.hole :: T.hole :: tc (ii (↑i : Int)) :: hs 5 (tc (ii (↑i : Int)) :: tc (C.slice 3 (List.map Mi.cs l)) :: tc (ii (↑(l.length) : Int)) :: tc (bo (decide ((↑i : Int) < (↑(l.length) : Int)))) :: hs 11 [])) [] []
theorem Gu (l : List Mi) (i : Nat) (k : Nat) (z0 : (decide ((↑i : Int) < (↑(l.length) : Int))) = false) : cx (EE (k + 1)) (HH 12) NN (LB PP 12 4) (Ssa l (↑i : Int)) (Ext.exit 0) (vU l i) :=
  ou (ep (av (Mi.cs) (l)) <| eg (G.len (l.length)) <| eb z0 <| e0)
theorem saF (l : List Mi) (hL : ∀ k, br (EE (k + 1)) (HH 12) NN (LB PP 12 4) (Ssa l 0) (Ext.exit 0) (vU l (l.length))) (k : Nat) : aj PP GL XX HH NN (k + 2) 12 [A.c (C.slice 3 (List.map Mi.cs l)), A.c (C.slice 3 (List.map Mi.cs l))] [] = some ([Res.c (bo true)], []) := by
  exact rt (ep (av (Mi.cs) (l)) <| eg (G.len (l.length)) <| ep (av (Mi.cs) (l)) <| eg (G.len (l.length)) <| en (Gf ((↑(l.length) : Int))) <| eg (G.loop (Ext.exit 0) (vU l (l.length))) <| ep (hL k) <| e0) rfl
theorem D0 (l : List Mi) (hl : l.length ≤ 1000000) (k : Nat) : aj PP GL XX HH NN (k + 2) 12 [.c (.slice 3 (l.map Mi.cs)), .c (.slice 3 (l.map Mi.cs))] [] = some ([.c (bo true)], []) := by
  refine saF l (fun k => ?_) k
  refine f7 (E := EE (k + 1)) (nv := 0) (nt := 0) (fun i => Ssa l (i : Nat)) l.length rfl (by kernel_rfl) (by kernel_rfl) (fun i hi => ?_) (Gu l l.length k dge) (by unfold NN; omega)
  have hx : l[i]? = some l[i] := List.getElem?_eq_getElem hi
  have := Ge l i l[i] hx k (dlt hx) (by simp)
  rwa [sj hx (by omega)] at this
theorem zl (c : Cl) (d : Cl) (h : c.n0.mints.length + c.n1.mints.length ≤ 100000) (hM : List.length (bL c) ≤ 100000) (hS : ∀ k, aj PP GL XX HH NN (k + 6) 19 [A.agg (Cl.cs c), A.agg (Cl.cs d)] [] = some ([Res.c (ii (-1 : Int))], [])) (k : Nat) : aj PP GL XX HH NN (k + 7) 21 [A.agg (Cl.cs c), A.agg (Cl.cs d)] [] = some ([Res.c (bo true)], []) := by
  exact rt (ec (hS k) <| et <| e0) rfl
theorem zF (c : Cl) (d : Cl) (h : c.n0.mints.length + c.n1.mints.length ≤ 100000) (hM : List.length (bL c) ≤ 100000) (hS : ∀ k, aj PP GL XX HH NN (k + 6) 19 [A.agg (Cl.cs c), A.agg (Cl.cs d)] [] = some ([Res.c (ii 0)], [])) (k : Nat) : aj PP GL XX HH NN (k + 7) 21 [A.agg (Cl.cs c), A.agg (Cl.cs d)] [] = some ([Res.c (bo (Nd.up c.n0 && Nd.up c.n1 && (Su.inc c.n0.store.super || (Su.dis c.n0.store.super || inL (bL c) c.n0.store.super.v.cur c.n1.store.super.v.cur))))], []) := by
  rcases bft c.n0.up with z0 | z0
  · rcases bft c.n1.up with z1 | z1
    · rcases bft c.n0.store.super.inc with z2 | z2
      · exact rt (ec (hS k) <| ef <| en6 z0 <| en z1 <| ep (rfl : (0 : Int) = 0) <| eg (G.at 0) <| eb3 z2 <| Ez <| e0) (by simp only [z0, z1, z2, vq] <;> rfl)
      · rcases bft c.n0.store.super.dis with z3 | z3
        · exact rt (ec (hS k) <| ef <| en6 z0 <| en z1 <| ep (rfl : (0 : Int) = 0) <| eg (G.at 0) <| eb3 z2 <| Gx z3 <| e0) (by simp only [z0, z1, z2, z3, vq] <;> rfl)
        · exact rt (ec (hS k) <| ef <| en6 z0 <| en z1 <| ep (rfl : (0 : Int) = 0) <| eg (G.at 0) <| eb3 z2 <| eb2 z3 <| ec (io c (show c.n0.mints.length + c.n1.mints.length ≤ 1000000 from by omega) (k + 3)) <| eb3 z3 <| ec (iI c (k + 5)) <| eb4 z3 <| ec (iJ c (k + 5)) <| eb z3 <| ec (rN (bL c) c.n0.store.super.v.cur c.n1.store.super.v.cur hM k) <| eb z3 <| e0) (by simp only [z0, z1, z2, z3, vq] <;> rfl)
    · exact rt (ec (hS k) <| ef <| en6 z0 <| en z1 <| e0) (by simp only [z0, z1, vq] <;> rfl)
  · exact rt (ec (hS k) <| ef <| en6 z0 <| et <| e0) (by simp only [z0, vq] <;> rfl)
theorem zL (c : Cl) (d : Cl) (h : c.n0.mints.length + c.n1.mints.length ≤ 100000) (hM : List.length (bL c) ≤ 100000) (hS : ∀ k, aj PP GL XX HH NN (k + 6) 19 [A.agg (Cl.cs c), A.agg (Cl.cs d)] [] = some ([Res.c (ii 1)], [])) (k : Nat) : aj PP GL XX HH NN (k + 7) 21 [A.agg (Cl.cs c), A.agg (Cl.cs d)] [] = some ([Res.c (bo (Nd.up c.n0 && Nd.up c.n1 && (Su.inc c.n1.store.super || (Su.dis c.n1.store.super || inL (bL c) c.n1.store.super.v.cur c.n0.store.super.v.cur))))], []) := by
  rcases bft c.n0.up with z0 | z0
  · rcases bft c.n1.up with z1 | z1
    · rcases bft c.n1.store.super.inc with z2 | z2
      · exact rt (ec (hS k) <| ef <| en6 z0 <| en z1 <| ep (rfl : (1 : Int) = 1) <| eg (G.at 1) <| eb3 z2 <| Ez <| e0) (by simp only [z0, z1, z2, vq] <;> rfl)
      · rcases bft c.n1.store.super.dis with z3 | z3
        · exact rt (ec (hS k) <| ef <| en6 z0 <| en z1 <| ep (rfl : (1 : Int) = 1) <| eg (G.at 1) <| eb3 z2 <| Gx z3 <| e0) (by simp only [z0, z1, z2, z3, vq] <;> rfl)
        · exact rt (ec (hS k) <| ef <| en6 z0 <| en z1 <| ep (rfl : (1 : Int) = 1) <| eg (G.at 1) <| eb3 z2 <| eb2 z3 <| ec (io c (show c.n0.mints.length + c.n1.mints.length ≤ 1000000 from by omega) (k + 3)) <| eb3 z3 <| ec (iJ c (k + 5)) <| eb4 z3 <| ec (iI c (k + 5)) <| eb z3 <| ec (rN (bL c) c.n1.store.super.v.cur c.n0.store.super.v.cur hM k) <| eb z3 <| e0) (by simp only [z0, z1, z2, z3, vq] <;> rfl)
    · exact rt (ec (hS k) <| ef <| en6 z0 <| en z1 <| e0) (by simp only [z0, z1, vq] <;> rfl)
  · exact rt (ec (hS k) <| ef <| en6 z0 <| et <| e0) (by simp only [z0, vq] <;> rfl)
theorem qM (c d : Cl) : eZ c d = -1 ∨ eZ c d = 0 ∨ eZ c d = 1 := by
  unfold eZ
  cases d.n0.state == 4 && !(c.n0.state == 4) <;> cases d.n1.state == 4 && !(c.n1.state == 4) <;> simp
theorem C3 (c d : Cl) (h : c.n0.mints.length + c.n1.mints.length ≤ 100000) (k : Nat) : aj PP GL XX HH NN (k + 7) 21 [.agg c.cs, .agg d.cs] [] = some ([.c (bo (Cd c d))], []) := by
  have hM : (bL c).length ≤ 100000 := by rw [kp]; exact h
  have hS := fun k => sw c d (k + 3)
  unfold Cd vZ mN
  rcases qM c d with e | e | e
  · rw [e] at hS ⊢; exact zl c d h hM hS k
  · rw [e] at hS ⊢
    refine (zF c d h hM hS k).trans ?_
    simp [Bool.or_assoc]
  · rw [e] at hS ⊢
    refine (zL c d h hM hS k).trans ?_
    simp [Bool.or_assoc]
end Go.Dm
namespace Go.Dm
open Go
theorem y6 (l : List Evt) (m : Int) (hm : m ≤ 1000000) (k : Nat) : aj PP GL XX HH NN (k + 2) 28 [.c (.slice 7 (l.map Evt.cs)), .c (ii m)] [] = some ([.c (bo (gj l m))], []) := by
  cases he : decide ((l.length : Int) > m) with
  | true =>
    unfold gj
    rw [he]
    exact AY l m he k
  | false =>
    simp at he
    exact Ca l m (by omega) k
theorem cY (l : List Evt) (m : Int) (hm : m ≤ 1000000) (k : Nat) : aj PP GL XX HH NN (k + 3) 8 [A.c (C.slice 7 (List.map Evt.cs l)), A.c (ii m)] [] = some ([Res.c (bo (gj l m))], []) := by
  exact rt (ec (y6 l m hm k) <| e0) rfl
theorem rO (k : Nat) : aj PP GL XX HH NN (k + 2) 27 [] [] = some ([Res.c (u 7)], []) := by
  exact rt (ec (ko k) <| e0) rfl
theorem r6 (b : Int) (es : List (List C)) (c : Cl) (hR : ∀ k, aj PP GL XX HH NN (k + 17) 29 [A.c (by8 b), A.c (C.slice 7 es)] [] = some ([Res.agg (Cl.cs c)], [])) (k : Nat) : aj PP GL XX HH NN (k + 18) 9 [A.c (by8 b), A.c (C.slice 7 es)] [] = some ([Res.agg (Cl.cs c)], []) := by
  exact rt (ec (hR k) <| e0) rfl
theorem B3 (b : Int) (c : Cl) (hR : ∀ k, aj PP GL XX HH NN (k + 17) 29 [A.c (by8 b), A.nil] [] = some ([Res.agg (Cl.cs c)], [])) (k : Nat) : aj PP GL XX HH NN (k + 18) 9 [A.c (by8 b), A.nil] [] = some ([Res.agg (Cl.cs c)], []) := by
  exact rt (ec (hR k) <| e0) rfl
theorem Cc (c : Cl) (d : Cl) (es : List (List C)) (o : List Ou) (hR : ∀ k, aj PP GL XX HH NN (k + 16) 30 [A.agg (Cl.cs c), A.c (C.slice 7 es)] [] = some ([Res.agg (Cl.cs d), Res.top 5 (List.map Ou.cs o)], [])) (k : Nat) : aj PP GL XX HH NN (k + 17) 10 [A.agg (Cl.cs c), A.c (C.slice 7 es)] [] = some ([Res.agg (Cl.cs d), Res.top 5 (List.map Ou.cs o)], []) := by
  exact rt (ec (hR k) <| eq1 (List.length (List.map Ou.cs o)) <| e0) rfl
theorem EN (c : Cl) (d : Cl) (e : Evt) (o : List Ou) (hR : ∀ k, aj PP GL XX HH NN (k + 14) 42 [A.agg (Cl.cs c), A.agg (Evt.cs e)] [] = some ([Res.agg (Cl.cs d), Res.top 5 (List.map Ou.cs o)], [])) (k : Nat) : aj PP GL XX HH NN (k + 15) 24 [A.agg (Cl.cs c), A.agg (Evt.cs e)] [] = some ([Res.agg (Cl.cs d), Res.top 5 (List.map Ou.cs o)], []) := by
  exact rt (ec (hR k) <| eq1 (List.length (List.map Ou.cs o)) <| e0) rfl
def Du : List Evt := [⟨1, 0, 0, 0, ⟨#[]⟩, 0, []⟩, ⟨13, 0, 0, 0, ⟨#[]⟩, 9, []⟩, ⟨5, 0, 1, 0, ⟨#[97, 98, 99, 100, 101, 102, 103, 104]⟩, 0, []⟩]
def DH : List Evt := [⟨1, 0, 0, 0, ⟨#[]⟩, 0, []⟩, ⟨13, 0, 0, 0, ⟨#[]⟩, 9, []⟩, ⟨5, 0, 1, 0, ⟨#[97, 98, 99, 100, 101, 102, 103, 104]⟩, 0, []⟩, ⟨1, 1, 0, 0, ⟨#[]⟩, 0, []⟩, ⟨13, 1, 0, 0, ⟨#[]⟩, 8, []⟩, ⟨5, 1, 1, 0, ⟨#[97, 98, 99, 100, 101, 102, 103, 104]⟩, 0, []⟩]
def CB : List Evt := [⟨6, 0, 0, 0, ⟨#[]⟩, 0, []⟩, ⟨6, 1, 0, 0, ⟨#[]⟩, 0, []⟩]
def EB : Evt := ⟨9, 1, 0, 0, ⟨#[]⟩, 0, []⟩
def aC : Cl := lC 1 Du
def aD : Cl := lC 1 DH
def aE : Cl := lC 1 []
def aX : Cl := (ja aC CB).1
def aY : Cl := (doM aX EB).1
set_option maxRecDepth 100000 in
theorem aR1 : l5 aC = 1 := by kernel_rfl
set_option maxRecDepth 100000 in
theorem aR2 : l5 aD = 3 := by kernel_rfl
set_option maxRecDepth 100000 in
theorem aR3 : l5 aE = 0 := by kernel_rfl
set_option maxRecDepth 100000 in
theorem aM : bL aD = [⟨9, 7, 0⟩, ⟨8, 7, 1⟩] := by kernel_rfl
set_option maxRecDepth 100000 in
theorem aB1 : hJ aD 7 9 = 1 := by kernel_rfl
set_option maxRecDepth 100000 in
theorem aB2 : hJ aD 8 9 = -1 := by kernel_rfl
set_option maxRecDepth 100000 in
theorem aS1 : eZ aX aY = 1 := by kernel_rfl
set_option maxRecDepth 100000 in
theorem aS2 : eZ aY aX = -1 := by kernel_rfl
set_option maxRecDepth 100000 in
theorem aF : Cd aX aY = true := by kernel_rfl
theorem DU (c : Cl) (d : Cl) (e : Cl) (x : Cl) (y : Cl) (o3 : List Ou) (o4 : List Ou) (hR1 : ∀ k, aj PP GL XX HH NN (k + 18) 9 [A.c (by8 1), A.c (C.slice 7 [[ii 1, ii 0, ii 0, ii 0, st ⟨#[]⟩, u 0, C.slice 1 []], [ii 13, ii 0, ii 0, ii 0, st ⟨#[]⟩, u 9, C.slice 1 []], [ii 5, ii 0, ii 1, ii 0, st (ByteArray.mk #[(97 : UInt8), (98 : UInt8), (99 : UInt8), (100 : UInt8), (101 : UInt8), (102 : UInt8), (103 : UInt8), (104 : UInt8)]), u 0, C.slice 1 []]])] [] = some ([Res.agg (Cl.cs c)], [])) (hR2 : ∀ k, aj PP GL XX HH NN (k + 18) 9 [A.c (by8 1), A.c (C.slice 7 [[ii 1, ii 0, ii 0, ii 0, st ⟨#[]⟩, u 0, C.slice 1 []], [ii 13, ii 0, ii 0, ii 0, st ⟨#[]⟩, u 9, C.slice 1 []], [ii 5, ii 0, ii 1, ii 0, st (ByteArray.mk #[(97 : UInt8), (98 : UInt8), (99 : UInt8), (100 : UInt8), (101 : UInt8), (102 : UInt8), (103 : UInt8), (104 : UInt8)]), u 0, C.slice 1 []], [ii 1, ii 1, ii 0, ii 0, st ⟨#[]⟩, u 0, C.slice 1 []], [ii 13, ii 1, ii 0, ii 0, st ⟨#[]⟩, u 8, C.slice 1 []], [ii 5, ii 1, ii 1, ii 0, st (ByteArray.mk #[(97 : UInt8), (98 : UInt8), (99 : UInt8), (100 : UInt8), (101 : UInt8), (102 : UInt8), (103 : UInt8), (104 : UInt8)]), u 0, C.slice 1 []]])] [] = some ([Res.agg (Cl.cs d)], [])) (hR3 : ∀ k, aj PP GL XX HH NN (k + 18) 9 [A.c (by8 1), A.nil] [] = some ([Res.agg (Cl.cs e)], [])) (hP : ∀ k, aj PP GL XX HH NN (k + 18) 10 [A.agg (Cl.cs c), A.c (C.slice 7 [[ii 6, ii 0, ii 0, ii 0, st ⟨#[]⟩, u 0, C.slice 1 []], [ii 6, ii 1, ii 0, ii 0, st ⟨#[]⟩, u 0, C.slice 1 []]])] [] = some ([Res.agg (Cl.cs x), Res.top 5 (List.map Ou.cs o3)], [])) (hD : ∀ k, aj PP GL XX HH NN (k + 18) 24 [A.agg (Cl.cs x), A.agg [ii 9, ii 1, ii 0, ii 0, st ⟨#[]⟩, u 0, C.slice 1 []]] [] = some ([Res.agg (Cl.cs y), Res.top 5 (List.map Ou.cs o4)], [])) (q1 : ∀ k, aj PP GL XX HH NN (k + 18) 15 [A.agg (Cl.cs c)] [] = some ([Res.c (ii 1)], [])) (q2 : ∀ k, aj PP GL XX HH NN (k + 18) 15 [A.agg (Cl.cs d)] [] = some ([Res.c (ii 3)], [])) (q3 : ∀ k, aj PP GL XX HH NN (k + 18) 15 [A.agg (Cl.cs e)] [] = some ([Res.c (ii 0)], [])) (hM : ∀ k, aj PP GL XX HH NN (k + 18) 13 [A.agg (Cl.cs d)] [] = some ([Res.top 3 [[u 9, u 7, ii 0], [u 8, u 7, ii 1]]], [])) (hS : ∀ k, aj PP GL XX HH NN (k + 18) 12 [A.c (C.slice 3 [[u 9, u 7, ii 0], [u 8, u 7, ii 1]]), A.c (C.slice 3 [[u 9, u 7, ii 0], [u 8, u 7, ii 1]])] [] = some ([Res.c (bo true)], [])) (b1 : ∀ k, aj PP GL XX HH NN (k + 18) 17 [A.agg (Cl.cs d), A.c (u 7), A.c (u 9)] [] = some ([Res.c (ii 1)], [])) (b2 : ∀ k, aj PP GL XX HH NN (k + 18) 17 [A.agg (Cl.cs d), A.c (u 8), A.c (u 9)] [] = some ([Res.c (ii (-1 : Int))], [])) (s1 : ∀ k, aj PP GL XX HH NN (k + 18) 19 [A.agg (Cl.cs x), A.agg (Cl.cs y)] [] = some ([Res.c (ii 1)], [])) (s2 : ∀ k, aj PP GL XX HH NN (k + 18) 19 [A.agg (Cl.cs y), A.agg (Cl.cs x)] [] = some ([Res.c (ii (-1 : Int))], [])) (f : ∀ k, aj PP GL XX HH NN (k + 18) 21 [A.agg (Cl.cs x), A.agg (Cl.cs y)] [] = some ([Res.c (bo true)], [])) (k : Nat) : aj PP GL XX HH NN (k + 19) 7 [] [] = some ([Res.c (bo true)], []) := by
  exact rt (ec (hR1 k) <| ep (bQ ([[ii 1, ii 0, ii 0, ii 0, st ⟨#[]⟩, u 0, C.slice 1 []], [ii 13, ii 0, ii 0, ii 0, st ⟨#[]⟩, u 9, C.slice 1 []], [ii 5, ii 0, ii 1, ii 0, st (ByteArray.mk #[(97 : UInt8), (98 : UInt8), (99 : UInt8), (100 : UInt8), (101 : UInt8), (102 : UInt8), (103 : UInt8), (104 : UInt8)]), u 0, C.slice 1 []]])) <| ep (show List.length [[ii 1, ii 0, ii 0, ii 0, st ⟨#[]⟩, u 0, C.slice 1 []], [ii 13, ii 0, ii 0, ii 0, st ⟨#[]⟩, u 9, C.slice 1 []], [ii 5, ii 0, ii 1, ii 0, st (ByteArray.mk #[(97 : UInt8), (98 : UInt8), (99 : UInt8), (100 : UInt8), (101 : UInt8), (102 : UInt8), (103 : UInt8), (104 : UInt8)]), u 0, C.slice 1 []]] ≤ 1073741824 from by decide) <| eg (G.app [[ii 1, ii 0, ii 0, ii 0, st ⟨#[]⟩, u 0, C.slice 1 []], [ii 13, ii 0, ii 0, ii 0, st ⟨#[]⟩, u 9, C.slice 1 []], [ii 5, ii 0, ii 1, ii 0, st (ByteArray.mk #[(97 : UInt8), (98 : UInt8), (99 : UInt8), (100 : UInt8), (101 : UInt8), (102 : UInt8), (103 : UInt8), (104 : UInt8)]), u 0, C.slice 1 []]]) <| ep (rfl : [[ii 1, ii 0, ii 0, ii 0, st ⟨#[]⟩, u 0, C.slice 1 []], [ii 13, ii 0, ii 0, ii 0, st ⟨#[]⟩, u 9, C.slice 1 []], [ii 5, ii 0, ii 1, ii 0, st (ByteArray.mk #[(97 : UInt8), (98 : UInt8), (99 : UInt8), (100 : UInt8), (101 : UInt8), (102 : UInt8), (103 : UInt8), (104 : UInt8)]), u 0, C.slice 1 []], [ii 1, ii 1, ii 0, ii 0, st ⟨#[]⟩, u 0, C.slice 1 []], [ii 13, ii 1, ii 0, ii 0, st ⟨#[]⟩, u 8, C.slice 1 []], [ii 5, ii 1, ii 1, ii 0, st (ByteArray.mk #[(97 : UInt8), (98 : UInt8), (99 : UInt8), (100 : UInt8), (101 : UInt8), (102 : UInt8), (103 : UInt8), (104 : UInt8)]), u 0, C.slice 1 []]] = [[ii 1, ii 0, ii 0, ii 0, st ⟨#[]⟩, u 0, C.slice 1 []], [ii 13, ii 0, ii 0, ii 0, st ⟨#[]⟩, u 9, C.slice 1 []], [ii 5, ii 0, ii 1, ii 0, st (ByteArray.mk #[(97 : UInt8), (98 : UInt8), (99 : UInt8), (100 : UInt8), (101 : UInt8), (102 : UInt8), (103 : UInt8), (104 : UInt8)]), u 0, C.slice 1 []], [ii 1, ii 1, ii 0, ii 0, st ⟨#[]⟩, u 0, C.slice 1 []], [ii 13, ii 1, ii 0, ii 0, st ⟨#[]⟩, u 8, C.slice 1 []], [ii 5, ii 1, ii 1, ii 0, st (ByteArray.mk #[(97 : UInt8), (98 : UInt8), (99 : UInt8), (100 : UInt8), (101 : UInt8), (102 : UInt8), (103 : UInt8), (104 : UInt8)]), u 0, C.slice 1 []]]) <| ep (show List.length [[ii 1, ii 0, ii 0, ii 0, st ⟨#[]⟩, u 0, C.slice 1 []], [ii 13, ii 0, ii 0, ii 0, st ⟨#[]⟩, u 9, C.slice 1 []], [ii 5, ii 0, ii 1, ii 0, st (ByteArray.mk #[(97 : UInt8), (98 : UInt8), (99 : UInt8), (100 : UInt8), (101 : UInt8), (102 : UInt8), (103 : UInt8), (104 : UInt8)]), u 0, C.slice 1 []], [ii 1, ii 1, ii 0, ii 0, st ⟨#[]⟩, u 0, C.slice 1 []], [ii 13, ii 1, ii 0, ii 0, st ⟨#[]⟩, u 8, C.slice 1 []], [ii 5, ii 1, ii 1, ii 0, st (ByteArray.mk #[(97 : UInt8), (98 : UInt8), (99 : UInt8), (100 : UInt8), (101 : UInt8), (102 : UInt8), (103 : UInt8), (104 : UInt8)]), u 0, C.slice 1 []]] ≤ 1073741824 from by decide) <| ep ((rfl : (3 : Nat) = (3 : Nat))).symm <| eg (G.app [[ii 1, ii 0, ii 0, ii 0, st ⟨#[]⟩, u 0, C.slice 1 []], [ii 13, ii 0, ii 0, ii 0, st ⟨#[]⟩, u 9, C.slice 1 []], [ii 5, ii 0, ii 1, ii 0, st (ByteArray.mk #[(97 : UInt8), (98 : UInt8), (99 : UInt8), (100 : UInt8), (101 : UInt8), (102 : UInt8), (103 : UInt8), (104 : UInt8)]), u 0, C.slice 1 []], [ii 1, ii 1, ii 0, ii 0, st ⟨#[]⟩, u 0, C.slice 1 []], [ii 13, ii 1, ii 0, ii 0, st ⟨#[]⟩, u 8, C.slice 1 []], [ii 5, ii 1, ii 1, ii 0, st (ByteArray.mk #[(97 : UInt8), (98 : UInt8), (99 : UInt8), (100 : UInt8), (101 : UInt8), (102 : UInt8), (103 : UInt8), (104 : UInt8)]), u 0, C.slice 1 []]]) <| ec (hR2 k) <| ec (hP k) <| ec (hD k) <| ec (q1 k) <| et2 <| ec (q2 k) <| et3 <| ec (hR3 k) <| et <| ec (q3 k) <| et4 <| ec (hM k) <| et <| ec (rO (k + 16)) <| et2 <| ec (rO (k + 16)) <| et3 <| ec (hS k) <| et3 <| ec (rO (k + 16)) <| et <| ec (b1 k) <| et4 <| ec (b2 k) <| et5 <| ec (s1 k) <| et5 <| ec (s2 k) <| et5 <| ec (f k) <| et <| e0) rfl
theorem Hr : ∀ e ∈ Du, e.data.size ≤ 300 := by decide
theorem GR : ∀ e ∈ DH, e.data.size ≤ 300 := by decide
theorem HC : ∀ e ∈ CB, e.data.size ≤ 300 := by decide
theorem Fx : ClB 4 12 3 18 aC := mr 1 (by decide) Du
theorem Ey : ClB 4 24 6 36 aD := mr 1 (by decide) DH
theorem GH : ClB 4 0 0 0 aE := mr 1 (by decide) []
theorem Gw : ClB 4 20 5 30 aX := w6 CB Fx
theorem ClB.mints {N a m s : Nat} {c : Cl} (h : ClB N a m s c) : c.n0.mints.length + c.n1.mints.length ≤ m + m := by
  have := h.n0.mints
  have := h.n1.mints
  omega
set_option maxRecDepth 100000 in
theorem cq (k : Nat) : aj PP GL XX HH NN (k + 19) 7 [] [] = some ([.c (bo true)], []) :=
  DU aC aD aE aX aY (ja aC CB).2 (doM aX EB).2
    (fun k => r6 1 (Du.map Evt.cs) aC (fun k => rG 1 (by decide) Du (by decide) Hr k) k)
    (fun k => r6 1 (DH.map Evt.cs) aD (fun k => rG 1 (by decide) DH (by decide) GR k) k)
    (fun k => B3 1 aE (fun k => zD 1 (by decide) k) k)
    (fun k => Cc aC aX (CB.map Evt.cs) _ (fun k => AV aC CB Fx (by decide) (by decide) (by decide) (by decide) (by decide) HC k) (k + 1))
    (fun k => EN aX aY EB _ (fun k => Gz aX EB Gw (by decide) (by decide) (by decide) (by decide) (by decide) (by decide) k) (k + 3))
    (fun k => by rw [← aR1]; exact eJ aC (Nat.le_trans Fx.mints (by decide)) (k + 10))
    (fun k => by rw [← aR2]; exact eJ aD (Nat.le_trans Ey.mints (by decide)) (k + 10))
    (fun k => by rw [← aR3]; exact eJ aE (Nat.le_trans GH.mints (by decide)) (k + 10))
    (fun k => by
      have := io aD (Nat.le_trans Ey.mints (by decide)) (k + 15)
      rw [aM] at this
      exact this)
    (fun k => D0 [⟨9, 7, 0⟩, ⟨8, 7, 1⟩] (by decide) (k + 16))
    (fun k => by
      have := iW aD 7 9 (Nat.le_trans Ey.mints (by decide)) (k + 11)
      rw [aB1] at this
      exact this)
    (fun k => by
      have := iW aD 8 9 (Nat.le_trans Ey.mints (by decide)) (k + 11)
      rw [aB2] at this
      exact this)
    (fun k => by
      have := sw aX aY (k + 15)
      rw [aS1] at this
      exact this)
    (fun k => by
      have := sw aY aX (k + 15)
      rw [aS2] at this
      exact this)
    (fun k => by
      have := C3 aX aY (Nat.le_trans Gw.mints (by decide)) (k + 11)
      rw [aF] at this
      exact this) k
theorem qB {l : List Evt} {m : Int} (h : gj l m = false) : (l.length : Int) ≤ m := by
  unfold gj at h
  cases hq : decide ((l.length : Int) > m) with
  | true => rw [hq] at h; cases h
  | false => simp at hq; exact hq
theorem uI {l : List Evt} {m : Int} (h : gj l m = false) : ∀ e ∈ l, e.data.size ≤ 300 := fun e he => by
  unfold gj at h
  cases hq : decide ((l.length : Int) > m) with
  | true => rw [hq] at h; cases h
  | false =>
    rw [hq, cond_false] at h
    have := List.any_eq_false.1 h e he
    unfold m1 at this
    simp at this
    omega
end Go.Dm
namespace Go.Dm
open Go
def Sdo (l : List Evt) (c0 : Int) : St := St.mk (tc (C.slice 7 (List.map Evt.cs l)) :: T.hole :: T.hole :: tc (ii c0) :: hs 52 []) [] []
def Sdi (l : List Evt) (i j : Int) : St := St.mk (tc (C.slice 7 (l.map Evt.cs)) :: T.hole :: T.hole :: tc (ii i) :: tc (ii j) :: hs (51 : Nat) []) [] []
def pz (l : List Evt) (i : Nat) (x : Evt) (j : Nat) (y : Evt) : St := St.mk (tc (C.slice 7 (List.map Evt.cs l)) :: T.hole :: tc (bo false) :: tc (ii (↑i : Int)) :: tc (ii (↑j : Int)) :: hs 27 [tc (ii (↑j : Int)), tc (ii (↑i : Int)), tc (bo (decide ((↑j : Int) < (↑i : Int)))), T.hole, T.hole, tc (C.slice 7 (List.map Evt.cs l)), tc (ii (↑j : Int)), tc (C.rptr [ii y.kind, ii y.node, ii y.id, ii y.block, st y.data, u y.n, C.slice 1 (List.map eB y.keeps)]), tc (C.rptr [ii y.kind, ii y.node, ii y.id, ii y.block, st y.data, u y.n, C.slice 1 (List.map eB y.keeps)]), tc (ii y.kind), tc (bo (Evt.kind y == 13)), tc (bo (Evt.kind y == 13)), tc (C.slice 7 (List.map Evt.cs l)), tc (ii (↑j : Int)), tc (C.rptr [ii y.kind, ii y.node, ii y.id, ii y.block, st y.data, u y.n, C.slice 1 (List.map eB y.keeps)]), tc (C.rptr [u y.n, C.slice 1 (List.map eB y.keeps)]), tc (u y.n), tc (C.slice 7 (List.map Evt.cs l)), tc (ii (↑i : Int)), tc (C.rptr [ii x.kind, ii x.node, ii x.id, ii x.block, st x.data, u x.n, C.slice 1 (List.map eB x.keeps)]), tc (C.rptr [u x.n, C.slice 1 (List.map eB x.keeps)]), tc (u x.n), tc (bo (Evt.n y == Evt.n x)), tc (bo (Evt.n y == Evt.n x))]) [] []
theorem FE (l : List Evt) (i : Nat) (x : Evt) (hx : l[i]? = some x) (j : Nat) (y : Evt) (hy : l[j]? = some y) (k : Nat) (z0 : (decide ((↑j : Int) < (↑i : Int))) = true) (z1 : (Evt.kind y == 13) = true) (z2 : (Evt.n y == Evt.n x) = true) : cx (EE (k + 2)) (HH 41) NN (LB PP 41 8) (Sdi l (↑i : Int) (↑j : Int)) (Ext.ret) (pz l i x j y) :=
  ou (eb z0 <| ep (rfl : (↑j : Int) = (↑j : Int)) <| ep (aB (f := Evt.cs) hy) <| eg (G.idx j [ii y.kind, ii y.node, ii y.id, ii y.block, st y.data, u y.n, C.slice 1 (List.map eB y.keeps)]) <| eb3 z1 <| ep (rfl : (↑j : Int) = (↑j : Int)) <| ep (aB (f := Evt.cs) hy) <| eg (G.idx j [ii y.kind, ii y.node, ii y.id, ii y.block, st y.data, u y.n, C.slice 1 (List.map eB y.keeps)]) <| eb5 z1 <| ep (rfl : (↑i : Int) = (↑i : Int)) <| ep (aB (f := Evt.cs) hx) <| eg (G.idx i [ii x.kind, ii x.node, ii x.id, ii x.block, st x.data, u x.n, C.slice 1 (List.map eB x.keeps)]) <| eb4 z1 <| eb z2 <| e0)
theorem Fc (l : List Evt) (i : Nat) (x : Evt) (hx : l[i]? = some x) (j : Nat) (y : Evt) (hy : l[j]? = some y) (k : Nat) (z0 : (decide ((↑j : Int) < (↑i : Int))) = true) (z1 : (Evt.kind y == 13) = true) (z2 : (Evt.n y == Evt.n x) = false) : bp (EE (k + 2)) (HH 41) NN (LB PP 41 8) 0 0 (Sdi l (↑i : Int) (↑j : Int)) (Sdi l (↑i : Int) (IntKind.wrap .i64 ((↑j : Int) + 1))) :=
  nx (eb z0 <| ep (rfl : (↑j : Int) = (↑j : Int)) <| ep (aB (f := Evt.cs) hy) <| eg (G.idx j [ii y.kind, ii y.node, ii y.id, ii y.block, st y.data, u y.n, C.slice 1 (List.map eB y.keeps)]) <| eb3 z1 <| ep (rfl : (↑j : Int) = (↑j : Int)) <| ep (aB (f := Evt.cs) hy) <| eg (G.idx j [ii y.kind, ii y.node, ii y.id, ii y.block, st y.data, u y.n, C.slice 1 (List.map eB y.keeps)]) <| eb5 z1 <| ep (rfl : (↑i : Int) = (↑i : Int)) <| ep (aB (f := Evt.cs) hx) <| eg (G.idx i [ii x.kind, ii x.node, ii x.id, ii x.block, st x.data, u x.n, C.slice 1 (List.map eB x.keeps)]) <| eb4 z1 <| eb z2 <| e0)
theorem E3 (l : List Evt) (i : Nat) (j : Nat) (y : Evt) (hy : l[j]? = some y) (k : Nat) (z0 : (decide ((↑j : Int) < (↑i : Int))) = true) (z1 : (Evt.kind y == 13) = false) : bp (EE (k + 2)) (HH 41) NN (LB PP 41 8) 0 0 (Sdi l (↑i : Int) (↑j : Int)) (Sdi l (↑i : Int) (IntKind.wrap .i64 ((↑j : Int) + 1))) :=
  nx (eb z0 <| ep (rfl : (↑j : Int) = (↑j : Int)) <| ep (aB (f := Evt.cs) hy) <| eg (G.idx j [ii y.kind, ii y.node, ii y.id, ii y.block, st y.data, u y.n, C.slice 1 (List.map eB y.keeps)]) <| Hb z1 <| ef <| e0)
def qe (l : List Evt) (i : Nat) (j : Nat) : St := St.mk (tc (C.slice 7 (List.map Evt.cs l)) :: T.hole :: T.hole :: tc (ii (↑i : Int)) :: tc (ii (↑j : Int)) :: hs 27 (tc (ii (↑j : Int)) :: tc (ii (↑i : Int)) :: tc (bo (decide ((↑j : Int) < (↑i : Int)))) :: hs 21 [])) [] []
theorem Fd (l : List Evt) (i : Nat) (j : Nat) (k : Nat) (z0 : (decide ((↑j : Int) < (↑i : Int))) = false) : cx (EE (k + 2)) (HH 41) NN (LB PP 41 8) (Sdi l (↑i : Int) (↑j : Int)) (Ext.exit 2) (qe l i j) :=
  ou (eb z0 <| e0)
def wJ (l : List Evt) (i : Nat) (x : Evt) : St := St.mk (tc (C.slice 7 (List.map Evt.cs l)) :: T.hole :: tc (bo false) :: tc (ii (↑i : Int)) :: T.hole :: tc (ii (↑i : Int)) :: tc (C.slice 7 (List.map Evt.cs l)) :: tc (ii (↑(l.length) : Int)) :: tc (bo (decide ((↑i : Int) < (↑(l.length) : Int)))) :: T.hole :: T.hole :: tc (C.slice 7 (List.map Evt.cs l)) :: tc (ii (↑i : Int)) :: tc (C.rptr [ii x.kind, ii x.node, ii x.id, ii x.block, st x.data, u x.n, C.slice 1 (List.map eB x.keeps)]) :: tc (C.rptr [ii x.kind, ii x.node, ii x.id, ii x.block, st x.data, u x.n, C.slice 1 (List.map eB x.keeps)]) :: tc (ii x.kind) :: tc (bo (Evt.kind x != 13)) :: tc (C.slice 7 (List.map Evt.cs l)) :: tc (ii (↑i : Int)) :: tc (C.rptr [ii x.kind, ii x.node, ii x.id, ii x.block, st x.data, u x.n, C.slice 1 (List.map eB x.keeps)]) :: tc (C.rptr [u x.n, C.slice 1 (List.map eB x.keeps)]) :: tc (u x.n) :: tc (bo (Evt.n x == 0)) :: tc (bo (Evt.n x == 0)) :: ks 7 (tc (bo true) :: hs 24 [])) [] []
theorem FX (l : List Evt) (i : Nat) (x : Evt) (hx : l[i]? = some x) (k : Nat) (z0 : (decide ((↑i : Int) < (↑(l.length) : Int))) = true) (z1 : (Evt.kind x == 13) = true) (z2 : (Evt.n x == 0) = true) : cx (EE (k + 2)) (HH 41) NN (LB PP 41 2) (Sdo l (↑i : Int)) (Ext.ret) (wJ l i x) :=
  ou (ep (av (Evt.cs) (l)) <| eg (G.len (l.length)) <| eb z0 <| ep (rfl : (↑i : Int) = (↑i : Int)) <| ep (aB (f := Evt.cs) hx) <| eg (G.idx i [ii x.kind, ii x.node, ii x.id, ii x.block, st x.data, u x.n, C.slice 1 (List.map eB x.keeps)]) <| en z1 <| ep (rfl : (↑i : Int) = (↑i : Int)) <| ep (aB (f := Evt.cs) hx) <| eg (G.idx i [ii x.kind, ii x.node, ii x.id, ii x.block, st x.data, u x.n, C.slice 1 (List.map eB x.keeps)]) <| eb8 z2 <| et <| e0)
def we (l : List Evt) (i : Nat) (x : Evt) : St := St.mk (tc (C.slice 7 (List.map Evt.cs l)) :: T.hole :: tc (bo false) :: tc (ii (↑i : Int)) :: T.hole :: tc (ii (↑i : Int)) :: tc (C.slice 7 (List.map Evt.cs l)) :: tc (ii (↑(l.length) : Int)) :: tc (bo (decide ((↑i : Int) < (↑(l.length) : Int)))) :: T.hole :: T.hole :: tc (C.slice 7 (List.map Evt.cs l)) :: tc (ii (↑i : Int)) :: tc (C.rptr [ii x.kind, ii x.node, ii x.id, ii x.block, st x.data, u x.n, C.slice 1 (List.map eB x.keeps)]) :: tc (C.rptr [ii x.kind, ii x.node, ii x.id, ii x.block, st x.data, u x.n, C.slice 1 (List.map eB x.keeps)]) :: tc (ii x.kind) :: tc (bo (Evt.kind x != 13)) :: tc (C.slice 7 (List.map Evt.cs l)) :: tc (ii (↑i : Int)) :: tc (C.rptr [ii x.kind, ii x.node, ii x.id, ii x.block, st x.data, u x.n, C.slice 1 (List.map eB x.keeps)]) :: tc (C.rptr [u x.n, C.slice 1 (List.map eB x.keeps)]) :: tc (u x.n) :: tc (bo (Evt.n x == 0)) :: tc (bo (Evt.n x == 0)) :: tc (C.slice 7 (List.map Evt.cs l)) :: tc (ii (↑i : Int)) :: tc (C.rptr [ii x.kind, ii x.node, ii x.id, ii x.block, st x.data, u x.n, C.slice 1 (List.map eB x.keeps)]) :: tc (C.rptr [u x.n, C.slice 1 (List.map eB x.keeps)]) :: tc (u x.n) :: tc (u 7) :: tc (bo (Evt.n x == 7)) :: tc (bo (Evt.n x == 7)) :: hs 24 []) [] []
theorem EL (l : List Evt) (i : Nat) (x : Evt) (hx : l[i]? = some x) (k : Nat) (z0 : (decide ((↑i : Int) < (↑(l.length) : Int))) = true) (z1 : (Evt.kind x == 13) = true) (z2 : (Evt.n x == 0) = false) (z3 : (Evt.n x == 7) = true) : cx (EE (k + 2)) (HH 41) NN (LB PP 41 2) (Sdo l (↑i : Int)) (Ext.ret) (we l i x) :=
  ou (ep (av (Evt.cs) (l)) <| eg (G.len (l.length)) <| eb z0 <| ep (rfl : (↑i : Int) = (↑i : Int)) <| ep (aB (f := Evt.cs) hx) <| eg (G.idx i [ii x.kind, ii x.node, ii x.id, ii x.block, st x.data, u x.n, C.slice 1 (List.map eB x.keeps)]) <| en z1 <| ep (rfl : (↑i : Int) = (↑i : Int)) <| ep (aB (f := Evt.cs) hx) <| eg (G.idx i [ii x.kind, ii x.node, ii x.id, ii x.block, st x.data, u x.n, C.slice 1 (List.map eB x.keeps)]) <| eb3 z2 <| ep (rfl : (↑i : Int) = (↑i : Int)) <| ep (aB (f := Evt.cs) hx) <| eg (G.idx i [ii x.kind, ii x.node, ii x.id, ii x.block, st x.data, u x.n, C.slice 1 (List.map eB x.keeps)]) <| eb3 z2 <| ec (ko (k + 1)) <| eb2 z2 <| eb z3 <| e0)
theorem F7 (l : List Evt) (i : Nat) (x : Evt) (hx : l[i]? = some x) (j : Nat) (hL : ∀ k, br (EE (k + 2)) (HH 41) NN (LB PP 41 8) (Sdi l (↑i : Int) 0) (Ext.exit 2) (qe l i j)) (k : Nat) (z0 : (decide ((↑i : Int) < (↑(l.length) : Int))) = true) (z1 : (Evt.kind x == 13) = true) (z2 : (Evt.n x == 0) = false) (z3 : (Evt.n x == 7) = false) : bp (EE (k + 2)) (HH 41) NN (LB PP 41 2) 0 0 (Sdo l (↑i : Int)) (Sdo l (IntKind.wrap .i64 ((↑i : Int) + 1))) :=
  nx (ep (av (Evt.cs) (l)) <| eg (G.len (l.length)) <| eb z0 <| ep (rfl : (↑i : Int) = (↑i : Int)) <| ep (aB (f := Evt.cs) hx) <| eg (G.idx i [ii x.kind, ii x.node, ii x.id, ii x.block, st x.data, u x.n, C.slice 1 (List.map eB x.keeps)]) <| en z1 <| ep (rfl : (↑i : Int) = (↑i : Int)) <| ep (aB (f := Evt.cs) hx) <| eg (G.idx i [ii x.kind, ii x.node, ii x.id, ii x.block, st x.data, u x.n, C.slice 1 (List.map eB x.keeps)]) <| eb3 z2 <| ep (rfl : (↑i : Int) = (↑i : Int)) <| ep (aB (f := Evt.cs) hx) <| eg (G.idx i [ii x.kind, ii x.node, ii x.id, ii x.block, st x.data, u x.n, C.slice 1 (List.map eB x.keeps)]) <| eb3 z2 <| ec (ko (k + 1)) <| eb2 z2 <| eb z3 <| eg (G.loop (Ext.exit 2) (qe l i j)) <| ep (hL k) <| e0)
theorem FT (l : List Evt) (i : Nat) (x : Evt) (hx : l[i]? = some x) (k : Nat) (z0 : (decide ((↑i : Int) < (↑(l.length) : Int))) = true) (z1 : (Evt.kind x == 13) = false) : bp (EE (k + 2)) (HH 41) NN (LB PP 41 2) 0 0 (Sdo l (↑i : Int)) (Sdo l (IntKind.wrap .i64 ((↑i : Int) + 1))) :=
  nx (ep (av (Evt.cs) (l)) <| eg (G.len (l.length)) <| eb z0 <| ep (rfl : (↑i : Int) = (↑i : Int)) <| ep (aB (f := Evt.cs) hx) <| eg (G.idx i [ii x.kind, ii x.node, ii x.id, ii x.block, st x.data, u x.n, C.slice 1 (List.map eB x.keeps)]) <| en z1 <| e0)
def vN (l : List Evt) (i : Nat) : St := St.mk (tc (C.slice 7 (List.map Evt.cs l)) :: T.hole :: T.hole :: tc (ii (↑i : Int)) :: T.hole :: tc (ii (↑i : Int)) :: tc (C.slice 7 (List.map Evt.cs l)) :: tc (ii (↑(l.length) : Int)) :: tc (bo (decide ((↑i : Int) < (↑(l.length) : Int)))) :: hs 47 []) [] []
theorem Gn (l : List Evt) (i : Nat) (k : Nat) (z0 : (decide ((↑i : Int) < (↑(l.length) : Int))) = false) : cx (EE (k + 2)) (HH 41) NN (LB PP 41 2) (Sdo l (↑i : Int)) (Ext.exit 0) (vN l i) :=
  ou (ep (av (Evt.cs) (l)) <| eg (G.len (l.length)) <| eb z0 <| e0)
def w5 (l : List Evt) (i : Nat) (x : Evt) (j : Nat) (y : Evt) : St := St.mk (tc (C.slice 7 (List.map Evt.cs l)) :: T.hole :: tc (bo false) :: tc (ii (↑i : Int)) :: tc (ii (↑j : Int)) :: hs 27 [tc (ii (↑j : Int)), tc (ii (↑i : Int)), tc (bo (decide ((↑j : Int) < (↑i : Int)))), T.hole, T.hole, tc (C.slice 7 (List.map Evt.cs l)), tc (ii (↑j : Int)), tc (C.rptr [ii y.kind, ii y.node, ii y.id, ii y.block, st y.data, u y.n, C.slice 1 (List.map eB y.keeps)]), tc (C.rptr [ii y.kind, ii y.node, ii y.id, ii y.block, st y.data, u y.n, C.slice 1 (List.map eB y.keeps)]), tc (ii y.kind), tc (bo (Evt.kind y == 13)), tc (bo (Evt.kind y == 13)), tc (C.slice 7 (List.map Evt.cs l)), tc (ii (↑j : Int)), tc (C.rptr [ii y.kind, ii y.node, ii y.id, ii y.block, st y.data, u y.n, C.slice 1 (List.map eB y.keeps)]), tc (C.rptr [u y.n, C.slice 1 (List.map eB y.keeps)]), tc (u y.n), tc (C.slice 7 (List.map Evt.cs l)), tc (ii (↑i : Int)), tc (C.rptr [ii x.kind, ii x.node, ii x.id, ii x.block, st x.data, u x.n, C.slice 1 (List.map eB x.keeps)]), tc (C.rptr [u x.n, C.slice 1 (List.map eB x.keeps)]), tc (u x.n), tc (bo (Evt.n y == Evt.n x)), tc (bo (Evt.n y == Evt.n x))]) [] []
theorem ET (l : List Evt) (i : Nat) (x : Evt) (hx : l[i]? = some x) (j : Nat) (y : Evt) (hL : ∀ k, br (EE (k + 2)) (HH 41) NN (LB PP 41 8) (Sdi l (↑i : Int) 0) Ext.ret (pz l i x j y)) (k : Nat) (z0 : (decide ((↑i : Int) < (↑(l.length) : Int))) = true) (z1 : (Evt.kind x == 13) = true) (z2 : (Evt.n x == 0) = false) (z3 : (Evt.n x == 7) = false) : cx (EE (k + 2)) (HH 41) NN (LB PP 41 2) (Sdo l (↑i : Int)) (Ext.ret) (w5 l i x j y) :=
  ou (ep (av (Evt.cs) (l)) <| eg (G.len (l.length)) <| eb z0 <| ep (rfl : (↑i : Int) = (↑i : Int)) <| ep (aB (f := Evt.cs) hx) <| eg (G.idx i [ii x.kind, ii x.node, ii x.id, ii x.block, st x.data, u x.n, C.slice 1 (List.map eB x.keeps)]) <| en z1 <| ep (rfl : (↑i : Int) = (↑i : Int)) <| ep (aB (f := Evt.cs) hx) <| eg (G.idx i [ii x.kind, ii x.node, ii x.id, ii x.block, st x.data, u x.n, C.slice 1 (List.map eB x.keeps)]) <| eb3 z2 <| ep (rfl : (↑i : Int) = (↑i : Int)) <| ep (aB (f := Evt.cs) hx) <| eg (G.idx i [ii x.kind, ii x.node, ii x.id, ii x.block, st x.data, u x.n, C.slice 1 (List.map eB x.keeps)]) <| eb3 z2 <| ec (ko (k + 1)) <| eb2 z2 <| eb z3 <| eg (G.loop Ext.ret (pz l i x j y)) <| ep (hL k) <| e0)
theorem pZ {α : Type} {l : List α} {i j : Nat} {y : α} (h : (l.take i)[j]? = some y) : l[j]? = some y ∧ j < i := by
  rw [List.getElem?_take] at h
  split at h
  · exact ⟨h, by assumption⟩
  · cases h
theorem AM (l : List Evt) (i : Nat) (x : Evt) (hx : l[i]? = some x) (hl : l.length ≤ 1000000) : ((l.take i).any (gU x) = false ∧ ∀ k, br (EE (k + 2)) (HH 41) NN (LB PP 41 8) (Sdi l i 0) (.exit 2) (qe l i i)) ∨ ((l.take i).any (gU x) = true ∧ ∃ j y, ∀ k, br (EE (k + 2)) (HH 41) NN (LB PP 41 8) (Sdi l i 0) .ret (pz l i x j y)) := by
  have hi := dJ hx
  have hlen : (l.take i).length = i := by rw [List.length_take]; omega
  rcases tC (E := fun k => EE (k + 2)) (H := HH 41) (n := NN) (b := LB PP 41 8) (fun j => Sdi l i (j : Nat)) (l.take i) (gU x) (fun j y => pz l i x j y) (qe l i (l.take i).length) (nv := 0) (nt := 0) (e := .ret) (e' := .exit 2) (by kernel_rfl) (by kernel_rfl)
    (fun k j y hy hp => by
      obtain ⟨h1, h2⟩ := pZ hy
      unfold gU at hp
      cases hk : y.kind == 13 with
      | true =>
        rw [hk, Bool.true_and] at hp
        have := Fc l i x hx j y h1 k (decide_eq_true (by omega)) hk hp
        rwa [sj h1 (by omega)] at this
      | false =>
        have := E3 l i j y h1 k (decide_eq_true (by omega)) hk
        rwa [sj h1 (by omega)] at this)
    (fun k j y hy hp => by
      obtain ⟨h1, h2⟩ := pZ hy
      unfold gU at hp
      rw [Bool.and_eq_true] at hp
      exact FE l i x hx j y h1 k (decide_eq_true (by omega)) hp.1 hp.2)
    (fun k => Fd l i _ k (by rw [hlen]; exact dge)) (by unfold NN; omega) with ⟨hb, hL⟩ | ⟨hb, j, y, hy, hp, hf, hj, hL⟩
  · rw [hlen] at hL
    exact .inl ⟨hb, hL⟩
  · exact .inr ⟨hb, j, y, hL⟩
theorem Dt (l : List Evt) (i : Nat) (x : Evt) (hL : ∀ k, br (EE (k + 2)) (HH 41) NN (LB PP 41 2) (Sdo l 0) Ext.ret (wJ l i x)) (k : Nat) : aj PP GL XX HH NN (k + 3) 41 [A.c (C.slice 7 (List.map Evt.cs l))] [] = some ([Res.c (bo false)], []) := by
  exact rt (eg (G.loop Ext.ret (wJ l i x)) <| ep (hL k) <| e0) rfl
theorem DK (l : List Evt) (i : Nat) (x : Evt) (hL : ∀ k, br (EE (k + 2)) (HH 41) NN (LB PP 41 2) (Sdo l 0) Ext.ret (we l i x)) (k : Nat) : aj PP GL XX HH NN (k + 3) 41 [A.c (C.slice 7 (List.map Evt.cs l))] [] = some ([Res.c (bo false)], []) := by
  exact rt (eg (G.loop Ext.ret (we l i x)) <| ep (hL k) <| e0) rfl
theorem Ds (l : List Evt) (i : Nat) (x : Evt) (j : Nat) (y : Evt) (hL : ∀ k, br (EE (k + 2)) (HH 41) NN (LB PP 41 2) (Sdo l 0) Ext.ret (w5 l i x j y)) (k : Nat) : aj PP GL XX HH NN (k + 3) 41 [A.c (C.slice 7 (List.map Evt.cs l))] [] = some ([Res.c (bo false)], []) := by
  exact rt (eg (G.loop Ext.ret (w5 l i x j y)) <| ep (hL k) <| e0) rfl
theorem Eb (l : List Evt) (i : Nat) (hL : ∀ k, br (EE (k + 2)) (HH 41) NN (LB PP 41 2) (Sdo l 0) (Ext.exit 0) (vN l i)) (k : Nat) : aj PP GL XX HH NN (k + 3) 41 [A.c (C.slice 7 (List.map Evt.cs l))] [] = some ([Res.c (bo true)], []) := by
  exact rt (eg (G.loop (Ext.exit 0) (vN l i)) <| ep (hL k) <| e0) rfl
theorem D8 (l : List Evt) (hl : l.length ≤ 1000000) (k i m : Nat) (hm : (List.range l.length)[i]? = some m) (hb : kK l m = false) : bp (EE (k + 2)) (HH 41) NN (LB PP 41 2) 0 0 (Sdo l (i : Nat)) (Sdo l ((i + 1 : Nat))) := by
  have hlt := dJ hm
  rw [List.length_range] at hlt
  have hmi : m = i := by
    rw [List.getElem?_range hlt] at hm
    cases hm; rfl
  subst hmi
  have hx : l[m]? = some l[m] := List.getElem?_eq_getElem hlt
  unfold kK at hb
  rw [hx] at hb
  simp only [CA] at hb
  cases hk : l[m].kind == 13 with
  | false =>
    have := FT l m l[m] hx k (dlt hx) hk
    rwa [sj hx (by omega)] at this
  | true =>
    rw [hk, Bool.true_and, Bool.or_eq_false_iff, Bool.or_eq_false_iff] at hb
    rcases AM l m l[m] hx hl with ⟨_, hL⟩ | ⟨h2, _⟩
    · have := F7 l m l[m] hx m hL k (dlt hx) hk hb.1 hb.2.1
      rwa [sj hx (by omega)] at this
    · rw [hb.2.2] at h2; cases h2
theorem vj (l : List Evt) (hl : l.length ≤ 1000000) (k : Nat) : aj PP GL XX HH NN (k + 3) 41 [.c (.slice 7 (l.map Evt.cs))] [] = some ([.c (bo (cP l))], []) := by
  unfold cP
  cases hb : (List.range l.length).any (kK l) with
  | false =>
    refine Eb l l.length (fun k => ?_) k
    refine jA (E := EE (k + 2)) (n := NN) (b := LB PP 41 2) (fun i => Sdo l (i : Nat)) (List.range l.length) (kK l) rfl (by kernel_rfl) (by kernel_rfl) (fun i m hm hp => D8 l hl k i m hm hp) ?_ (gg hb) (by unfold NN; rw [List.length_range]; omega)
    rw [List.length_range]
    exact Gn l l.length k dge
  | true =>
    have hj := ce hb
    obtain ⟨i, hi⟩ : ∃ i, (List.range l.length).findIdx (kK l) = i := ⟨_, rfl⟩
    have hlt : i < l.length := by rw [← hi]; rw [List.length_range] at hj; exact hj
    have hp : kK l i = true := by
      have := List.findIdx_getElem (w := hj)
      simp only [List.getElem_range] at this
      rw [hi] at this
      exact this
    have hx : l[i]? = some l[i] := List.getElem?_eq_getElem hlt
    unfold kK at hp
    rw [hx] at hp
    simp only [CA, Bool.and_eq_true] at hp
    obtain ⟨hk, hp⟩ := hp
    have go : ∀ (t : St) (k : Nat), cx (EE (k + 2)) (HH 41) NN (LB PP 41 2) (Sdo l (i : Nat)) .ret t → br (EE (k + 2)) (HH 41) NN (LB PP 41 2) (Sdo l 0) .ret t := fun t k ht =>
      lX (E := EE (k + 2)) (n := NN) (b := LB PP 41 2) (fun i => Sdo l (i : Nat)) (List.range l.length) (kK l) rfl (by kernel_rfl) (by kernel_rfl) (fun i m hm hp => D8 l hl k i m hm hp) (fun m hm hq => by rw [hi]; exact ht) hj (by unfold NN; rw [List.length_range]; omega)
    cases h0 : l[i].n == 0 with
    | true => exact Dt l i l[i] (fun k => go _ k (FX l i l[i] hx k (dlt hx) hk h0)) k
    | false =>
      cases h7 : l[i].n == 7 with
      | true => exact DK l i l[i] (fun k => go _ k (EL l i l[i] hx k (dlt hx) hk h0 h7)) k
      | false =>
        rw [h0, h7, Bool.false_or, Bool.false_or] at hp
        rcases AM l i l[i] hx hl with ⟨h2, _⟩ | ⟨_, j, y, hL⟩
        · rw [h2] at hp; cases hp
        · exact Ds l i l[i] j y (fun k => go _ k (ET l i l[i] hx j y hL k (dlt hx) hk h0 h7)) k
theorem bh (l : List Evt) (hl : l.length ≤ 1000000) (k : Nat) : aj PP GL XX HH NN (k + 4) 23 [A.c (C.slice 7 (List.map Evt.cs l))] [] = some ([Res.c (bo (cP l))], []) := by
  exact rt (ec (vj l hl k) <| e0) rfl
end Go.Dm
namespace Go.Dm
open Go
theorem qQ : VeR ⟨7, 0, 0, 0⟩ := by unfold VeR R64; simp
theorem tz (i : Int) (n : Nat) : NI (PV []) (e8 i (cr n 7)) :=
  ⟨⟨rP (s := aU n 7) qQ ⟨qQ, Or.inl rfl, fun _ => ⟨fun g hg => Or.inl (by rcases hg with h | h | h <;> exact h), ⟨fun h => absurd rfl h, fun _ => Or.inl rfl⟩⟩⟩, fun w hw => by cases hw⟩, fun h => absurd h (by simp [e8]), fun h => absurd h (show (0 : Int) ≠ 4 by decide), fun _ => rfl⟩
end Go.Dm
namespace Go.Dm
open Go
theorem C4 {l : List Evt} (hd : cP l = true) (hr : ∀ e ∈ l, R64 e.n) (n : Nat) : Iv (j9 l) [] (IntKind.wrap .i64 (((n + 2 : Nat) : Int) - 2)) (AH n) := by
  have n0 := tz 0 n
  have n1 := tz 1 n
  have hc := yB hd hr n0 n1 rfl rfl rfl rfl rfl rfl
  obtain ⟨s0, q0⟩ := gG (T := []) trivial n0 []
  obtain ⟨s1, q1⟩ := gG (T := []) trivial n1 []
  have x0 : Exa (e8 0 (cr n 7)) := fun h => absurd h (by simp [e8])
  have x1 : Exa (e8 1 (cr n 7)) := fun h => absurd h (by simp [e8])
  obtain ⟨e0, _, b0⟩ := iz x0 []
  obtain ⟨e1, _, b1⟩ := iz x1 []
  have hs : ∀ i, (e8 i (cr n 7)).store.disk.sure.length = n + 2 := by
    intro i
    simp [e8, cr]
  have k7 : ∀ {m : Nd}, NI (PV []) m → ∀ v, Pos m v → v.cur = 7 := by
    intro m hm v hp
    rcases (tJ hm hp).2.1 with h | h
    · exact h
    · simp [oq] at h
  refine ⟨⟨(hc.stepA s0).stepB s1, e0, e1, fun v w hv hw => ?_, fun hu => ?_, fun hu => ?_⟩, fun _ => ⟨?_, ?_⟩, fun h => absurd h (by simp [AH, lk0])⟩
  · have h1 := k7 s0.ok v hv
    have h2 := k7 s1.ok w hw
    exact ⟨Gp.eq (by omega), Gp.eq (by omega)⟩
  · have := b0 hu rfl
    rwa [hs] at this
  · have := b1 hu rfl
    rwa [hs] at this
  · rcases q0 with q | q
    · show (bt (e8 0 (cr n 7)) []).1.state = 0
      rw [q]; rfl
    · exact q.2
  · rcases q1 with q | q
    · show (bt (e8 1 (cr n 7)) []).1.state = 0
      rw [q]; rfl
    · exact q.2
theorem Ad {l r : List Evt} (hd : cP (l ++ r) = true) (hr : ∀ e ∈ l ++ r, R64 e.n) (b : Int) (hb : 0 ≤ b) : ∃ T B, Iv (j9 r) T B (lC b l) := by
  obtain ⟨T, h⟩ := xS l r rfl (mr b hb []) (C4 hd hr _)
  exact ⟨T, _, h⟩
theorem dl (n : Nd) (k : Nat) : aj PP GL XX HH NN (k + 3) 26 [A.agg (Nd.cs n)] [] = some ([Res.agg (He.cs (cy n))], []) := by
  exact rt (ec (vL n k) <| e0) rfl
theorem lrF (b : Int) (l : List Evt) (c : Cl) (g1 : gj l (80 : Int) = false) (g2 : cP l = true) (hl : l.length ≤ 1000000) (hc : c.n0.mints.length + c.n1.mints.length ≤ 100000) (hR : ∀ k, aj PP GL XX HH NN (k + 19) 9 [A.c (by8 b), A.c (C.slice 7 (List.map Evt.cs l))] [] = some ([Res.agg (Cl.cs c)], [])) (k : Nat) : aj PP GL XX HH NN (k + 20) 5 [A.c (by8 b), A.c (C.slice 7 (List.map Evt.cs l))] [] = some ([Res.c (bo (bH c))], []) := by
  rcases bft (decide (l5 c < 0)) with z0 | z0
  · exact rt (ec (cq k) <| ef <| ec (cY l 80 (show (80 : Int) ≤ 1000000 from by decide) (k + 16)) <| eb2 g1 <| ec (bh l hl (k + 15)) <| eb2 g1 <| en g2 <| ec (hR k) <| ec (eJ c hc (k + 11)) <| eb5 z0 <| Hj <| et4 <| e0) (rs := [Res.c (bo true)]) (by simp only [bH, bI, kb, z0, vq] <;> rfl)
  · rcases bft c.n0.store.super.inc with z1 | z1
    · exact rt (ec (cq k) <| ef <| ec (cY l 80 (show (80 : Int) ≤ 1000000 from by decide) (k + 16)) <| eb2 g1 <| ec (bh l hl (k + 15)) <| eb2 g1 <| en g2 <| ec (hR k) <| ec (eJ c hc (k + 11)) <| eb5 z0 <| eb5 z1 <| Ez <| e0) (rs := [Res.c (bo true)]) (by simp only [bH, bI, kb, z0, z1, vq] <;> rfl)
    · rcases bft c.n1.store.super.inc with z2 | z2
      · exact rt (ec (cq k) <| ef <| ec (cY l 80 (show (80 : Int) ≤ 1000000 from by decide) (k + 16)) <| eb2 g1 <| ec (bh l hl (k + 15)) <| eb2 g1 <| en g2 <| ec (hR k) <| ec (eJ c hc (k + 11)) <| eb5 z0 <| eb5 z1 <| eb5 z2 <| et6 <| e0) (rs := [Res.c (bo true)]) (by simp only [bH, bI, kb, z0, z1, z2, vq] <;> rfl)
      · rcases bft c.n0.store.super.dis with z3 | z3
        · exact rt (ec (cq k) <| ef <| ec (cY l 80 (show (80 : Int) ≤ 1000000 from by decide) (k + 16)) <| eb2 g1 <| ec (bh l hl (k + 15)) <| eb2 g1 <| en g2 <| ec (hR k) <| ec (eJ c hc (k + 11)) <| eb5 z0 <| eb5 z1 <| eb5 z2 <| eb5 z3 <| et <| e0) (rs := [Res.c (bo true)]) (by simp only [bH, bI, kb, z0, z1, z2, z3, vq] <;> rfl)
        · rcases bft c.n1.store.super.dis with z4 | z4
          · exact rt (ec (cq k) <| ef <| ec (cY l 80 (show (80 : Int) ≤ 1000000 from by decide) (k + 16)) <| eb2 g1 <| ec (bh l hl (k + 15)) <| eb2 g1 <| en g2 <| ec (hR k) <| ec (eJ c hc (k + 11)) <| eb5 z0 <| eb5 z1 <| eb5 z2 <| eb5 z3 <| eb z4 <| e0) (rs := [Res.c (bo true)]) (by simp only [bH, bI, kb, z0, z1, z2, z3, z4, vq] <;> rfl)
          · rcases bft (l5 c == 3) with z5 | z5
            · exact rt (ec (cq k) <| ef <| ec (cY l 80 (show (80 : Int) ≤ 1000000 from by decide) (k + 16)) <| eb2 g1 <| ec (bh l hl (k + 15)) <| eb2 g1 <| en g2 <| ec (hR k) <| ec (eJ c hc (k + 11)) <| eb5 z0 <| eb5 z1 <| eb5 z2 <| eb5 z3 <| eb z4 <| ec (dl c.n0 (k + 16)) <| ec (dl c.n1 (k + 16)) <| ec (cm (cy c.n0) (cy c.n1) (k + 15)) <| eb z5 <| e0) (rs := [Res.c (bo (Vd.kind (ag (cy c.n0) (cy c.n1)) == 4))]) (by simp only [bH, bI, kb, z0, z1, z2, z3, z4, z5, vq] <;> rfl)
            · rcases bft (Vd.kind (ag (cy c.n0) (cy c.n1)) == 4) with z6 | z6
              · rcases bft c.n0.primary with z7 | z7
                · rcases bft c.n1.primary with z8 | z8
                  · exact rt (ec (cq k) <| ef <| ec (cY l 80 (show (80 : Int) ≤ 1000000 from by decide) (k + 16)) <| eb2 g1 <| ec (bh l hl (k + 15)) <| eb2 g1 <| en g2 <| ec (hR k) <| ec (eJ c hc (k + 11)) <| eb5 z0 <| eb5 z1 <| eb5 z2 <| eb5 z3 <| eb z4 <| ec (dl c.n0 (k + 16)) <| ec (dl c.n1 (k + 16)) <| ec (cm (cy c.n0) (cy c.n1) (k + 15)) <| eb z5 <| en z6 <| eb3 z7 <| eb z8 <| e0) (rs := [Res.c (bo true)]) (by simp only [bH, bI, kb, z0, z1, z2, z3, z4, z5, z6, z7, z8, vq] <;> rfl)
                  · rcases bft (l5 c == 1) with z9 | z9
                    · rcases bft (decide (hJ c c.n1.store.super.v.cur c.n0.store.super.v.cur > 2)) with z10 | z10
                      · exact rt (ec (cq k) <| ef <| ec (cY l 80 (show (80 : Int) ≤ 1000000 from by decide) (k + 16)) <| eb2 g1 <| ec (bh l hl (k + 15)) <| eb2 g1 <| en g2 <| ec (hR k) <| ec (eJ c hc (k + 11)) <| eb5 z0 <| eb5 z1 <| eb5 z2 <| eb5 z3 <| eb z4 <| ec (dl c.n0 (k + 16)) <| ec (dl c.n1 (k + 16)) <| ec (cm (cy c.n0) (cy c.n1) (k + 15)) <| eb z5 <| en z6 <| eb3 z7 <| eb z8 <| ec (d3 c (k + 18)) <| ec (d6 c (k + 18)) <| eb3 z9 <| eb4 z8 <| ec (iW c c.n1.store.super.v.cur c.n0.store.super.v.cur hc (k + 12)) <| eb z8 <| eb z9 <| eb z8 <| eb z9 <| eb5 z10 <| e0) (rs := [Res.c (bo true)]) (by simp only [bH, bI, kb, z0, z1, z2, z3, z4, z5, z6, z7, z8, z9, z10, vq] <;> rfl)
                      · rcases bft (l5 c == 2) with z11 | z11
                        · exact rt (ec (cq k) <| ef <| ec (cY l 80 (show (80 : Int) ≤ 1000000 from by decide) (k + 16)) <| eb2 g1 <| ec (bh l hl (k + 15)) <| eb2 g1 <| en g2 <| ec (hR k) <| ec (eJ c hc (k + 11)) <| eb5 z0 <| eb5 z1 <| eb5 z2 <| eb5 z3 <| eb z4 <| ec (dl c.n0 (k + 16)) <| ec (dl c.n1 (k + 16)) <| ec (cm (cy c.n0) (cy c.n1) (k + 15)) <| eb z5 <| en z6 <| eb3 z7 <| eb z8 <| ec (d3 c (k + 18)) <| ec (d6 c (k + 18)) <| eb3 z9 <| eb4 z8 <| ec (iW c c.n1.store.super.v.cur c.n0.store.super.v.cur hc (k + 12)) <| eb z8 <| eb z9 <| eb z8 <| eb z9 <| eb3 z10 <| eb3 z11 <| eb5 z7 <| eb z11 <| eb z7 <| eb z10 <| eb z11 <| eb z10 <| e0) (rs := [Res.c (bo true)]) (by simp only [bH, bI, kb, z0, z1, z2, z3, z4, z5, z6, z7, z8, z9, z10, z11, vq] <;> rfl)
                        · exact rt (ec (cq k) <| ef <| ec (cY l 80 (show (80 : Int) ≤ 1000000 from by decide) (k + 16)) <| eb2 g1 <| ec (bh l hl (k + 15)) <| eb2 g1 <| en g2 <| ec (hR k) <| ec (eJ c hc (k + 11)) <| eb5 z0 <| eb5 z1 <| eb5 z2 <| eb5 z3 <| eb z4 <| ec (dl c.n0 (k + 16)) <| ec (dl c.n1 (k + 16)) <| ec (cm (cy c.n0) (cy c.n1) (k + 15)) <| eb z5 <| en z6 <| eb3 z7 <| eb z8 <| ec (d3 c (k + 18)) <| ec (d6 c (k + 18)) <| eb3 z9 <| eb4 z8 <| ec (iW c c.n1.store.super.v.cur c.n0.store.super.v.cur hc (k + 12)) <| eb z8 <| eb z9 <| eb z8 <| eb z9 <| eb3 z10 <| eb4 z11 <| eb z10 <| eb z11 <| eb z10 <| e0) (rs := [Res.c (bo false)]) (by simp only [bH, bI, kb, z0, z1, z2, z3, z4, z5, z6, z7, z8, z9, z10, z11, vq] <;> rfl)
                    · rcases bft (l5 c == 2) with z10 | z10
                      · exact rt (ec (cq k) <| ef <| ec (cY l 80 (show (80 : Int) ≤ 1000000 from by decide) (k + 16)) <| eb2 g1 <| ec (bh l hl (k + 15)) <| eb2 g1 <| en g2 <| ec (hR k) <| ec (eJ c hc (k + 11)) <| eb5 z0 <| eb5 z1 <| eb5 z2 <| eb5 z3 <| eb z4 <| ec (dl c.n0 (k + 16)) <| ec (dl c.n1 (k + 16)) <| ec (cm (cy c.n0) (cy c.n1) (k + 15)) <| eb z5 <| en z6 <| eb3 z7 <| eb z8 <| ec (d3 c (k + 18)) <| ec (d6 c (k + 18)) <| eb5 z9 <| ef3 <| eb3 z10 <| eb5 z7 <| eb z10 <| eb z7 <| ef <| eb z10 <| ef <| e0) (rs := [Res.c (bo true)]) (by simp only [bH, bI, kb, z0, z1, z2, z3, z4, z5, z6, z7, z8, z9, z10, vq] <;> rfl)
                      · exact rt (ec (cq k) <| ef <| ec (cY l 80 (show (80 : Int) ≤ 1000000 from by decide) (k + 16)) <| eb2 g1 <| ec (bh l hl (k + 15)) <| eb2 g1 <| en g2 <| ec (hR k) <| ec (eJ c hc (k + 11)) <| eb5 z0 <| eb5 z1 <| eb5 z2 <| eb5 z3 <| eb z4 <| ec (dl c.n0 (k + 16)) <| ec (dl c.n1 (k + 16)) <| ec (cm (cy c.n0) (cy c.n1) (k + 15)) <| eb z5 <| en z6 <| eb3 z7 <| eb z8 <| ec (d3 c (k + 18)) <| ec (d6 c (k + 18)) <| eb5 z9 <| ef3 <| eb4 z10 <| ef <| eb z10 <| ef <| e0) (rs := [Res.c (bo false)]) (by simp only [bH, bI, kb, z0, z1, z2, z3, z4, z5, z6, z7, z8, z9, z10, vq] <;> rfl)
                · rcases bft (l5 c == 1) with z8 | z8
                  · rcases bft c.n1.primary with z9 | z9
                    · exact rt (ec (cq k) <| ef <| ec (cY l 80 (show (80 : Int) ≤ 1000000 from by decide) (k + 16)) <| eb2 g1 <| ec (bh l hl (k + 15)) <| eb2 g1 <| en g2 <| ec (hR k) <| ec (eJ c hc (k + 11)) <| eb5 z0 <| eb5 z1 <| eb5 z2 <| eb5 z3 <| eb z4 <| ec (dl c.n0 (k + 16)) <| ec (dl c.n1 (k + 16)) <| ec (cm (cy c.n0) (cy c.n1) (k + 15)) <| eb z5 <| en z6 <| eb3 z7 <| ef <| ec (d3 c (k + 18)) <| ec (d6 c (k + 18)) <| eb3 z8 <| eb5 z9 <| eb z8 <| eb z9 <| eb z8 <| et5 <| e0) (rs := [Res.c (bo true)]) (by simp only [bH, bI, kb, z0, z1, z2, z3, z4, z5, z6, z7, z8, z9, vq] <;> rfl)
                    · rcases bft (decide (hJ c c.n1.store.super.v.cur c.n0.store.super.v.cur > 2)) with z10 | z10
                      · exact rt (ec (cq k) <| ef <| ec (cY l 80 (show (80 : Int) ≤ 1000000 from by decide) (k + 16)) <| eb2 g1 <| ec (bh l hl (k + 15)) <| eb2 g1 <| en g2 <| ec (hR k) <| ec (eJ c hc (k + 11)) <| eb5 z0 <| eb5 z1 <| eb5 z2 <| eb5 z3 <| eb z4 <| ec (dl c.n0 (k + 16)) <| ec (dl c.n1 (k + 16)) <| ec (cm (cy c.n0) (cy c.n1) (k + 15)) <| eb z5 <| en z6 <| eb3 z7 <| ef <| ec (d3 c (k + 18)) <| ec (d6 c (k + 18)) <| eb3 z8 <| eb4 z9 <| ec (iW c c.n1.store.super.v.cur c.n0.store.super.v.cur hc (k + 12)) <| eb z9 <| eb z8 <| eb z9 <| eb z8 <| eb5 z10 <| e0) (rs := [Res.c (bo true)]) (by simp only [bH, bI, kb, z0, z1, z2, z3, z4, z5, z6, z7, z8, z9, z10, vq] <;> rfl)
                      · rcases bft (l5 c == 2) with z11 | z11
                        · exact rt (ec (cq k) <| ef <| ec (cY l 80 (show (80 : Int) ≤ 1000000 from by decide) (k + 16)) <| eb2 g1 <| ec (bh l hl (k + 15)) <| eb2 g1 <| en g2 <| ec (hR k) <| ec (eJ c hc (k + 11)) <| eb5 z0 <| eb5 z1 <| eb5 z2 <| eb5 z3 <| eb z4 <| ec (dl c.n0 (k + 16)) <| ec (dl c.n1 (k + 16)) <| ec (cm (cy c.n0) (cy c.n1) (k + 15)) <| eb z5 <| en z6 <| eb3 z7 <| ef <| ec (d3 c (k + 18)) <| ec (d6 c (k + 18)) <| eb3 z8 <| eb4 z9 <| ec (iW c c.n1.store.super.v.cur c.n0.store.super.v.cur hc (k + 12)) <| eb z9 <| eb z8 <| eb z9 <| eb z8 <| eb3 z10 <| eb3 z11 <| eb4 z7 <| ec (iW c c.n0.store.super.v.cur c.n1.store.super.v.cur hc (k + 12)) <| eb z7 <| eb z11 <| eb z7 <| eb z10 <| eb z11 <| eb z10 <| e0) (rs := [Res.c (bo (decide (hJ c c.n0.store.super.v.cur c.n1.store.super.v.cur > 2)))]) (by simp only [bH, bI, kb, z0, z1, z2, z3, z4, z5, z6, z7, z8, z9, z10, z11, vq] <;> rfl)
                        · exact rt (ec (cq k) <| ef <| ec (cY l 80 (show (80 : Int) ≤ 1000000 from by decide) (k + 16)) <| eb2 g1 <| ec (bh l hl (k + 15)) <| eb2 g1 <| en g2 <| ec (hR k) <| ec (eJ c hc (k + 11)) <| eb5 z0 <| eb5 z1 <| eb5 z2 <| eb5 z3 <| eb z4 <| ec (dl c.n0 (k + 16)) <| ec (dl c.n1 (k + 16)) <| ec (cm (cy c.n0) (cy c.n1) (k + 15)) <| eb z5 <| en z6 <| eb3 z7 <| ef <| ec (d3 c (k + 18)) <| ec (d6 c (k + 18)) <| eb3 z8 <| eb4 z9 <| ec (iW c c.n1.store.super.v.cur c.n0.store.super.v.cur hc (k + 12)) <| eb z9 <| eb z8 <| eb z9 <| eb z8 <| eb3 z10 <| eb4 z11 <| eb z10 <| eb z11 <| eb z10 <| e0) (rs := [Res.c (bo false)]) (by simp only [bH, bI, kb, z0, z1, z2, z3, z4, z5, z6, z7, z8, z9, z10, z11, vq] <;> rfl)
                  · rcases bft (l5 c == 2) with z9 | z9
                    · exact rt (ec (cq k) <| ef <| ec (cY l 80 (show (80 : Int) ≤ 1000000 from by decide) (k + 16)) <| eb2 g1 <| ec (bh l hl (k + 15)) <| eb2 g1 <| en g2 <| ec (hR k) <| ec (eJ c hc (k + 11)) <| eb5 z0 <| eb5 z1 <| eb5 z2 <| eb5 z3 <| eb z4 <| ec (dl c.n0 (k + 16)) <| ec (dl c.n1 (k + 16)) <| ec (cm (cy c.n0) (cy c.n1) (k + 15)) <| eb z5 <| en z6 <| eb3 z7 <| ef <| ec (d3 c (k + 18)) <| ec (d6 c (k + 18)) <| eb5 z8 <| ef3 <| eb3 z9 <| eb4 z7 <| ec (iW c c.n0.store.super.v.cur c.n1.store.super.v.cur hc (k + 12)) <| eb z7 <| eb z9 <| eb z7 <| ef <| eb z9 <| ef <| e0) (rs := [Res.c (bo (decide (hJ c c.n0.store.super.v.cur c.n1.store.super.v.cur > 2)))]) (by simp only [bH, bI, kb, z0, z1, z2, z3, z4, z5, z6, z7, z8, z9, vq] <;> rfl)
                    · exact rt (ec (cq k) <| ef <| ec (cY l 80 (show (80 : Int) ≤ 1000000 from by decide) (k + 16)) <| eb2 g1 <| ec (bh l hl (k + 15)) <| eb2 g1 <| en g2 <| ec (hR k) <| ec (eJ c hc (k + 11)) <| eb5 z0 <| eb5 z1 <| eb5 z2 <| eb5 z3 <| eb z4 <| ec (dl c.n0 (k + 16)) <| ec (dl c.n1 (k + 16)) <| ec (cm (cy c.n0) (cy c.n1) (k + 15)) <| eb z5 <| en z6 <| eb3 z7 <| ef <| ec (d3 c (k + 18)) <| ec (d6 c (k + 18)) <| eb5 z8 <| ef3 <| eb4 z9 <| ef <| eb z9 <| ef <| e0) (rs := [Res.c (bo false)]) (by simp only [bH, bI, kb, z0, z1, z2, z3, z4, z5, z6, z7, z8, z9, vq] <;> rfl)
              · rcases bft (Vd.src (ag (cy c.n0) (cy c.n1)) == 0) with z7 | z7
                · rcases bft (l5 c == 2) with z8 | z8
                  · exact rt (ec (cq k) <| ef <| ec (cY l 80 (show (80 : Int) ≤ 1000000 from by decide) (k + 16)) <| eb2 g1 <| ec (bh l hl (k + 15)) <| eb2 g1 <| en g2 <| ec (hR k) <| ec (eJ c hc (k + 11)) <| eb5 z0 <| eb5 z1 <| eb5 z2 <| eb5 z3 <| eb z4 <| ec (dl c.n0 (k + 16)) <| ec (dl c.n1 (k + 16)) <| ec (cm (cy c.n0) (cy c.n1) (k + 15)) <| eb z5 <| en z6 <| en3 z7 <| en6 z8 <| e0) (rs := [Res.c (bo false)]) (by simp only [bH, bI, kb, z0, z1, z2, z3, z4, z5, z6, z7, z8, vq] <;> rfl)
                  · rcases bft (Vd.src (ag (cy c.n0) (cy c.n1)) == 1) with z9 | z9
                    · exact rt (ec (cq k) <| ef <| ec (cY l 80 (show (80 : Int) ≤ 1000000 from by decide) (k + 16)) <| eb2 g1 <| ec (bh l hl (k + 15)) <| eb2 g1 <| en g2 <| ec (hR k) <| ec (eJ c hc (k + 11)) <| eb5 z0 <| eb5 z1 <| eb5 z2 <| eb5 z3 <| eb z4 <| ec (dl c.n0 (k + 16)) <| ec (dl c.n1 (k + 16)) <| ec (cm (cy c.n0) (cy c.n1) (k + 15)) <| eb z5 <| en z6 <| en3 z7 <| en4 z8 <| en2 z9 <| en z8 <| en z9 <| en z8 <| e0) (rs := [Res.c (bo (l5 c != 1))]) (by simp only [bH, bI, kb, z0, z1, z2, z3, z4, z5, z6, z7, z8, z9, vq] <;> rfl)
                    · exact rt (ec (cq k) <| ef <| ec (cY l 80 (show (80 : Int) ≤ 1000000 from by decide) (k + 16)) <| eb2 g1 <| ec (bh l hl (k + 15)) <| eb2 g1 <| en g2 <| ec (hR k) <| ec (eJ c hc (k + 11)) <| eb5 z0 <| eb5 z1 <| eb5 z2 <| eb5 z3 <| eb z4 <| ec (dl c.n0 (k + 16)) <| ec (dl c.n1 (k + 16)) <| ec (cm (cy c.n0) (cy c.n1) (k + 15)) <| eb z5 <| en z6 <| en3 z7 <| en4 z8 <| en2 z9 <| en z8 <| en z9 <| en z8 <| e0) (rs := [Res.c (bo true)]) (by simp only [bH, bI, kb, z0, z1, z2, z3, z4, z5, z6, z7, z8, z9, vq] <;> rfl)
                · rcases bft (Vd.src (ag (cy c.n0) (cy c.n1)) == 1) with z8 | z8
                  · exact rt (ec (cq k) <| ef <| ec (cY l 80 (show (80 : Int) ≤ 1000000 from by decide) (k + 16)) <| eb2 g1 <| ec (bh l hl (k + 15)) <| eb2 g1 <| en g2 <| ec (hR k) <| ec (eJ c hc (k + 11)) <| eb5 z0 <| eb5 z1 <| eb5 z2 <| eb5 z3 <| eb z4 <| ec (dl c.n0 (k + 16)) <| ec (dl c.n1 (k + 16)) <| ec (cm (cy c.n0) (cy c.n1) (k + 15)) <| eb z5 <| en z6 <| en3 z7 <| et4 <| en2 z8 <| et <| en z8 <| et <| e0) (rs := [Res.c (bo (l5 c != 1))]) (by simp only [bH, bI, kb, z0, z1, z2, z3, z4, z5, z6, z7, z8, vq] <;> rfl)
                  · exact rt (ec (cq k) <| ef <| ec (cY l 80 (show (80 : Int) ≤ 1000000 from by decide) (k + 16)) <| eb2 g1 <| ec (bh l hl (k + 15)) <| eb2 g1 <| en g2 <| ec (hR k) <| ec (eJ c hc (k + 11)) <| eb5 z0 <| eb5 z1 <| eb5 z2 <| eb5 z3 <| eb z4 <| ec (dl c.n0 (k + 16)) <| ec (dl c.n1 (k + 16)) <| ec (cm (cy c.n0) (cy c.n1) (k + 15)) <| eb z5 <| en z6 <| en3 z7 <| et4 <| en2 z8 <| et <| en z8 <| et <| e0) (rs := [Res.c (bo true)]) (by simp only [bH, bI, kb, z0, z1, z2, z3, z4, z5, z6, z7, z8, vq] <;> rfl)
theorem Hq (b : Int) (l : List Evt) (g1 : gj l (80 : Int) = true) (k : Nat) : aj PP GL XX HH NN (k + 20) 5 [A.c (by8 b), A.c (C.slice 7 (List.map Evt.cs l))] [] = some ([Res.c (bo true)], []) := by
  exact rt (ec (cq k) <| ef <| ec (cY l 80 (show (80 : Int) ≤ 1000000 from by decide) (k + 16)) <| eb4 g1 <| et <| e0) rfl
theorem Hf (b : Int) (l : List Evt) (g1 : gj l (80 : Int) = false) (g2 : cP l = false) (hl : l.length ≤ 1000000) (k : Nat) : aj PP GL XX HH NN (k + 20) 5 [A.c (by8 b), A.c (C.slice 7 (List.map Evt.cs l))] [] = some ([Res.c (bo true)], []) := by
  exact rt (ec (cq k) <| ef <| ec (cY l 80 (show (80 : Int) ≤ 1000000 from by decide) (k + 16)) <| eb2 g1 <| ec (bh l hl (k + 15)) <| eb2 g1 <| en g2 <| e0) rfl
theorem A5 (b : Int) (hb : 0 ≤ b) (l : List Evt) (hr : ∀ e ∈ l, R64 e.n) (k : Nat) : aj PP GL XX HH NN (k + 20) 5 [.c (by8 b), .c (.slice 7 (l.map Evt.cs))] [] = some ([.c (bo true)], []) := by
  cases g1 : gj l 80 with
  | true => exact Hq b l g1 k
  | false =>
    cases g2 : cP l with
    | false => exact Hf b l g1 g2 (by have := qB g1; omega) k
    | true =>
      have e1 := qB g1
      have hm := (mr b hb l).mints
      obtain ⟨T, B, hI⟩ := Ad (l := l) (r := []) (by rw [List.append_nil]; exact g2) (by rw [List.append_nil]; exact hr) b hb
      have h := lrF b l (lC b l) g1 g2 (by omega) (by omega) (fun k => r6 b (l.map Evt.cs) _ (fun k => rG b hb l (by omega) (uI g1) k) (k + 1)) k
      rw [uB hI] at h
      exact h
end Go.Dm
namespace Go.Proofs
open Go.RowKit Go.Shelf Go.Dm
attribute [local go_sem] Oper.semAt_some
def iP (W : World) (b : Nat) (m : List (Int × Int)) : Prop := ∃ es clock, W.heap[b]? = some (.map es clock) ∧ es.toList.map (fun e => (e.key, e.val)) = rB m
theorem iP.made (w : World) : iP (w.alloc (.map #[] 0)) w.heap.size [] := ⟨#[], 0, World.alloc_heap_new w _, rfl⟩
theorem iP.kept {w w' : World} {row : Option Nat} {b : Nat} {m : List (Int × Int)} (h : iP w b m) (hg : w.grownBy w' row) (hne : some b ≠ row) : iP w' b m := by
  obtain ⟨es, c, h1, h2⟩ := h
  exact ⟨es, c, (hg.block b (Array.getElem?_eq_some_iff.1 h1).1 hne).trans h1, h2⟩
theorem iP.alloc {w : World} {b : Nat} {m : List (Int × Int)} (h : iP w b m) (o : Obj) : iP (w.alloc o) b m := h.kept (World.grownBy_alloc w o none) (by simp)
theorem tW (g p : Int) : ∀ (es : List MapEntry) (m : List (Int × Int)) (i : Nat), es.map (fun e => (e.key, e.val)) = rB m →
    (Instr.findNow (.int .u64) (.int .u64 g) es i = some none ∧ upd g p m = m ++ [(g, p)]) ∨
    (∃ j e, Instr.findNow (.int .u64) (.int .u64 g) es i = some (some (i + j, e.val)) ∧ es[j]? = some e ∧ e.key = .int .u64 g ∧ rB (upd g p m) = (es.modify j fun e => { e with key := .int .u64 g, val := .int .u64 p }).map (fun e => (e.key, e.val)))
  | [], m, i, h => by
    cases m with
    | nil => exact .inl ⟨rfl, rfl⟩
    | cons _ _ => simp [rB] at h
  | e :: es, m, i, h => by
    cases m with
    | nil => simp [rB] at h
    | cons x m =>
      obtain ⟨a, b⟩ := x
      simp only [List.map_cons, List.cons.injEq, Prod.mk.injEq, rB] at h
      obtain ⟨⟨h1, h2⟩, h3⟩ := h
      have hs : Instr.sameNow (.int .u64) (.int .u64 g) e.key = some (g == a) := by rw [h1]; simp [Instr.sameNow]
      cases hga : g == a with
      | true =>
        obtain rfl := eq_of_beq hga
        refine .inr ⟨0, e, by simp [Instr.findNow, hs], rfl, h1, ?_⟩
        simp [upd, rB]
        exact h3.symm
      | false =>
        rw [hga] at hs
        rcases tW g p es m (i + 1) h3 with ⟨h4, h5⟩ | ⟨j, e', h4, h5, h6, h7⟩
        · exact .inl ⟨by simp [Instr.findNow, hs, h4], by simp [upd, hga, h5]⟩
        · refine .inr ⟨j + 1, e', by simp [Instr.findNow, hs, h4]; omega, by simpa using h5, h6, ?_⟩
          simp only [upd, hga, Bool.false_eq_true, if_false, rB, List.map_cons, List.modify_succ_cons, h1, h2]
          simp only [rB] at h7
          rw [h7]
theorem iP.update {P : Program} {t k e : TypeId} {w : World} {b : Nat} {m : List (Int × Int)} (h : iP w b m) (ht : P.underlying t = some (.map k e)) (hk : P.underlying k = some (.int .u64)) (g p : Int) :
    ∃ w', (Instr.mapUpdate t (.map (some b)) (.int .u64 g) (.int .u64 p)).run P w = .ok () w' ∧ iP w' b (upd g p m) ∧ w.grownBy w' (some b) := by
  obtain ⟨es, clock, hb, he⟩ := h
  have hck := MapKept.run_checkKey (P := P) (w := w) (kt := k) (d := .int .u64) (k := .int .u64 g) hk rfl false 9999
  rcases tW g p es.toList m 0 he with ⟨h1, h2⟩ | ⟨j, x, h1, h2, h3, h4⟩
  · refine ⟨{ w with heap := w.heap.setIfInBounds b (.map (es.push { key := .int .u64 g, val := .int .u64 p, born := clock }) (clock + 1)) }, ?_, ⟨_, _, (MapKept.heap_set hb).1, ?_⟩, ⟨rfl, rfl, rfl, by simp, fun i _ hi => (MapKept.heap_set hb).2 i (fun e => hi (by rw [e]))⟩⟩
    · simp [Instr.mapUpdate, run_underlying ht, MapKept.run_getObj_map hb, hck, MapKept.run_findKey hk h1, MapKept.run_setObj_map _ hb, Result.andThen]
    rw [h2]
    simp [rB] at he ⊢
    rw [he]
  · have hj : es[j]? = some x := by simpa using h2
    have hst := MapKept.run_keyThatStays (P := P) (w := w) (d := .int .u64) (k := .int .u64 g) rfl
    rw [Nat.zero_add] at h1
    refine ⟨{ w with heap := w.heap.setIfInBounds b (.map (es.modify j fun e => { e with key := .int .u64 g, val := .int .u64 p }) clock) }, ?_, ⟨_, _, (MapKept.heap_set hb).1, ?_⟩, ⟨rfl, rfl, rfl, by simp, fun i _ hi => (MapKept.heap_set hb).2 i (fun e => hi (by rw [e]))⟩⟩
    · simp [Instr.mapUpdate, run_underlying ht, MapKept.run_getObj_map hb, hck, MapKept.run_findKey hk h1, hj, h3, hst, MapKept.run_setObj_map _ hb, Result.andThen]
    rw [h4, Array.toList_modify]
theorem ic {F : Fence} {nF : Nat} {P : Program} (w : World) {ops : Array Oper} {rest : List Oper} {o : Oper} {a : Act} {Q : Exit → Act → World → Prop}
    (hg : o.guard = none) (m x v : Operand) (t : TypeId) (hop : o.op = Op.mapUpdate t m x v)
    (k e : TypeId) (ht : P.underlying t = some (.map k e)) (hk : P.underlying k = some (.int .u64)) (b : Nat) (D : List (Int × Int))
    (hm : a.eval m = .map (some b)) (hown : iP w b D) (g p : Int) (hx : a.eval x = .int .u64 g) (hv : a.eval v = .int .u64 p)
    (hK : ∀ w', iP w' b (upd g p D) → w.grownBy w' (some b) → wpListIn F nF P ops Q rest (a.put o.dst undef) w') :
    wpListIn F nF P ops Q (o :: rest) a w := by
  refine wpListIn_plain hg fun K' hK' => ?_
  obtain ⟨w', hrun, r1, r2⟩ := hown.update ht hk g p
  unfold Oper.wpIn
  refine ⟨by simp [Oper.about, hop], ?_⟩
  rw [Oper.semAt_plain F _ _ (by rw [hop]; intro c hc'; cases hc')]
  simp [execOp, hop, hm, hx, hv, hrun, Result.andThen]
  exact hK' _ _ (hK w' r1 r2)
end Go.Proofs
namespace Go.Proofs
open Go.RowKit Go.Shelf Go.Dm
attribute [local go_sem] Oper.semAt_some
def bk (l : List Mi) (k : Nat) : List (Nat × Mi) := (List.range k).map fun j => (l.length - 1 - j, l[l.length - 1 - j]?.getD default)
theorem vF (l : List Mi) (k : Nat) : bk l (k + 1) = bk l k ++ [(l.length - 1 - k, l[l.length - 1 - k]?.getD default)] := by simp [bk, List.range_succ]
theorem yc (l : List Mi) (k : Nat) : (bk l k).length = k := by simp [bk]
abbrev Fj (x : Nat × Mi) : Array Value := #[.int .i64 (x.1 : Int), .agg #[.int .u64 x.2.g, .int .u64 x.2.p, .int .i64 x.2.n]]
def KpB (n₀ Bs : Nat) (A B : World) : Prop := Below n₀ A B ∧ B.heap[Bs]? = A.heap[Bs]?
theorem KpB.refl (n₀ Bs : Nat) (A : World) : KpB n₀ Bs A A := ⟨Below.refl _ _, rfl⟩
theorem KpB.trans {n₀ Bs : Nat} {A B C : World} (h : KpB n₀ Bs A B) (k : KpB n₀ Bs B C) : KpB n₀ Bs A C := ⟨h.1.trans k.1, k.2.trans h.2⟩
theorem KpB.putObj {n₀ Bs : Nat} {w : World} (hn : n₀ ≤ w.heap.size) (hB : Bs < w.heap.size) (W : World) (l : Nat) (o o' : Obj) (hl : w.heap.size ≤ l) (h : W.heap[l]? = some o) (h1 : o.isCells = false) (h2 : o.isWalk = false) : KpB n₀ Bs W (W.putObj l o') :=
  ⟨belowK_b hn W l o o' hl h h1 h2, World.putObj_heap_other (by omega)⟩
set_option maxRecDepth 100000 in
set_option maxHeartbeats 2000000 in
theorem Bw.closure_in (F : Fence) (n : Nat) (h24 : F.fn 104) (hro : F.round = none) (hn : 1 ≤ n) (l Bs n₀ b off cap : Nat) (zs : List Mi) (hreach : zs.length ≤ 1000000) (hb : b < n₀) (J Jx : List (Nat × Mi) → World → Prop)
    (hY : ∀ pre x W, J pre W → pre.length < zs.length → YieldAt F (n - 1) Tryz.prog l (Fj x) W fun e W' =>
      (e = .returned (.bool true) ∧ J (pre ++ [x]) W' ∧ KpB n₀ Bs W W') ∨ (e = .returned (.bool false) ∧ Jx (pre ++ [x]) W'))
    (W : World) (hBs : W.cell? ⟨Bs, 0, none⟩ = some (.slice (some ⟨b, off, none⟩) zs.length cap))
    (hc : ∀ j, j < zs.length → W.rangeAt b (off + j * 3) [.int .u64 (zs[j]?.getD default).g, .int .u64 (zs[j]?.getD default).p, .int .i64 (zs[j]?.getD default).n]) (h0 : J [] W) :
    CallsIn F n Tryz.prog 104 #[.func (.yield l) #[] #[], .pointer (some ⟨Bs, 0, none⟩)] W fun e W' => (∃ v, e = .returned v) ∧
      ((∃ ys, ys = bk zs zs.length ∧ J ys W') ∨ (∃ pre, (∃ k, k ≤ zs.length ∧ pre = bk zs k) ∧ Jx pre W')) := by
  refine callsIn_of_wp Tryz.func104 rfl h24 ?_ hro
  simp only [Tryz.ntmps104, List.size_toArray, List.length_cons, List.length_nil, Nat.reduceAdd, Nat.reduceSub, Array.replicate_succ, Array.replicate_zero, List.push_toArray, List.append_toArray, List.nil_append, List.cons_append]
  gi_wp2
  gi_loopw [3] (fun i wr => ∃ k : Nat, k ≤ zs.length ∧ i = .int .i64 ((zs.length : Int) - 1 - k) ∧ J (bk zs k) wr ∧ KpB n₀ Bs W wr)
    (fun i _ => (intOf i + 1).toNat)
  case atStart => exact ⟨0, Nat.zero_le _, by simp, h0, KpB.refl _ _ _⟩
  case round =>
    obtain ⟨k, hk, rfl, hJs, hnx⟩ := hrel
    by_cases hlt : k < zs.length
    · obtain ⟨fn, tmps, assign, body, hy, hR⟩ := hY _ (zs.length - 1 - k, zs[zs.length - 1 - k]?.getD default) wr hJs (by rw [yc]; exact hlt)
      obtain ⟨q, hq⟩ : ∃ q, zs.length - 1 - k = q := ⟨_, rfl⟩
      have hqi : (zs.length : Int) - 1 - k = (q : Int) := by omega
      have hql : q < zs.length := by omega
      simp only [Fj, hq] at hy
      rw [hqi]
      have hBx : wr.cell? ⟨Bs, 0, none⟩ = some (.slice (some ⟨b, off, none⟩) zs.length cap) := (World.cell?_of_block (w := W) hnx.2).trans hBs
      have hr := hc q hql
      have hx0 : wr.cell? ⟨b, off + q * 3, none⟩ = _ := (hnx.1.cell (p := ⟨b, off + q * 3, none⟩) hb).trans (hr 0 _ rfl)
      have hx1 : wr.cell? ⟨b, off + q * 3 + 1, none⟩ = _ := (hnx.1.cell (p := ⟨b, off + q * 3 + 1, none⟩) hb).trans (hr 1 _ rfl)
      have hx2 : wr.cell? ⟨b, off + q * 3 + 2, none⟩ = _ := (hnx.1.cell (p := ⟨b, off + q * 3 + 2, none⟩) hb).trans (hr 2 _ rfl)
      clear hc
      simp only [List.getElem?_eq_getElem hql, Option.getD_some] at hy hx0 hx1 hx2
      gi_wp2
      refine hR.mono ?_
      rintro e W3 (⟨rfl, hJ3, hk3⟩ | ⟨rfl, hJx3⟩)
      · gi_wp2
        go_roundw
        case rel => exact ⟨k + 1, by omega, by simp; omega, by rw [vF]; exact hJ3, hnx.trans hk3⟩
        case measure => simp [intOf]
      · gi_wp2
        refine bodyPost_ret (results_none rfl _ _ _) rfl ?_
        exact ⟨⟨_, rfl⟩, .inr ⟨_, ⟨k + 1, by omega, (vF _ _).symm⟩, hJx3⟩⟩
    · obtain rfl : k = zs.length := by omega
      gi_wp2
      go_end0
      exact ⟨⟨_, rfl⟩, .inl ⟨_, rfl, hJs⟩⟩
set_option maxRecDepth 100000 in
set_option maxHeartbeats 1000000 in
theorem Bw.closure_nil_in (F : Fence) (n : Nat) (h24 : F.fn 104) (hro : F.round = none) (l Bs cap : Nat) (a : Option Addr) (J : List (Nat × Mi) → World → Prop) (W : World) (hBs : W.cell? ⟨Bs, 0, none⟩ = some (.slice a 0 cap)) (h0 : J [] W) :
    CallsIn F n Tryz.prog 104 #[.func (.yield l) #[] #[], .pointer (some ⟨Bs, 0, none⟩)] W fun e W' => (∃ v, e = .returned v) ∧ J [] W' := by
  refine callsIn_of_wp Tryz.func104 rfl h24 ?_ hro
  simp only [Tryz.ntmps104, List.size_toArray, List.length_cons, List.length_nil, Nat.reduceAdd, Nat.reduceSub, Array.replicate_succ, Array.replicate_zero, List.push_toArray, List.append_toArray, List.nil_append, List.cons_append]
  gi_wp2
  gi_loopw [3] (fun i wr => i = .int .i64 (-1) ∧ J [] wr) (fun _ _ => 0)
  case atStart => exact ⟨by simp, h0⟩
  case round =>
    obtain ⟨rfl, hJs⟩ := hrel
    gi_wp2
    go_end0
    exact ⟨⟨_, rfl⟩, hJs⟩
set_option maxHeartbeats 1000000 in
theorem Bw.backward_in (F : Fence) (n : Nat) (h22 : F.fn 72) (hro : F.round = none) (a : Option Addr) (len cap : Nat) (w : World) :
    CallsIn F n Tryz.prog 72 #[.slice a len cap] w fun e w' => e = .returned (.func (.func 104) #[] #[.pointer (some ⟨w.heap.size, 0, none⟩)]) ∧ w' = w.alloc (.cells #[.slice a len cap] 43) := by
  refine callsIn_of_wp Tryz.func72 rfl h22 ?_ hro
  simp only [Tryz.ntmps72, List.size_toArray, List.length_cons, List.length_nil, Nat.reduceAdd, Nat.reduceSub, Array.replicate_succ, Array.replicate_zero, List.push_toArray, List.append_toArray, List.nil_append, List.cons_append]
  gi_wp2
  go_ret
  exact ⟨rfl, rfl⟩
def kl (n₀ : Nat) (W : World) (sv : Value) (zs : List Mi) : Prop :=
  (∃ a cap, sv = .slice a 0 cap ∧ zs = []) ∨ ∃ b off cap, sv = .slice (some ⟨b, off, none⟩) zs.length cap ∧ b < n₀ ∧
    ∀ j, j < zs.length → W.rangeAt b (off + j * 3) [.int .u64 (zs[j]?.getD default).g, .int .u64 (zs[j]?.getD default).p, .int .i64 (zs[j]?.getD default).n]
theorem kl.below {n₀ : Nat} {A B : World} (h : Below n₀ A B) {sv : Value} {zs : List Mi} : kl n₀ A sv zs → kl n₀ B sv zs
  | .inl e => .inl e
  | .inr ⟨b, off, cap, e, hb, hc⟩ => .inr ⟨b, off, cap, e, hb, fun j hj i v hv => (h.cell (p := ⟨b, off + j * 3 + i, none⟩) hb).trans (hc j hj i v hv)⟩
theorem Bw.stops (F : Fence) (n : Nat) (h24 : F.fn 104) (hro : F.round = none) (hn : 1 ≤ n) (Bs n₀ : Nat) (sv : Value) (zs : List Mi) (hreach : zs.length ≤ 1000000) (w : World) (hBs : Bs < w.heap.size) (hn₀ : n₀ ≤ w.heap.size)
    (hc : w.cell? ⟨Bs, 0, none⟩ = some sv) (hI : kl n₀ w sv zs) :
    SeqStopsK F n Tryz.prog 104 #[.pointer (some ⟨Bs, 0, none⟩)] Fj (KpB n₀ Bs) (fun ys => ys = bk zs zs.length) (fun pre => ∃ k, k ≤ zs.length ∧ pre = bk zs k) zs.length w := fun l J Jx W hW _ _ hY h0 => by
  have hc' := (hW.cell (p := ⟨Bs, 0, none⟩) hBs).trans hc
  rcases hI.below (hW.mono hn₀) with ⟨a, cap, rfl, rfl⟩ | ⟨b, off, cap, rfl, hb, hcs⟩
  · exact (Bw.closure_nil_in F n h24 hro l Bs cap a J W hc' h0).mono fun e W' ⟨he, hj⟩ => ⟨he, .inl ⟨_, rfl, hj⟩⟩
  · exact Bw.closure_in F n h24 hro hn l Bs n₀ b off cap zs hreach hb J Jx hY W hc' hcs h0
def Cw (xs : List (Nat × Mi)) : List (Int × Int) := xs.foldl (fun m x => upd x.2.g x.2.p m) []
theorem xO (pre : List (Nat × Mi)) (x : Nat × Mi) : Cw (pre ++ [x]) = upd x.2.g x.2.p (Cw pre) := by simp [Cw]
theorem D7 (l : List Mi) : (bk l l.length).map (·.2) = l.reverse := by
  apply List.ext_getElem
  · simp [bk]
  · intro i h1 h2
    have hi : i < l.length := by simpa using h2
    have : l.length - 1 - i < l.length := by omega
    simp [bk, this]
theorem B0 (l : List Mi) : Cw (bk l l.length) = par l := by
  have : Cw (bk l l.length) = ((bk l l.length).map (·.2)).foldl (fun m x => upd x.g x.p m) [] := by rw [List.foldl_map]; rfl
  rw [this, D7, List.foldl_reverse]
  rfl
end Go.Proofs
namespace Go.Proofs
open Go.RowKit Go.Shelf Go.Dm
attribute [local go_sem] Oper.semAt_some
set_option maxRecDepth 100000 in
set_option maxHeartbeats 2000000 in
theorem Bw.parents_in (F : Fence) (n : Nat) (h18 : F.fn 53) (h22 : F.fn 72) (h24 : F.fn 104) (hro : F.round = none) (hn : 3 ≤ n) (a : Option Addr) (len cap : Nat) (zs : List Mi) (hlen : zs.length ≤ 1000000) (w : World) (hL : kl w.heap.size w (.slice a len cap) zs) :
    CallsIn F n Tryz.prog 53 #[.slice a len cap] w fun e W' => e = .returned (.map (some w.heap.size)) ∧ iP W' w.heap.size (par zs) ∧ Below w.heap.size w W' := by
  have h1 : 1 ≤ n := by omega
  have hmm := @run_makeMap Tryz.prog
  refine callsIn_of_wp_marks Tryz.func53 rfl h18 ?_ hro
  simp only [Tryz.ntmps53, List.size_toArray, List.length_cons, List.length_nil, Nat.reduceAdd, Nat.reduceSub, Array.replicate_succ, Array.replicate_zero, List.push_toArray, List.append_toArray, List.nil_append, List.cons_append]
  gi_wp2_with (gi_at_call 72; refine (Bw.backward_in F (n - 1) h22 hro _ _ _ _).mono ?_; rintro e w' ⟨rfl, rfl⟩)
  have cM := iP.made w
  have bM := Boxed.new (w.alloc (.map #[] 0)) 96 (.map (some w.heap.size))
  have bS := Boxed.new ((w.alloc (.map #[] 0)).alloc (.cells #[.map (some w.heap.size)] 96)) 43 (.slice a len cap)
  simp only [World.size_alloc] at bM bS
  have hB0 : Below w.heap.size w (((w.alloc (.map #[] 0)).alloc (.cells #[.map (some w.heap.size)] 96)).alloc (.cells #[.slice a len cap] 43)) := (((Below.refl _ w).alloc (Nat.le_refl _) _).alloc (by simp) _).alloc (by simp; omega) _
  refine wpIn_rangeFunc_ownH hro h1 (gf := 104) (lb := #[.pointer (some ⟨w.heap.size + 1 + 1, 0, none⟩)]) rfl h24 (enters_of Tryz.func104 (by kernel_rfl) rfl)
    (Bw.stops F (n - 1) h24 hro (by omega) (w.heap.size + 1 + 1) w.heap.size _ zs hlen _ (by simp) (by simp; omega) bS.cell (hL.below hB0)) (fun h k => h.trans k) (KpB.putObj (by simp; omega) (by simp)) (Below.refl _ _) (fun _ => rfl)
    (fun pre W => (Boxed W (w.heap.size + 1) 96 (.map (some w.heap.size)) ∧ Boxed W (w.heap.size + 1 + 1) 43 (.slice a len cap) ∧ iP W w.heap.size (Cw pre)) ∧ Below w.heap.size w W)
    (fun _ _ _ => False)
    (OwnFrom.and (fun s A B row hs hg hr => ⟨hs.1.kept hg (fun e => by have := (hr _ e.symm).1; simp at this; omega), hs.2.1.kept hg (fun e => by have := (hr _ e.symm).1; simp at this; omega), hs.2.2.kept hg (fun e => by have := (hr _ e.symm).1; simp at this; omega)⟩) (ownFrom_below (Nat.le_refl _) (by simp; omega)))
    (fun _ _ _ _ _ hs _ _ => hs)
    ⟨⟨bM.alloc _, bS, (cM.alloc _).alloc _⟩, hB0⟩
    (fun x a' W => ∃ bx, w.heap.size + 3 ≤ bx ∧ W.heap[bx]? = some (.cells #[.int .u64 x.2.g, .int .u64 x.2.p, .int .i64 x.2.n] 76 (0, 0)) ∧ a' = { tmps := #[.slice a len cap, undef, .map none, .pointer (some ⟨w.heap.size + 1, 0, none⟩), undef, .pointer (some ⟨bx, 0, none⟩), .map (some w.heap.size), .slice a len cap, .func (.func 104) #[] #[.pointer (some ⟨w.heap.size + 1 + 1, 0, none⟩)], .int .i64 (x.1 : Int), .agg #[.int .u64 x.2.g, .int .u64 x.2.p, .int .i64 x.2.n], undef, undef, undef, undef, undef, undef], defers := [] })
    ?Ax ?assign ?body ?done ?stop
  case Ax =>
    rintro x a' _ A B row ⟨bx, h1, h2, h3⟩ hg hr
    exact ⟨bx, h1, (hg.block bx (Array.getElem?_eq_some_iff.1 h2).1 (fun e => by obtain ⟨_, o, ho, hc⟩ := hr bx e.symm; rw [h2] at ho; cases ho; cases hc)).trans h2, h3⟩
  case assign =>
    rintro l pre x W K ⟨⟨hb, hs, hm⟩, hB⟩ hK
    gi_wp2
    have hlt := hs.lt
    exact hK _ _ (KeepsFrom.of_grownBy (World.grownBy_alloc W _ none) (fun j e => by cases e)) ⟨(Below.refl _ W).alloc hB.size _, Below.heap_alloc _ _ _ hlt⟩ ⟨⟨hb.alloc _, hs.alloc _, hm.alloc _⟩, hB.alloc hB.size _⟩
      ⟨W.heap.size, by omega, World.alloc_heap_new W _, rfl⟩
  case body =>
    rintro l pre x a' W hl hloop ⟨⟨hb, hs, hm⟩, hB⟩ ⟨bx, hbx, hx, rfl⟩ hlt
    have hc := hb.cell
    have hx0 : W.cell? ⟨bx, 0, none⟩ = some (.int .u64 x.2.g) := by simp [World.cell?, hx]
    have hx1 : W.cell? ⟨bx, 1, none⟩ = some (.int .u64 x.2.p) := by simp [World.cell?, hx]
    gi_wp2_with (gi_at_mapUpdate; refine ic _ rfl _ _ _ 96 rfl 29 29 Tryz.underlying96 Tryz.underlying29 w.heap.size (Cw pre) rfl hm _ _ rfl rfl ?_; intro w1 hown1 hgrow1)
    exact ⟨KeepsFrom.of_grownBy hgrow1 (fun j e => by cases e; simp; omega), ⟨(Below.refl _ W).grown hgrow1 hB.size (fun k e => by cases e; exact Nat.le_refl _), hgrow1.block _ hs.lt (fun e => by simp at e; omega)⟩,
      ⟨hb.kept hgrow1 (fun e => by simp at e), hs.kept hgrow1 (fun e => by simp at e; omega), by rw [xO]; exact hown1⟩, hB.grown hgrow1 hB.size (fun k e => by cases e; exact Nat.le_refl _)⟩
  case done =>
    rintro D ys W hD rfl ⟨⟨hb, hs, hm⟩, hB⟩ hK
    have hc := hb.cell
    gi_wp2
    refine ⟨by simp, .inl ⟨_, _, rfl, run_takeDeferred hK, ?_⟩⟩
    rw [B0] at hm
    exact ⟨_, results_tmp rfl _ _ _, rfl, hm.kept (grownBy_putObj' _ D _) (fun e => by cases e; simp at hD; omega), hB.trans (belowK_b (w := w) (Nat.le_refl _) W D _ _ (by simp at hD; omega) hK rfl rfl)⟩
  case stop =>
    rintro D c pre W _ _ h _
    exact h.elim
end Go.Proofs
namespace Go.Proofs
open Go.RowKit Go.Shelf Go.Lib
set_option maxRecDepth 100000 in
set_option maxHeartbeats 4000000 in
theorem Gr.grow (i0 : TypeInfo) (z : Value) (hi0 : Tryz.prog.info? 76 = some i0) (hz0 : i0.zero = some z) (hs0 : 0 < i0.size) (hb0 : i0.bytes ≤ 1000) (base : Option Addr) (n : Nat) (hn : n ≤ 1000000) (h0 : 0 < n) (w : World) :
    Calls Tryz.prog 50 #[.slice base 0 0, .int .i64 n] w fun e w' =>
      e = .returned (.slice (some ⟨w.heap.size, 0, none⟩) 0 (grownCap w n 0 76)) ∧
      w' = w.drew.alloc (.cells (Builtin.zeroCells z.cells n ++ Builtin.zeroCells z.cells (grownCap w n 0 76 - n)) 76) := by
  have h1 : ¬ ((n : Int) < 0) := by omega
  have h4 : (n : Int) > 0 := by omega
  have hold : (Builtin.firstCells i0.size 0 (.slice base 0 0)).run Tryz.prog w.drew = .ok ([] : List Value).toArray w.drew := by
    cases base with
    | none => exact run_firstCells_none w.drew i0.size 0 0 0
    | some a => exact run_firstCells_some w.drew i0.size 0 a 0 0 [] (by simp) (fun j v hj => by simp at hj)
  have hfit : n * i0.bytes ≤ 1000000 * 1000 := Nat.mul_le_mul hn hb0
  have hrz : ∀ ty, (Builtin.append_ #[43, 3] ty #[.slice base 0 0, .int .i64 (n : Int)]).run Tryz.prog w =
      .ok (.slice (some ⟨w.heap.size, 0, none⟩) n (grownCap w n 0 76)) (w.drew.alloc (.cells (Builtin.zeroCells z.cells n ++ Builtin.zeroCells z.cells (grownCap w n 0 76 - n)) 76)) := fun ty => by
    have h := Lib.run_append_grow_zeros w 43 3 ty 76 i0 z .i64 .i64 Tryz.underlying43 Tryz.underlying3 hi0 hz0 base 0 0 [] hold n h0 hs0 (by omega) (by omega) (by omega)
      (growslice_fits (by omega) (by simp; omega))
    simpa using h
  have hGn : n ≤ grownCap w n 0 76 := grownCap_ge w _ _ _
  obtain ⟨G, hG⟩ : ∃ G, G = grownCap w n 0 76 := ⟨_, rfl⟩
  rw [← hG] at hrz hGn ⊢
  have hG63 : G ≤ 9223372036854775807 := by
    have := grownCap_le_maxLen w n 0 76 (by unfold maxLen; omega)
    rw [← hG] at this
    unfold maxLen at this
    omega
  clear hold hG hi0 hz0
  refine calls_of_wp Tryz.func50 rfl ?_
  simp only [Tryz.ntmps50, List.size_toArray, List.length_cons, List.length_nil, Nat.reduceAdd, Nat.reduceSub, Array.replicate_succ, Array.replicate_zero, List.push_toArray, List.append_toArray, List.nil_append, List.cons_append]
  cases base with
  | none =>
    go_wp2_with (at_builtin; refine Lib.wpList_append_run _ rfl _ _ _ _ rfl _ _ rfl rfl _ _ (hrz _) ?_)
    all_goals (go_ret; exact ⟨rfl, rfl⟩)
  | some a =>
    obtain ⟨ab, ao, asp⟩ := a
    go_wp2_with (at_builtin; refine Lib.wpList_append_run _ rfl _ _ _ _ rfl _ _ rfl rfl _ _ (hrz _) ?_)
    all_goals (go_ret; exact ⟨rfl, rfl⟩)
set_option maxRecDepth 100000 in
set_option maxHeartbeats 4000000 in
theorem Gr.none (base : Option Addr) (w : World) :
    Calls Tryz.prog 50 #[.slice base 0 0, .int .i64 0] w fun e w' => e = .returned (.slice base 0 0) ∧ w' = w := by
  refine calls_of_wp Tryz.func50 rfl ?_
  simp only [Tryz.ntmps50, List.size_toArray, List.length_cons, List.length_nil, Nat.reduceAdd, Nat.reduceSub, Array.replicate_succ, Array.replicate_zero, List.push_toArray, List.append_toArray, List.nil_append, List.cons_append]
  go_wp2
  go_ret
  exact ⟨rfl, rfl⟩
end Go.Proofs
namespace Go.Dm
open Go Go.RowKit Go.Proofs
theorem BU (h : Array Obj) (o : Obj) (n : Nat) (hn : n = h.size) : (h.push o)[n]? = some o := by subst hn; simp
theorem mg (l : List Mi) : (mints l).length = l.length := by simp [mints]
theorem BL {e : List C} {m : Mi} (h : Ac e = some m) : e = m.cs := by
  unfold Ac at h
  split at h
  · cases h; rfl
  · cases h
theorem Cx {es : List (List C)} {l : List Mi} (h : es.mapM Ac = some l) : es = mints l := by
  induction es generalizing l with
  | nil => simp at h; subst h; rfl
  | cons e es ih =>
    rw [List.mapM_cons] at h
    cases he : Ac e with
    | none => simp [he] at h
    | some m =>
      cases hr : es.mapM Ac with
      | none => simp [he, hr] at h
      | some r =>
        simp [he, hr] at h
        subst h
        rw [BL he, ih hr]
        rfl
theorem vk {Fr : Nat → Nat → Prop} {w : World} (hf : ∀ b o, Fr b o → b < w.heap.size) {sz : Nat} {l : List Mi} (hs : sz = 3 ∨ mints l = []) {v : Value} (h : (C.slice sz (mints l)).rep Fr w v) :
    ∃ a len cap, v = .slice a len cap ∧ kl w.heap.size w v l := by
  simp only [C.rep] at h
  obtain ⟨a, len, cap, rfl, hlen, hcap, h4⟩ := h
  refine ⟨a, len, cap, rfl, ?_⟩
  rw [mg] at hlen
  by_cases hl : l = []
  · subst hl
    simp at hlen
    subst hlen
    exact .inl ⟨a, cap, rfl, rfl⟩
  · have hsz : sz = 3 := by
      rcases hs with h | h
      · exact h
      · exact absurd (List.map_eq_nil_iff.1 h) hl
    subst hsz
    rcases h4 with ⟨h4, _⟩ | ⟨b, o, rfl, hr⟩
    · exact absurd (List.eq_nil_of_length_eq_zero (by omega)) hl
    · have hg : ∀ j (hj : j < l.length), bv Fr w b (l[j]).cs (o + j * 3) := fun j hj => (gp hr j _ (by simp [mints, hj])).2
      have hb : b < w.heap.size := by
        have h0 : 0 < l.length := List.length_pos_iff.2 hl
        exact hf _ _ (dq (hg 0 h0) 0 _ rfl).1
      refine .inr ⟨b, o, cap, by rw [hlen], hb, fun j hj => ?_⟩
      have hc := hg j hj
      rw [List.getElem?_eq_getElem hj, Option.getD_some]
      intro i x hx
      match i, hx with
      | 0, hx => simp at hx; subst hx; obtain ⟨v, h1, h2⟩ := (dq hc 0 _ rfl).2; simp only [C.rep] at h2; rw [h1, h2.1]
      | 1, hx => simp at hx; subst hx; obtain ⟨v, h1, h2⟩ := (dq hc 1 _ rfl).2; simp only [C.rep] at h2; rw [h1, h2.1]
      | 2, hx => simp at hx; subst hx; obtain ⟨v, h1, h2⟩ := (dq hc 2 _ rfl).2; simp only [C.rep] at h2; rw [h1, h2.1]
      | i + 3, hx => simp at hx
theorem Fo : TabOk PP GL XX := ⟨fun f h xs ims rs ims' hx hh => by
  unfold XX at hx
  split at hx
  · cases hx
    unfold uf at hh
    split at hh
    · rename_i sz es
      split at hh
      · rename_i hc
        obtain ⟨hs, hlen⟩ := hc
        rw [Option.map_eq_some_iff] at hh
        obtain ⟨l, hl, he⟩ := hh
        cases he
        have hes := Cx hl
        subst hes
        rw [mg] at hlen
        refine ⟨⟨_, Proofs.Tryz.func53, rfl, by kernel_rfl⟩, ?_⟩
        refine qq.full ?_
        intro Fr w locs vs hf hgl him hap hxs
        obtain ⟨v, vs', rfl, hv, hnil⟩ : ∃ v vs', vs = v :: vs' ∧ (C.slice sz (mints l)).rep Fr w v ∧ vs' = [] := by
          cases vs with
          | nil => exact hxs.elim
          | cons v vs' => refine ⟨v, vs', rfl, hxs.1, ?_⟩; cases vs' with
            | nil => rfl
            | cons _ _ => exact hxs.2.elim
        subst hnil
        obtain ⟨a, len, cap, rfl, hM⟩ := vk hf hs hv
        have hcall := callsIn_wide.1 (Bw.parents_in Fence.wide 3 trivial trivial trivial rfl (Nat.le_refl _) a len cap l hlen w hM)
        refine hcall.mono ?_
        rintro e w' ⟨rfl, ⟨ents, clock, hm1, hm2⟩, hB⟩
        refine ⟨[.map (some w.heap.size)], fun b o => Fr b o ∨ (b = w.heap.size ∧ o = 0), rfl, BelowBut.of_below hB, fun b o h => .inl h, ?_, ⟨?_, trivial⟩, trivial, ?_, rfl⟩
        · rintro b o (h | ⟨rfl, rfl⟩)
          · exact .inl h
          · exact .inr ⟨Nat.le_refl _, (Array.getElem?_eq_some_iff.1 hm1).1⟩
        · simp only [Res.rep, C.rep]
          exact ⟨_, ents, clock, rfl, .inr ⟨rfl, trivial⟩, hm1, hm2⟩
        · cases locs with
          | nil => trivial
          | cons _ _ => exact him.elim
      · cases hh
    · cases hh
  · cases hx
    unfold pb at hh
    split at hh
    · rename_i n
      split at hh
      · rename_i hc
        obtain ⟨hn0, hn⟩ := hc
        cases hh
        refine ⟨⟨_, Proofs.Tryz.func50, rfl, by kernel_rfl⟩, ?_⟩
        refine qq.full ?_
        intro Fr w locs vs hf hgl him hap hxs
        obtain ⟨m, rfl⟩ : ∃ m : Nat, n = (m : Int) := ⟨n.toNat, by omega⟩
        obtain ⟨a, rfl⟩ : ∃ a, vs = [.slice a 0 0, .int .i64 m] := by
          match vs, hxs with
          | [v1, v2], ⟨⟨a, h1⟩, h2, _⟩ => exact ⟨a, by simp only [A.rep, C.rep] at h2; rw [h1, h2.1]⟩
          | [], h => exact h.elim
          | [_], h => exact h.2.elim
          | _ :: _ :: _ :: _, h => exact h.2.2.elim
        have hl : locs = [] := by
          cases locs with
          | nil => rfl
          | cons _ _ => exact him.elim
        subst hl
        by_cases h0 : m = 0
        · subst h0
          refine (Gr.none a w).mono ?_
          rintro e w' ⟨rfl, rfl⟩
          refine ⟨[.slice a 0 0], Fr, rfl, BelowBut.of_below (Below.refl _ _), fun b o h => h, fun b o h => .inl h, ⟨?_, trivial⟩, ⟨fun j sz es u h => by simp at h, trivial⟩, trivial, rfl⟩
          simp only [Res.rep, C.rep]
          exact ⟨⟨a, 0, 0, rfl, rfl, Nat.le_refl _, .inl ⟨rfl, rfl⟩⟩, a, 0, rfl, Nat.le_refl _, .inl rfl⟩
        · obtain ⟨i0, hi0⟩ : ∃ i0, PP.info? 76 = some i0 := Option.isSome_iff_exists.1 (by kernel_rfl)
          obtain ⟨z, hz⟩ : ∃ z, i0.zero = some z := by
            have h : ((PP.info? 76).bind (·.zero)).isSome = true := by kernel_rfl
            rw [hi0] at h
            exact Option.isSome_iff_exists.1 h
          have hs : i0.size = 3 := by
            have h : (PP.info? 76).map (·.size) = some 3 := by kernel_rfl
            rw [hi0] at h
            simpa using h
          have hb : i0.bytes = 24 := by
            have h : (PP.info? 76).map (·.bytes) = some 24 := by kernel_rfl
            rw [hi0] at h
            simpa using h
          have hzc : z.cells.size = 3 := by
            have h : ((PP.info? 76).bind (·.zero)).map (·.cells.size) = some 3 := by kernel_rfl
            rw [hi0] at h
            simp only [Option.bind_some, hz, Option.map_some, Option.some.injEq] at h
            exact h
          refine (Gr.grow i0 z hi0 hz (by omega) (by omega) a m (by omega) (by omega) w).mono ?_
          rintro e w' ⟨rfl, rfl⟩
          refine ⟨[.slice (some ⟨w.heap.size, 0, none⟩) 0 (grownCap w m 0 76)], Fr, rfl, BelowBut.of_below (((Below.refl _ w).drew).alloc (Nat.le_refl _) _), fun b o h => h, fun b o h => .inl h, ⟨?_, trivial⟩, ⟨fun j sz es u h => by simp at h, trivial⟩, trivial, rfl⟩
          simp only [Res.rep, C.rep]
          refine ⟨⟨_, 0, _, rfl, rfl, Nat.zero_le _, .inr ⟨_, _, rfl, trivial⟩⟩, _, _, rfl, Nat.zero_le _, .inr ⟨w.heap.size, rfl, Nat.le_refl _, ⟨_, _, (BU w.drew.heap _ w.heap.size rfl), ?_⟩, ?_⟩⟩
          · have hG := grownCap_ge w m 0 9
            simp only [Array.size_append, iX, hzc]
            omega
          · intro o _ h
            have := hf _ _ h
            omega
      · cases hh
    · cases hh
  · cases hx⟩
end Go.Dm
