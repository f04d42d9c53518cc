/-
  A part of the proofs over this seat: its functions, one by one (the file in which the theorems stand says what is proved).
-/
import Derived.KernelRfl
import Derived.Lib.AppendZerosOnto
import Derived.Lib.SliceRun
import Derived.Lib.Walk
import Derived.LoopIn
import Derived.LoopNIn
import Derived.MapKept
import Derived.Maps.OwnIn
import Derived.OwnWalkIn
import Derived.RangeFuncBox
import Derived.RangeFuncLeaves
import Derived.RangeFuncNested
import Derived.RangeFuncWrites
import Derived.Shelf.Abstract
import Derived.Shelf.RegionOpenPlain
import Derived.TacticsInMore
import Derived.Test.YtafmihnhdodekaaGreatProg
import Derived.WalkKit
import Derived.Test.YtafmihnhdodekaaGreatL2
set_option linter.unusedSimpArgs false
set_option linter.unusedVariables false
set_option maxRecDepth 100000
set_option maxHeartbeats 4000000
namespace Go.Dm
open Go
abbrev Rc (x : Cl × List Ou) : List Res × List (List C) := ([.agg x.1.cs, .top 5 (x.2.map Ou.cs)], [])
theorem NdB.sure {N a m : Nat} {n : Nd} (h : NdB N a m n) : n.store.disk.sure.length = N := h.1.1
theorem NdB.draws {N a m : Nat} {n : Nd} (h : NdB N a m n) : n.draws.length ≤ m := by have := h.2.2; omega
theorem NdB.mints {N a m : Nat} {n : Nd} (h : NdB N a m n) : n.mints.length ≤ m := by have := h.2.2; omega
theorem DkOk.cacheIn {N : Nat} {d : Dk} (h : DkOk N d) : CacheIn d := fun w hw => by
  have := h.2.2 w hw
  exact ⟨this.1, by rw [h.1]; exact this.2.1⟩
theorem nattach16 {N a m : Nat} (n : Nd) (ks : List Bool) (h : NdB N a m n) (hN : 0 < N) (hN2 : N ≤ 1000) (ha : a ≤ 870) (k : Nat) : orac PP GL XX HH NN (k + 9) 65 [.agg n.cs, .c (.slice 1 (ks.map eB))] [] = some ([.agg (nattachM n ks).1.cs, .c (ii (nattachM n ks).2)], []) := by
  have h0 := h.1.1
  have h1 := (revive_fw n.store.disk ks).1 N h.1
  have h2 := h.2.1
  exact nattachF n ks (reviveM n.store.disk ks) (by rw [h1.1]; omega) (Nat.zero_le _) (Nat.le_trans (dkread_size h1 0) (by decide)) (Nat.le_trans (dkread_size h1 1) (by decide)) (fun k => revive4 n.store.disk ks h.1.cacheIn (by omega) (by omega) (by omega) (k + 6)) k
theorem nattach16n {N a m : Nat} (n : Nd) (h : NdB N a m n) (hN : 0 < N) (hN2 : N ≤ 1000) (ha : a ≤ 870) (k : Nat) : orac PP GL XX HH NN (k + 9) 65 [.agg n.cs, .nil] [] = some ([.agg (nattachM n []).1.cs, .c (ii (nattachM n []).2)], []) := by
  have h0 := h.1.1
  have h1 := (revive_fw n.store.disk []).1 N h.1
  exact nattachG n (reviveM n.store.disk []) (by rw [h1.1]; omega) (Nat.zero_le _) (Nat.le_trans (dkread_size h1 0) (by decide)) (Nat.le_trans (dkread_size h1 1) (by decide)) (fun k => reviveN n.store.disk (by omega) (by omega) (k + 6)) k
theorem endB {N a m s : Nat} (c : Cl) (h : ClB N a m s c) (hN2 : N ≤ 1000) (ha : a ≤ 870) (hm : m ≤ 100000) (k : Nat) : orac PP GL XX HH NN (k + 11) 61 [.agg c.cs, .nil] [] = some (Rc (endM c)) := by
  have a0 := h.n0.sure
  have a1 := h.n1.sure
  have b0 := h.n0.2.1
  have b1 := h.n1.2.1
  have d0 := h.n0.draws
  have d1 := h.n1.draws
  have e0 := h.n0.mints
  have e1 := h.n1.mints
  exact end16n c (by omega) (by omega) (by omega) (by omega) (by omega) (by omega) (by omega) (by omega) k
theorem after16_0 {N a m s : Nat} (c : Cl) (n : Nd) (l : List Ou) (h : ClB N a m s c) (hn : NdB N a m n) (hl : OutOk 3 l) (hN2 : N ≤ 1000) (ha : a ≤ 870) (hm : m ≤ 100000) (hs : s ≤ 100000) (k : Nat) : orac PP GL XX HH NN (k + 12) 69 [.agg c.cs, .c (ii 0), .agg n.cs, .c (.slice 5 (l.map Ou.cs))] [] = some (Rc (afterM c 0 n l)) := by
  have a0 := hn.sure
  have a1 := h.n1.sure
  have b0 := hn.2.1
  have b1 := h.n1.2.1
  have d0 := hn.draws
  have d1 := h.n1.draws
  have e0 := hn.mints
  have e1 := h.n1.mints
  have f0 := h.link.1
  have f1 := h.link.2.1
  have g := hl.1
  have g2 := kept_len l
  have := afterF0 c n l { putNode c 0 n with link := sendAll 0 c.link l } (keptOuts l) (closesM l) (by omega) (show n.draws.length ≤ 1000000 by omega) (show n.mints.length ≤ 1000000 by omega) (show n.store.disk.sure.length ≤ 1000000 by omega) (show n.store.disk.cache.length ≤ 880 by omega) (show c.n1.draws.length ≤ 1000000 by omega) (show c.n1.mints.length ≤ 1000000 by omega) (show c.n1.store.disk.sure.length ≤ 1000000 by omega) (show c.n1.store.disk.cache.length ≤ 880 by omega) (fun k => La0 c n l (by omega) (by omega) (by omega) k) k
  rw [afterK_eq] at this
  exact this
theorem after16_1 {N a m s : Nat} (c : Cl) (n : Nd) (l : List Ou) (h : ClB N a m s c) (hn : NdB N a m n) (hl : OutOk 3 l) (hN2 : N ≤ 1000) (ha : a ≤ 870) (hm : m ≤ 100000) (hs : s ≤ 100000) (k : Nat) : orac PP GL XX HH NN (k + 12) 69 [.agg c.cs, .c (ii 1), .agg n.cs, .c (.slice 5 (l.map Ou.cs))] [] = some (Rc (afterM c 1 n l)) := by
  have a0 := hn.sure
  have a1 := h.n0.sure
  have b0 := hn.2.1
  have b1 := h.n0.2.1
  have d0 := hn.draws
  have d1 := h.n0.draws
  have e0 := hn.mints
  have e1 := h.n0.mints
  have f0 := h.link.1
  have f1 := h.link.2.1
  have g := hl.1
  have g2 := kept_len l
  have := afterF1 c n l { putNode c 1 n with link := sendAll 1 c.link l } (keptOuts l) (closesM l) (by omega) (show c.n0.draws.length ≤ 1000000 by omega) (show c.n0.mints.length ≤ 1000000 by omega) (show c.n0.store.disk.sure.length ≤ 1000000 by omega) (show c.n0.store.disk.cache.length ≤ 880 by omega) (show n.draws.length ≤ 1000000 by omega) (show n.mints.length ≤ 1000000 by omega) (show n.store.disk.sure.length ≤ 1000000 by omega) (show n.store.disk.cache.length ≤ 880 by omega) (fun k => La1 c n l (by omega) (by omega) (by omega) k) k
  rw [afterK_eq] at this
  exact this
theorem connect16_0 {N a m s : Nat} (c : Cl) (h : ClB N a m s c) (hN2 : N ≤ 1000) (ha : a ≤ 860) (hm : m ≤ 90000) (hs : s ≤ 90000) (k : Nat) : orac PP GL XX HH NN (k + 13) 60 [.agg c.cs, .c (ii 0)] [] = some (Rc (connectM c 0)) := by
  have h0 := openC_b h 0
  have h1 := begin0_b h0
  have h2 := begin1_b h1.1
  have l1 := h1.2.1
  have l2 := h2.2.1
  exact connectF0 c (begin0 { putWant c 0 true with link := lopenM c.link }).1 (begin1 (begin0 { putWant c 0 true with link := lopenM c.link }).1).1 (begin0 { putWant c 0 true with link := lopenM c.link }).2 (begin1 (begin0 { putWant c 0 true with link := lopenM c.link }).1).2 (by omega) (fun k => after16_0 { putWant c 0 true with link := lopenM c.link } _ _ h0 (beginM_nb h.n0 _) (beginM_ro _ _).2 hN2 (by omega) (by omega) (by omega) k) (fun k => after16_1 _ _ _ h1.1 (beginM_nb h1.1.n1 _) (beginM_ro _ _).2 hN2 (by omega) (by omega) (by omega) k) k
set_option maxRecDepth 100000 in
theorem do16_0 {N a m s : Nat} (c : Cl) (h : ClB N a m s c) (hN : 0 < N) (hN2 : N ≤ 1000) (ha : a ≤ 860) (hm : m ≤ 90000) (hs : s ≤ 90000) (kind id block g : Int) (data : ByteArray) (keeps : List Bool) (hd : data.size ≤ 300) (k : Nat) : orac PP GL XX HH NN (k + 14) 42 [.agg c.cs, .agg (Evt.mk kind 0 id block data g keeps).cs] [] = some (Rc (doAt c ⟨kind, 0, id, block, data, g, keeps⟩ 0 c.n0)) := by
  have hn := h.n0
  have h3 := h.le (show a ≤ a + 3 by omega) (Nat.le_refl m) (Nat.le_refl s)
  have a0 := hn.sure
  have b0 := hn.2.1
  have d0 := hn.draws
  have e0 := hn.mints
  by_cases k1 : kind = 1
  · subst k1
    have hr := promoteM_ro c.n0 id
    exact do0promote c ⟨1, 0, id, block, data, g, keeps⟩ _ _ _ _ (fun k => promote16 c.n0 id (by omega) (by omega) (k + 3)) (fun k => after16_0 c _ _ h3 (hn.nw hr.1) hr.2 hN2 (by omega) (by omega) (by omega) (k + 1)) k
  by_cases k2 : kind = 2
  · subst k2
    have hr := demoteM_ro c.n0 id
    exact do0demote c ⟨2, 0, id, block, data, g, keeps⟩ _ _ _ _ (fun k => demote16 c.n0 id (by omega) (by omega) (k + 3)) (fun k => after16_0 c _ _ h3 (hn.nw hr.1) hr.2 hN2 (by omega) (by omega) (by omega) (k + 1)) k
  by_cases k3 : kind = 3
  · subst k3
    have hr := discardM_ro c.n0 id
    exact do0discard c ⟨3, 0, id, block, data, g, keeps⟩ _ _ _ _ (fun k => discard16 c.n0 id (by omega) (by omega) (k + 3)) (fun k => after16_0 c _ _ h3 (hn.nw hr.1) hr.2 hN2 (by omega) (by omega) (by omega) (k + 1)) k
  by_cases k4 : kind = 4
  · subst k4
    have hr := nreadM_ro c.n0 id block
    exact do0read c ⟨4, 0, id, block, data, g, keeps⟩ _ _ _ _ (fun k => nread16 c.n0 id block (by omega) (k + 7)) (fun k => after16_0 c _ _ h3 (hn.nw hr.1) hr.2 hN2 (by omega) (by omega) (by omega) (k + 1)) k
  by_cases k5 : kind = 5
  · subst k5
    have hr := writeM_ro c.n0 id block data
    exact do0write c ⟨5, 0, id, block, data, g, keeps⟩ _ _ _ _ (fun k => write16 c.n0 id block data (by omega) (by omega) (by omega) (by omega) (by omega) (k + 3)) (fun k => after16_0 c _ _ h3 (hn.nw hr.1) hr.2 hN2 (by omega) (by omega) (by omega) (k + 1)) k
  by_cases k6 : kind = 6
  · subst k6
    exact do0connect c ⟨6, 0, id, block, data, g, keeps⟩ _ _ (fun k => connect16_0 c h hN2 ha hm hs k) k
  by_cases k7 : kind = 7
  · subst k7
    exact do0disconnect c ⟨7, 0, id, block, data, g, keeps⟩ _ _ (fun k => endB (putWant c 0 false) (putWant_b h 0 false) hN2 (by omega) (by omega) (k + 2)) k
  by_cases k8 : kind = 8
  · subst k8
    exact do0drop c ⟨8, 0, id, block, data, g, keeps⟩ _ _ (fun k => endB c h hN2 (by omega) (by omega) (k + 2)) k
  by_cases k9 : kind = 9
  · subst k9
    have ht := ltake_b h.link 0
    have f0 := h.link.1
    have f1 := h.link.2.1
    have hr := receiveM_ro c.n0 (ltakeM c.link 0).1
    exact do0deliver c ⟨9, 0, id, block, data, g, keeps⟩ _ _ _ _ _ _ _ (fun k => ltake14 c.link 0 (by omega) (by omega) (k + 11)) (fun k => receive16 c.n0 _ (Nat.le_trans ht.2 (by decide)) (by omega) (by omega) k) (fun k => after16_0 { c with link := (ltakeM c.link 0).2.1 } _ _ ⟨h3.n0, h3.n1, ht.1⟩ (hn.nw hr.1) hr.2 hN2 (by omega) (by omega) (by omega) (k + 1)) k
  by_cases k10 : kind = 10
  · subst k10
    exact do0crash c ⟨10, 0, id, block, data, g, keeps⟩ _ _ (fun k => after16_0 c _ [] h3 (hn.nw (Nw.down (a := 3) (Nw.refl _ _))) (OutOk.nil _) hN2 (by omega) (by omega) (by omega) (k + 1)) k
  by_cases k11 : kind = 11
  · subst k11
    exact do0restart c ⟨11, 0, id, block, data, g, keeps⟩ _ _ (fun k => nattach16 c.n0 keeps hn hN hN2 (by omega) (k + 4)) k
  by_cases k12 : kind = 12
  · subst k12
    cases hu : c.n0.up with
    | true =>
      have := do0fuseU c ⟨12, 0, id, block, data, g, keeps⟩ _ _ hu (fun k => after16_0 c (armed c.n0 g) [] h3 (hn.nw (b := 3) ⟨(arm_fw _ _).le (by omega), Nat.le_refl _, rfl⟩) (OutOk.nil _) hN2 (by omega) (by omega) (by omega) (k + 1)) k
      have e : fusedM c.n0 g = armed c.n0 g := by simp only [fusedM, armed, hu, cond_true]
      show _ = some (Rc (afterM c 0 (fusedM c.n0 g) []))
      rw [e]
      exact this
    | false =>
      have := do0fuseD c ⟨12, 0, id, block, data, g, keeps⟩ _ _ hu (fun k => after16_0 c c.n0 [] h3 (hn.nw (b := 3) (Nw.refl _ _)) (OutOk.nil _) hN2 (by omega) (by omega) (by omega) (k + 1)) k
      have e : fusedM c.n0 g = c.n0 := by unfold fusedM; rw [hu]; rfl
      show _ = some (Rc (afterM c 0 (fusedM c.n0 g) []))
      rw [e]
      exact this
  by_cases k13 : kind = 13
  · subst k13
    show _ = some (Rc (putNode c 0 (drawM c.n0 g), []))
    cases hq : decide ((c.n0.draws.length : Int) < 1000) with
    | true =>
      have e : putNode c 0 (drawM c.n0 g) = Cl.mk (drawn c.n0 g) c.n1 c.link c.w0 c.w1 := by
        have e1 : drawM c.n0 g = drawn c.n0 g := by unfold drawM; rw [hq]; rfl
        rw [e1]; rfl
      rw [e]
      exact do0drawT c ⟨13, 0, id, block, data, g, keeps⟩ (by omega) hq k
    | false =>
      have e : putNode c 0 (drawM c.n0 g) = c := by
        have e1 : drawM c.n0 g = c.n0 := by unfold drawM; rw [hq]; rfl
        rw [e1]; rfl
      rw [e]
      exact do0drawF c ⟨13, 0, id, block, data, g, keeps⟩ hq k
  by_cases k14 : kind = 14
  · subst k14
    have hr := receiveM_ro c.n0 data
    exact do0forge c ⟨14, 0, id, block, data, g, keeps⟩ _ _ _ _ _ _ (fun k => pkRead13 data c.link.ses (by omega) (k + 4)) (fun k => receive16 c.n0 data (by omega) (by omega) (by omega) k) (fun k => after16_0 c _ _ h3 (hn.nw hr.1) hr.2 hN2 (by omega) (by omega) (by omega) (k + 1)) k
  have hk : ∀ j : Int, kind ≠ j → (kind == j) = false := fun j hj => beq_false_of_ne hj
  have e : doAt c ⟨kind, 0, id, block, data, g, keeps⟩ 0 c.n0 = (c, []) := by
    unfold doAt
    simp only [hk _ k1, hk _ k2, hk _ k3, hk _ k4, hk _ k5, hk _ k6, hk _ k7, hk _ k8, hk _ k9, hk _ k10, hk _ k11, hk _ k12, hk _ k13, hk _ k14, cond_false]
  rw [e]
  exact do0other c ⟨kind, 0, id, block, data, g, keeps⟩ (hk _ k1) (hk _ k2) (hk _ k3) (hk _ k4) (hk _ k5) (hk _ k6) (hk _ k7) (hk _ k8) (hk _ k9) (hk _ k10) (hk _ k11) (hk _ k12) (hk _ k13) (hk _ k14) k
theorem connect16_1 {N a m s : Nat} (c : Cl) (h : ClB N a m s c) (hN2 : N ≤ 1000) (ha : a ≤ 860) (hm : m ≤ 90000) (hs : s ≤ 90000) (k : Nat) : orac PP GL XX HH NN (k + 13) 60 [.agg c.cs, .c (ii 1)] [] = some (Rc (connectM c 1)) := by
  have h0 := openC_b h 1
  have h1 := begin0_b h0
  have h2 := begin1_b h1.1
  have l1 := h1.2.1
  have l2 := h2.2.1
  exact connectF1 c (begin0 { putWant c 1 true with link := lopenM c.link }).1 (begin1 (begin0 { putWant c 1 true with link := lopenM c.link }).1).1 (begin0 { putWant c 1 true with link := lopenM c.link }).2 (begin1 (begin0 { putWant c 1 true with link := lopenM c.link }).1).2 (by omega) (fun k => after16_0 { putWant c 1 true with link := lopenM c.link } _ _ h0 (beginM_nb h.n0 _) (beginM_ro _ _).2 hN2 (by omega) (by omega) (by omega) k) (fun k => after16_1 _ _ _ h1.1 (beginM_nb h1.1.n1 _) (beginM_ro _ _).2 hN2 (by omega) (by omega) (by omega) k) k
set_option maxRecDepth 100000 in
theorem do16_1 {N a m s : Nat} (c : Cl) (h : ClB N a m s c) (hN : 0 < N) (hN2 : N ≤ 1000) (ha : a ≤ 860) (hm : m ≤ 90000) (hs : s ≤ 90000) (kind id block g : Int) (data : ByteArray) (keeps : List Bool) (hd : data.size ≤ 300) (k : Nat) : orac PP GL XX HH NN (k + 14) 42 [.agg c.cs, .agg (Evt.mk kind 1 id block data g keeps).cs] [] = some (Rc (doAt c ⟨kind, 1, id, block, data, g, keeps⟩ 1 c.n1)) := by
  have hn := h.n1
  have h3 := h.le (show a ≤ a + 3 by omega) (Nat.le_refl m) (Nat.le_refl s)
  have a0 := hn.sure
  have b0 := hn.2.1
  have d0 := hn.draws
  have e0 := hn.mints
  by_cases k1 : kind = 1
  · subst k1
    have hr := promoteM_ro c.n1 id
    exact do1promote c ⟨1, 1, id, block, data, g, keeps⟩ _ _ _ _ (fun k => promote16 c.n1 id (by omega) (by omega) (k + 3)) (fun k => after16_1 c _ _ h3 (hn.nw hr.1) hr.2 hN2 (by omega) (by omega) (by omega) (k + 1)) k
  by_cases k2 : kind = 2
  · subst k2
    have hr := demoteM_ro c.n1 id
    exact do1demote c ⟨2, 1, id, block, data, g, keeps⟩ _ _ _ _ (fun k => demote16 c.n1 id (by omega) (by omega) (k + 3)) (fun k => after16_1 c _ _ h3 (hn.nw hr.1) hr.2 hN2 (by omega) (by omega) (by omega) (k + 1)) k
  by_cases k3 : kind = 3
  · subst k3
    have hr := discardM_ro c.n1 id
    exact do1discard c ⟨3, 1, id, block, data, g, keeps⟩ _ _ _ _ (fun k => discard16 c.n1 id (by omega) (by omega) (k + 3)) (fun k => after16_1 c _ _ h3 (hn.nw hr.1) hr.2 hN2 (by omega) (by omega) (by omega) (k + 1)) k
  by_cases k4 : kind = 4
  · subst k4
    have hr := nreadM_ro c.n1 id block
    exact do1read c ⟨4, 1, id, block, data, g, keeps⟩ _ _ _ _ (fun k => nread16 c.n1 id block (by omega) (k + 7)) (fun k => after16_1 c _ _ h3 (hn.nw hr.1) hr.2 hN2 (by omega) (by omega) (by omega) (k + 1)) k
  by_cases k5 : kind = 5
  · subst k5
    have hr := writeM_ro c.n1 id block data
    exact do1write c ⟨5, 1, id, block, data, g, keeps⟩ _ _ _ _ (fun k => write16 c.n1 id block data (by omega) (by omega) (by omega) (by omega) (by omega) (k + 3)) (fun k => after16_1 c _ _ h3 (hn.nw hr.1) hr.2 hN2 (by omega) (by omega) (by omega) (k + 1)) k
  by_cases k6 : kind = 6
  · subst k6
    exact do1connect c ⟨6, 1, id, block, data, g, keeps⟩ _ _ (fun k => connect16_1 c h hN2 ha hm hs k) k
  by_cases k7 : kind = 7
  · subst k7
    exact do1disconnect c ⟨7, 1, id, block, data, g, keeps⟩ _ _ (fun k => endB (putWant c 1 false) (putWant_b h 1 false) hN2 (by omega) (by omega) (k + 2)) k
  by_cases k8 : kind = 8
  · subst k8
    exact do1drop c ⟨8, 1, id, block, data, g, keeps⟩ _ _ (fun k => endB c h hN2 (by omega) (by omega) (k + 2)) k
  by_cases k9 : kind = 9
  · subst k9
    have ht := ltake_b h.link 1
    have f0 := h.link.1
    have f1 := h.link.2.1
    have hr := receiveM_ro c.n1 (ltakeM c.link 1).1
    exact do1deliver c ⟨9, 1, id, block, data, g, keeps⟩ _ _ _ _ _ _ _ (fun k => ltake14 c.link 1 (by omega) (by omega) (k + 11)) (fun k => receive16 c.n1 _ (Nat.le_trans ht.2 (by decide)) (by omega) (by omega) k) (fun k => after16_1 { c with link := (ltakeM c.link 1).2.1 } _ _ ⟨h3.n0, h3.n1, ht.1⟩ (hn.nw hr.1) hr.2 hN2 (by omega) (by omega) (by omega) (k + 1)) k
  by_cases k10 : kind = 10
  · subst k10
    exact do1crash c ⟨10, 1, id, block, data, g, keeps⟩ _ _ (fun k => after16_1 c _ [] h3 (hn.nw (Nw.down (a := 3) (Nw.refl _ _))) (OutOk.nil _) hN2 (by omega) (by omega) (by omega) (k + 1)) k
  by_cases k11 : kind = 11
  · subst k11
    exact do1restart c ⟨11, 1, id, block, data, g, keeps⟩ _ _ (fun k => nattach16 c.n1 keeps hn hN hN2 (by omega) (k + 4)) k
  by_cases k12 : kind = 12
  · subst k12
    cases hu : c.n1.up with
    | true =>
      have := do1fuseU c ⟨12, 1, id, block, data, g, keeps⟩ _ _ hu (fun k => after16_1 c (armed c.n1 g) [] h3 (hn.nw (b := 3) ⟨(arm_fw _ _).le (by omega), Nat.le_refl _, rfl⟩) (OutOk.nil _) hN2 (by omega) (by omega) (by omega) (k + 1)) k
      have e : fusedM c.n1 g = armed c.n1 g := by simp only [fusedM, armed, hu, cond_true]
      show _ = some (Rc (afterM c 1 (fusedM c.n1 g) []))
      rw [e]
      exact this
    | false =>
      have := do1fuseD c ⟨12, 1, id, block, data, g, keeps⟩ _ _ hu (fun k => after16_1 c c.n1 [] h3 (hn.nw (b := 3) (Nw.refl _ _)) (OutOk.nil _) hN2 (by omega) (by omega) (by omega) (k + 1)) k
      have e : fusedM c.n1 g = c.n1 := by unfold fusedM; rw [hu]; rfl
      show _ = some (Rc (afterM c 1 (fusedM c.n1 g) []))
      rw [e]
      exact this
  by_cases k13 : kind = 13
  · subst k13
    show _ = some (Rc (putNode c 1 (drawM c.n1 g), []))
    cases hq : decide ((c.n1.draws.length : Int) < 1000) with
    | true =>
      have e : putNode c 1 (drawM c.n1 g) = Cl.mk c.n0 (drawn c.n1 g) c.link c.w0 c.w1 := by
        have e1 : drawM c.n1 g = drawn c.n1 g := by unfold drawM; rw [hq]; rfl
        rw [e1]; rfl
      rw [e]
      exact do1drawT c ⟨13, 1, id, block, data, g, keeps⟩ (by omega) hq k
    | false =>
      have e : putNode c 1 (drawM c.n1 g) = c := by
        have e1 : drawM c.n1 g = c.n1 := by unfold drawM; rw [hq]; rfl
        rw [e1]; rfl
      rw [e]
      exact do1drawF c ⟨13, 1, id, block, data, g, keeps⟩ hq k
  by_cases k14 : kind = 14
  · subst k14
    have hr := receiveM_ro c.n1 data
    exact do1forge c ⟨14, 1, id, block, data, g, keeps⟩ _ _ _ _ _ _ (fun k => pkRead13 data c.link.ses (by omega) (k + 4)) (fun k => receive16 c.n1 data (by omega) (by omega) (by omega) k) (fun k => after16_1 c _ _ h3 (hn.nw hr.1) hr.2 hN2 (by omega) (by omega) (by omega) (k + 1)) k
  have hk : ∀ j : Int, kind ≠ j → (kind == j) = false := fun j hj => beq_false_of_ne hj
  have e : doAt c ⟨kind, 1, id, block, data, g, keeps⟩ 1 c.n1 = (c, []) := by
    unfold doAt
    simp only [hk _ k1, hk _ k2, hk _ k3, hk _ k4, hk _ k5, hk _ k6, hk _ k7, hk _ k8, hk _ k9, hk _ k10, hk _ k11, hk _ k12, hk _ k13, hk _ k14, cond_false]
  rw [e]
  exact do1other c ⟨kind, 1, id, block, data, g, keeps⟩ (hk _ k1) (hk _ k2) (hk _ k3) (hk _ k4) (hk _ k5) (hk _ k6) (hk _ k7) (hk _ k8) (hk _ k9) (hk _ k10) (hk _ k11) (hk _ k12) (hk _ k13) (hk _ k14) k
theorem doElse (c : Cl) (e : Evt) (h0 : (Evt.node e == 0) = false) (h1 : (Evt.node e == 1) = false) (k : Nat) : orac PP GL XX HH NN (k + 14) 42 [A.agg (Cl.cs c), A.agg (Evt.cs e)] [] = some ([Res.agg (Cl.cs c), Res.top 5 []], []) := by
  exact rt (xa3 (cn h0) <| aa (cn h1) <| trivial) (gs := xg4 gT <| []) (rs := [Res.agg (Cl.cs c), Res.top 5 []]) rfl
theorem do16 {N a m s : Nat} (c : Cl) (e : Evt) (h : ClB N a m s c) (hN : 0 < N) (hN2 : N ≤ 1000) (ha : a ≤ 860) (hm : m ≤ 90000) (hs : s ≤ 90000) (hd : e.data.size ≤ 300) (k : Nat) : orac PP GL XX HH NN (k + 14) 42 [.agg c.cs, .agg e.cs] [] = some (Rc (doM c e)) := by
  obtain ⟨kind, node, id, block, data, g, keeps⟩ := e
  rcases two_cases node with rfl | rfl | ⟨h0, h1⟩
  · exact do16_0 c h hN hN2 ha hm hs kind id block g data keeps hd k
  · exact do16_1 c h hN hN2 ha hm hs kind id block g data keeps hd k
  · have e : doM c ⟨kind, node, id, block, data, g, keeps⟩ = (c, []) := by
      unfold doM
      simp only [h0, h1, Bool.not_false, Bool.and_self, cond_true]
    rw [e]
    exact doElse c ⟨kind, node, id, block, data, g, keeps⟩ h0 h1 k
end Go.Dm
namespace Go.Dm
open Go
def Spl (l : List Evt) (c0 : List (List C)) (c1 : Int) (c2 : Cl) : St := St.mk (T.hole :: tc (C.slice 7 (List.map Evt.cs l)) :: T.k (K.v (V.ptr 0 0)) :: T.hole :: T.k (K.v (V.ptr 1 0)) :: T.hole :: T.k (K.v (V.own 5 c0 (Tk.tok 0))) :: tc (ii c1) :: hs 23 []) [List.map V.c (Cl.cs c2), [V.c (ii 0), V.c (bo false), V.own 1 [] Tk.exact, V.own 2 [] Tk.exact, V.c (ii 0), V.c (bo false), V.c (ii 0), V.c (u 0), V.c (u 0), V.c (u 0), V.c (u 0), V.c (bo false), V.c (bo false), V.c (bo false), V.c (w4 0), V.c (bo false), V.c (ii 0), V.c (u 0), V.c (ii 0), V.c (u 0), V.c (u 0), V.c (u 0), V.c (u 0), V.c (bo false), V.c (bo false), V.c (bo false), V.c (bo false), V.c (w4 0), V.c (bo false), V.c (bo false), V.c (ii 0), V.c (ii 0), V.c (st ⟨#[]⟩), V.c (bo false), V.c (ii 0), V.c (ii 0), V.c (bo false), V.own 1 [] Tk.exact, V.own 3 [] Tk.exact, V.c (ii 0), V.c (bo false), V.own 1 [] Tk.exact, V.own 2 [] Tk.exact, V.c (ii 0), V.c (bo false), V.c (ii 0), V.c (u 0), V.c (u 0), V.c (u 0), V.c (u 0), V.c (bo false), V.c (bo false), V.c (bo false), V.c (w4 0), V.c (bo false), V.c (ii 0), V.c (u 0), V.c (ii 0), V.c (u 0), V.c (u 0), V.c (u 0), V.c (u 0), V.c (bo false), V.c (bo false), V.c (bo false), V.c (bo false), V.c (w4 0), V.c (bo false), V.c (bo false), V.c (ii 0), V.c (ii 0), V.c (st ⟨#[]⟩), V.c (bo false), V.c (ii 0), V.c (ii 0), V.c (bo false), V.own 1 [] Tk.exact, V.own 3 [] Tk.exact, V.c (bo false), V.c (u 0), V.own 1 [] Tk.exact, V.own 1 [] Tk.exact, V.c (bo false), V.c (bo false)]] [c0.length]
theorem bpl_0 (l : List Evt) (out : List Ou) (i : Nat) (c : Cl) (x : Evt) (c2 : Cl) (o2 : List Ou) (hx : l[i]? = some x) (ho : out.length ≤ 100000) (ho2 : o2.length ≤ 100) (hD : ∀ k, orac PP GL XX HH NN (k + 15) 42 [A.agg (Cl.cs c), A.agg (Evt.cs x)] [] = some ([Res.agg (Cl.cs c2), Res.top 5 (List.map Ou.cs o2)], [])) (k : Nat) (z0 : (decide ((↑i : Int) < (↑(l.length) : Int))) = true) : NextIs (EE (k + 15)) (HH 30) NN (LB PP 30 3) 2 1 (Spl l (List.map Ou.cs out) (↑i : Int) c) (Spl l (List.map Ou.cs (out ++ o2)) (IntKind.wrap .i64 ((↑i : Int) + 1)) c2) :=
  next_run (aa (map_len (Evt.cs) (l)) <| aa z0 <| aa (rfl : (↑i : Int) = (↑i : Int)) <| aa (map_get (f := Evt.cs) hx) <| aa (hD k) <| aa (map_app (Ou.cs) (out) (o2)) <| aa (len_map (Ou.cs) (l := out ++ o2) (n := 1073741824) (by simp only [vr1, vr2, vr3, vr4, vr5, vr6]; omega)) <| aa (Eq.refl (List.length (List.map Ou.cs out))) <| trivial) (gs := [G.len (l.length), gT, G.idx i [ii x.kind, ii x.node, ii x.id, ii x.block, st x.data, u x.n, C.slice 1 (List.map eB x.keeps)], G.call [Res.agg (Cl.cs c2), Res.top 5 (List.map Ou.cs o2)] [], G.app (List.map Ou.cs (out ++ o2))]) (by kernel_rfl)
def bpl_s1 (l : List Evt) (out : List Ou) (i : Nat) (c : Cl) : St := St.mk (T.hole :: tc (C.slice 7 (List.map Evt.cs l)) :: T.k (K.v (V.ptr 0 0)) :: T.hole :: T.k (K.v (V.ptr 1 0)) :: T.hole :: T.k (K.v (V.own 5 (List.map Ou.cs out) (Tk.tok 0))) :: tc (ii (↑i : Int)) :: T.hole :: T.hole :: tc (ii (↑i : Int)) :: tc (C.slice 7 (List.map Evt.cs l)) :: tc (ii (↑(l.length) : Int)) :: tc (bo (decide ((↑i : Int) < (↑(l.length) : Int)))) :: hs 17 []) [[V.c (ii c.n0.id), V.c (bo c.n0.up), V.c (C.slice 1 (List.map eS c.n0.store.disk.sure)), V.c (C.slice 2 (List.map Wr.cs c.n0.store.disk.cache)), V.c (ii c.n0.store.disk.fuse), V.c (bo c.n0.store.disk.dead), V.c (ii c.n0.store.super.blocks), V.c (u c.n0.store.super.v.cur), V.c (u c.n0.store.super.v.bit), V.c (u c.n0.store.super.v.o0), V.c (u c.n0.store.super.v.o1), V.c (bo c.n0.store.super.inc), V.c (bo c.n0.store.super.pri), V.c (bo c.n0.store.super.dis), V.c (w4 (mi c.n0.store.mask)), V.c (bo c.n0.primary), V.c (ii c.n0.state), V.c (u c.n0.ses), V.c (ii c.n0.peer.blocks), V.c (u c.n0.peer.v.cur), V.c (u c.n0.peer.v.bit), V.c (u c.n0.peer.v.o0), V.c (u c.n0.peer.v.o1), V.c (bo c.n0.peer.inc), V.c (bo c.n0.peer.was), V.c (bo c.n0.peer.dis), V.c (bo c.n0.peer.pri), V.c (w4 (mi c.n0.peer.mask)), V.c (bo c.n0.peerPri), V.c (bo c.n0.req.on), V.c (ii c.n0.req.id), V.c (ii c.n0.req.block), V.c (st c.n0.req.data), V.c (bo c.n0.asking), V.c (ii c.n0.askId), V.c (ii c.n0.wanted), V.c (bo c.n0.minted), V.c (C.slice 1 (List.map eU c.n0.draws)), V.c (C.slice 3 (List.map Mi.cs c.n0.mints)), V.c (ii c.n1.id), V.c (bo c.n1.up), V.c (C.slice 1 (List.map eS c.n1.store.disk.sure)), V.c (C.slice 2 (List.map Wr.cs c.n1.store.disk.cache)), V.c (ii c.n1.store.disk.fuse), V.c (bo c.n1.store.disk.dead), V.c (ii c.n1.store.super.blocks), V.c (u c.n1.store.super.v.cur), V.c (u c.n1.store.super.v.bit), V.c (u c.n1.store.super.v.o0), V.c (u c.n1.store.super.v.o1), V.c (bo c.n1.store.super.inc), V.c (bo c.n1.store.super.pri), V.c (bo c.n1.store.super.dis), V.c (w4 (mi c.n1.store.mask)), V.c (bo c.n1.primary), V.c (ii c.n1.state), V.c (u c.n1.ses), V.c (ii c.n1.peer.blocks), V.c (u c.n1.peer.v.cur), V.c (u c.n1.peer.v.bit), V.c (u c.n1.peer.v.o0), V.c (u c.n1.peer.v.o1), V.c (bo c.n1.peer.inc), V.c (bo c.n1.peer.was), V.c (bo c.n1.peer.dis), V.c (bo c.n1.peer.pri), V.c (w4 (mi c.n1.peer.mask)), V.c (bo c.n1.peerPri), V.c (bo c.n1.req.on), V.c (ii c.n1.req.id), V.c (ii c.n1.req.block), V.c (st c.n1.req.data), V.c (bo c.n1.asking), V.c (ii c.n1.askId), V.c (ii c.n1.wanted), V.c (bo c.n1.minted), V.c (C.slice 1 (List.map eU c.n1.draws)), V.c (C.slice 3 (List.map Mi.cs c.n1.mints)), V.c (bo c.link.up), V.c (u c.link.ses), V.c (C.slice 1 (List.map eS c.link.to0)), V.c (C.slice 1 (List.map eS c.link.to1)), V.c (bo c.w0), V.c (bo c.w1)], [V.c (ii 0), V.c (bo false), V.own 1 [] Tk.exact, V.own 2 [] Tk.exact, V.c (ii 0), V.c (bo false), V.c (ii 0), V.c (u 0), V.c (u 0), V.c (u 0), V.c (u 0), V.c (bo false), V.c (bo false), V.c (bo false), V.c (w4 0), V.c (bo false), V.c (ii 0), V.c (u 0), V.c (ii 0), V.c (u 0), V.c (u 0), V.c (u 0), V.c (u 0), V.c (bo false), V.c (bo false), V.c (bo false), V.c (bo false), V.c (w4 0), V.c (bo false), V.c (bo false), V.c (ii 0), V.c (ii 0), V.c (st ⟨#[]⟩), V.c (bo false), V.c (ii 0), V.c (ii 0), V.c (bo false), V.own 1 [] Tk.exact, V.own 3 [] Tk.exact, V.c (ii 0), V.c (bo false), V.own 1 [] Tk.exact, V.own 2 [] Tk.exact, V.c (ii 0), V.c (bo false), V.c (ii 0), V.c (u 0), V.c (u 0), V.c (u 0), V.c (u 0), V.c (bo false), V.c (bo false), V.c (bo false), V.c (w4 0), V.c (bo false), V.c (ii 0), V.c (u 0), V.c (ii 0), V.c (u 0), V.c (u 0), V.c (u 0), V.c (u 0), V.c (bo false), V.c (bo false), V.c (bo false), V.c (bo false), V.c (w4 0), V.c (bo false), V.c (bo false), V.c (ii 0), V.c (ii 0), V.c (st ⟨#[]⟩), V.c (bo false), V.c (ii 0), V.c (ii 0), V.c (bo false), V.own 1 [] Tk.exact, V.own 3 [] Tk.exact, V.c (bo false), V.c (u 0), V.own 1 [] Tk.exact, V.own 1 [] Tk.exact, V.c (bo false), V.c (bo false)]] [List.length (List.map Ou.cs out)]
theorem bpl_1 (l : List Evt) (out : List Ou) (i : Nat) (c : Cl) (k : Nat) (z0 : (decide ((↑i : Int) < (↑(l.length) : Int))) = false) : OutIs (EE (k + 15)) (HH 30) NN (LB PP 30 3) (Spl l (List.map Ou.cs out) (↑i : Int) c) (Ext.exit 0) (bpl_s1 l out i c) :=
  out_run (aa (map_len (Evt.cs) (l)) <| aa z0 <| trivial) (gs := [G.len (l.length), gF]) (by kernel_rfl)
abbrev plStep (x : Cl × List Ou) (e : Evt) : Cl × List Ou := ((doM x.1 e).1, x.2 ++ (doM x.1 e).2)
theorem Lpl {N a m s : Nat} (c : Cl) (l : List Evt) (h : ClB N a m s c) (hN : 0 < N) (hN2 : N ≤ 1000) (ha : a + 4 * l.length ≤ 860) (hm : m + l.length ≤ 90000) (hs : s + 6 * l.length ≤ 90000) (hd : ∀ e ∈ l, e.data.size ≤ 300) (k : Nat) : LoopAt (EE (k + 15)) (HH 30) NN (LB PP 30 3) (Spl l [] 0 c) (.exit 0) (bpl_s1 l (playM c l).2 l.length (playM c l).1) := by
  refine fold_loop (E := EE (k + 15)) (fun (x : Cl × List Ou) (i : Nat) => Spl l (x.2.map Ou.cs) (i : Nat) x.1) (fun i x => ClB N (a + 4 * i) (m + i) (s + 6 * i) x.1 ∧ x.2.length ≤ 18 * i) l plStep (c, []) (nv := 2) (nt := 1) (e := .exit 0) (t := fun x => bpl_s1 l x.2 l.length x.1) rfl (by kernel_rfl) (by kernel_rfl) ⟨h, Nat.le_refl _⟩ (fun x i e hx hp => ?_) (fun hp => bpl_1 l _ _ _ k dge) (by unfold NN; omega)
  obtain ⟨c1, out⟩ := x
  obtain ⟨p1, p2⟩ := hp
  simp only at p1 p2
  have hlt := lt_of_get hx
  have hw := w64g hx (by omega)
  have hb := doM_b p1 e
  have hl := hb.2.1
  refine ⟨?_, hb.1, ?_⟩
  · have := bpl_0 l out i c1 e (doM c1 e).1 (doM c1 e).2 hx (by omega) (by omega) (fun k => do16 c1 e p1 hN hN2 (by omega) (by omega) (by omega) (hd e (List.mem_of_getElem? hx)) (k + 1)) k (dlt hx)
    rwa [hw] at this
  · simp only [List.length_append]; omega
theorem playF (c : Cl) (l : List Evt) (c3 : Cl) (out : List Ou) (ho : out.length ≤ 100000) (hL : ∀ k, LoopAt (EE (k + 15)) (HH 30) NN (LB PP 30 3) (Spl l [] 0 c) (Ext.exit 0) (bpl_s1 l out (l.length) c3)) (k : Nat) : orac PP GL XX HH NN (k + 16) 30 [A.agg (Cl.cs c), A.c (C.slice 7 (List.map Evt.cs l))] [] = some ([Res.agg (Cl.cs c3), Res.top 5 (List.map Ou.cs out)], []) := by
  exact rt (aa (hL k) <| aa (Eq.refl (List.length (List.map Ou.cs out))) <| trivial) (gs := [G.loop (Ext.exit 0) (bpl_s1 l out (l.length) c3)]) (rs := [Res.agg (Cl.cs c3), Res.top 5 (List.map Ou.cs out)]) rfl
theorem play16n (c : Cl) (k : Nat) : orac PP GL XX HH NN (k + 16) 30 [A.agg (Cl.cs c), A.nil] [] = some ([Res.agg (Cl.cs c), Res.top 5 []], []) := by
  exact rt (aa (rfl : (0 : Nat) = (0 : Nat)) <| aa ff <| aa ((rfl : (0 : Nat) = (0 : Nat))).symm <| trivial) (gs := [G.un, G.len 0, gF]) (rs := [Res.agg (Cl.cs c), Res.top 5 []]) rfl
theorem playM_out {N : Nat} : ∀ (l : List Evt) {a m s : Nat} {c : Cl}, ClB N a m s c → (playM c l).2.length ≤ 18 * l.length
  | l, a, m, s, c, h => by
    have key : ∀ (l : List Evt) {a m s : Nat} (x : Cl × List Ou), ClB N a m s x.1 → (l.foldl plStep x).2.length ≤ x.2.length + 18 * l.length := by
      intro l
      induction l with
      | nil => intro a m s x h; exact Nat.le_refl _
      | cons e l ih =>
        intro a m s x h
        rw [List.foldl_cons]
        have hb := doM_b h e
        have := ih (plStep x e) hb.1
        have h2 := hb.2.1
        simp only [List.length_append, List.length_cons] at this ⊢
        omega
    have := key l (c, []) h
    simp only [List.length_nil, Nat.zero_add] at this
    exact this
theorem play16 {N a m s : Nat} (c : Cl) (l : List Evt) (h : ClB N a m s c) (hN : 0 < N) (hN2 : N ≤ 1000) (ha : a + 4 * l.length ≤ 860) (hm : m + l.length ≤ 90000) (hs : s + 6 * l.length ≤ 90000) (hd : ∀ e ∈ l, e.data.size ≤ 300) (k : Nat) : orac PP GL XX HH NN (k + 16) 30 [.agg c.cs, .c (.slice 7 (l.map Evt.cs))] [] = some (Rc (playM c l)) := by
  have ho := playM_out l h
  exact playF c l _ _ (by omega) (fun k => Lpl c l h hN hN2 ha hm hs hd k) k
def newM (n : Nat) : Cl := ⟨(nattachM (freshN 0 (formatM n 7)) []).1, (nattachM (freshN 1 (formatM n 7)) []).1, lk0, false, false⟩
theorem format_ok (n : Nat) (h1 : suRight (freshS n 7) = true) : DkOk (n + 2) (formatM n 7) := by
  refine ⟨by simp [formatM], fun s hs => ?_, fun w hw => by cases hw⟩
  simp only [formatM, List.mem_append, List.mem_cons, List.not_mem_nil, or_false, List.mem_replicate] at hs
  rcases hs with (rfl | rfl) | ⟨_, rfl⟩
  · have : (suEnc (freshS n 7)).1 = sealM (suBytes (freshS n 7)) := by unfold suEnc; rw [h1]; rfl
    rw [this, sealM_size, suBytes_size]
    decide
  · rw [sealM_size, put4_size]; decide
  · decide
theorem fresh_b (n : Nat) (i : Int) (h1 : suRight (freshS n 7) = true) : NdB (n + 2) 0 0 (freshN i (formatM n 7)) := ⟨format_ok n h1, Nat.zero_le _, Nat.zero_le _⟩
theorem new_b (n : Nat) (h1 : suRight (freshS n 7) = true) : ClB (n + 2) 0 0 0 (newM n) := ⟨(fresh_b n 0 h1).nw (nattachM_nw _ _), (fresh_b n 1 h1).nw (nattachM_nw _ _), LkB.none _ _ _⟩
theorem new16 (n : Nat) (h1 : suRight (freshS n 7) = true) (hn : n ≤ 900) (hF : ∀ k, orac PP GL XX HH NN (k + 9) 71 [.c (ii (n : Int)), .c (u 7)] [] = some ([.agg (formatM n 7).cs, .c (ii 0)], [])) (k : Nat) : orac PP GL XX HH NN (k + 10) 49 [.c (ii (n : Int)), .c (u 7)] [] = some ([.agg (newM n).cs, .c (ii 0)], []) :=
  new16F n 7 (formatM n 7) _ _ _ _ hF (fun k => by
    have := nattach16n (freshN 0 (formatM n 7)) (fresh_b n 0 h1) (by omega) (by omega) (by omega) k
    rw [fresh_cs] at this
    exact this) (fun k => by
    have := nattach16n (freshN 1 (formatM n 7)) (fresh_b n 1 h1) (by omega) (by omega) (by omega) k
    rw [fresh_cs] at this
    exact this) k
theorem suOk (n : Nat) (h : n = 1 ∨ n = 2 ∨ n = 3 ∨ n = 4) : suRight (freshS n 7) = true := by
  rcases h with rfl | rfl | rfl | rfl <;> decide
theorem suOk2 (n : Nat) (h : n = 1 ∨ n = 2 ∨ n = 3 ∨ n = 4) : ((suEnc (freshS n 7)).2 == 0) = true := by
  unfold suEnc
  rw [suOk n h]
  rfl
theorem new16n (n : Nat) (h : n = 1 ∨ n = 2 ∨ n = 3 ∨ n = 4) (k : Nat) : orac PP GL XX HH NN (k + 10) 49 [.c (ii (n : Int)), .c (u 7)] [] = some ([.agg (newM n).cs, .c (ii 0)], []) := by
  refine new16 n (suOk n h) (by omega) (fun k => ?_) k
  have h2 := suOk2 n h
  rcases h with rfl | rfl | rfl | rfl
  · exact format1 7 h2 (fun k => suEnc6 (freshS 1 7) k) (k + 3)
  · exact format2 7 h2 (fun k => suEnc6 (freshS 2 7) k) (k + 3)
  · exact format3 7 h2 (fun k => suEnc6 (freshS 3 7) k) (k + 3)
  · exact format4 7 h2 (fun k => suEnc6 (freshS 4 7) k) (k + 3)
abbrev blocksOf (b : Int) : Int := IntKind.wrap .i64 (1 + IntKind.wrap .i64 (b.tmod 4))
theorem reachF (b : Int) (l : List Evt) (c : Cl) (c2 : Cl) (o : List Ou) (hN : ∀ k, orac PP GL XX HH NN (k + 16) 49 [A.c (ii (blocksOf b)), A.c (u 7)] [] = some ([Res.agg (Cl.cs c), Res.c (ii 0)], [])) (hP : ∀ k, orac PP GL XX HH NN (k + 16) 30 [A.agg (Cl.cs c), A.c (C.slice 7 (List.map Evt.cs l))] [] = some ([Res.agg (Cl.cs c2), Res.top 5 (List.map Ou.cs o)], [])) (k : Nat) : orac PP GL XX HH NN (k + 17) 29 [A.c (by8 b), A.c (C.slice 7 (List.map Evt.cs l))] [] = some ([Res.agg (Cl.cs c2)], []) := by
  exact rt (aa (show (4 : Int) ≠ (0 : Int) from by decide) <| aa (first16 (k + 15)) <| aa (hN k) <| aa (hP k) <| trivial) (gs := [G.ok, G.call [Res.c (u 7)] [], G.call [Res.agg (Cl.cs c), Res.c (ii 0)] [], G.call [Res.agg (Cl.cs c2), Res.top 5 (List.map Ou.cs o)] []]) (rs := [Res.agg (Cl.cs c2)]) rfl
theorem reachN (b : Int) (c : Cl) (hN : ∀ k, orac PP GL XX HH NN (k + 16) 49 [A.c (ii (blocksOf b)), A.c (u 7)] [] = some ([Res.agg (Cl.cs c), Res.c (ii 0)], [])) (k : Nat) : orac PP GL XX HH NN (k + 17) 29 [A.c (by8 b), A.nil] [] = some ([Res.agg (Cl.cs c)], []) := by
  exact rt (aa (show (4 : Int) ≠ (0 : Int) from by decide) <| aa (first16 (k + 15)) <| aa (hN k) <| aa (play16n c k) <| trivial) (gs := [G.ok, G.call [Res.c (u 7)] [], G.call [Res.agg (Cl.cs c), Res.c (ii 0)] [], G.call [Res.agg (Cl.cs c), Res.top 5 []] []]) (rs := [Res.agg (Cl.cs c)]) rfl
def blocksN (b : Int) : Nat := (b.tmod 4).toNat + 1
theorem blocks_four (b : Int) (h : 0 ≤ b) : blocksN b = 1 ∨ blocksN b = 2 ∨ blocksN b = 3 ∨ blocksN b = 4 := by
  unfold blocksN
  have h1 := Int.tmod_nonneg 4 h
  have h2 := Int.tmod_lt_of_pos b (show (0 : Int) < 4 by decide)
  omega
theorem blocks_eq (b : Int) (h : 0 ≤ b) : blocksOf b = (blocksN b : Int) := by
  unfold blocksOf blocksN
  have h1 := Int.tmod_nonneg 4 h
  have h2 := Int.tmod_lt_of_pos b (show (0 : Int) < 4 by decide)
  rw [wrap_i64 (x := b.tmod 4) (by omega) (by omega), wrap_i64 (by omega) (by omega)]
  omega
def reachM (b : Int) (l : List Evt) : Cl := (playM (newM (blocksN b)) l).1
theorem reach16 (b : Int) (hb : 0 ≤ b) (l : List Evt) (hl : l.length ≤ 200) (hd : ∀ e ∈ l, e.data.size ≤ 300) (k : Nat) : orac PP GL XX HH NN (k + 17) 29 [.c (by8 b), .c (.slice 7 (l.map Evt.cs))] [] = some ([.agg (reachM b l).cs], []) := by
  have h4 := blocks_four b hb
  exact reachF b l _ _ (playM (newM (blocksN b)) l).2 (fun k => by rw [blocks_eq b hb]; exact new16n _ h4 (k + 6)) (fun k => play16 (newM (blocksN b)) l (new_b _ (suOk _ h4)) (by omega) (by omega) (by omega) (by omega) (by omega) hd k) k
theorem reach16n (b : Int) (hb : 0 ≤ b) (k : Nat) : orac PP GL XX HH NN (k + 17) 29 [.c (by8 b), .nil] [] = some ([.agg (reachM b []).cs], []) := by
  have h4 := blocks_four b hb
  exact reachN b _ (fun k => by rw [blocks_eq b hb]; exact new16n _ h4 (k + 6)) k
theorem reach_b (b : Int) (hb : 0 ≤ b) (l : List Evt) : ClB (blocksN b + 2) (4 * l.length) l.length (6 * l.length) (reachM b l) := by
  have := playM_b l (new_b _ (suOk _ (blocks_four b hb)))
  exact this.le (by omega) (by omega) (by omega)
end Go.Dm
namespace Go.Dm
open Go
theorem parents (l : List Mi) (hl : l.length ≤ 100000) (k : Nat) : orac PP GL XX HH NN (k + 1) 53 [.c (.slice 3 (l.map Mi.cs))] [] = some ([.c (.map (encM (par l)))], []) := by
  rw [orac_tab (h := parTab) rfl]
  unfold parTab
  have : (l.map Mi.cs).length ≤ 1000000 := by rw [List.length_map]; omega
  have e : (l.map Mi.cs).mapM miOf = some l := mapM_mints l
  simp only [true_or, true_and, this, if_true, e]
  rfl
theorem growMi (n : Int) (hn : 0 ≤ n ∧ n ≤ 1000000) (k : Nat) : orac PP GL XX HH NN (k + 1) 50 [.nil, .c (ii n)] [] = some ([.top 3 []], []) := by
  rw [orac_tab (h := growTab 3) rfl]
  unfold growTab
  simp only [hn, and_self, if_true]
theorem concat0 (a : List Mi) (b : List Mi) (h0 : a.length ≤ 1000000) (h1 : b.length ≤ 1000000) (w1 : decide (IntKind.wrap .i64 (0 + (↑(a.length) : Int)) < 0) = false) (w2 : decide (IntKind.wrap .i64 (IntKind.wrap .i64 (0 + (↑(a.length) : Int)) + (↑(b.length) : Int)) < 0) = false) (w3 : (0 : Int) ≤ IntKind.wrap .i64 (IntKind.wrap .i64 (0 + (↑(a.length) : Int)) + (↑(b.length) : Int)) ∧ IntKind.wrap .i64 (IntKind.wrap .i64 (0 + (↑(a.length) : Int)) + (↑(b.length) : Int)) ≤ 1000000) (k : Nat) : orac PP GL XX HH NN (k + 2) 31 [A.c (C.slice 1 [[C.slice 3 (List.map Mi.cs a)], [C.slice 3 (List.map Mi.cs b)]])] [] = some ([Res.top 3 (List.map Mi.cs (a ++ b))], []) := by
  exact rt (aa (rfl : (2 : Nat) = (2 : Nat)) <| aa tt <| aa (rfl : (0 : Int) = (0 : Int)) <| aa (rfl : some ([C.slice 3 (List.map Mi.cs a)]) = some ([C.slice 3 (List.map Mi.cs a)])) <| aa (map_len (Mi.cs) (a)) <| aa w1 <| aa tt <| aa (rfl : (1 : Int) = (1 : Int)) <| aa (rfl : some ([C.slice 3 (List.map Mi.cs b)]) = some ([C.slice 3 (List.map Mi.cs b)])) <| aa (map_len (Mi.cs) (b)) <| aa w2 <| aa ff <| aa (growMi (IntKind.wrap .i64 (IntKind.wrap .i64 (0 + (↑(a.length) : Int)) + (↑(b.length) : Int))) w3 k) <| aa (rfl : (2 : Nat) = (2 : Nat)) <| aa tt <| aa (rfl : (0 : Int) = (0 : Int)) <| aa (rfl : some ([C.slice 3 (List.map Mi.cs a)]) = some ([C.slice 3 (List.map Mi.cs a)])) <| aa (nil_app (List.map Mi.cs a)) <| aa (len_map (Mi.cs) (l := a) (n := 1073741824) (by omega)) <| aa ((rfl : (0 : Nat) = (0 : Nat))).symm <| aa tt <| aa (rfl : (1 : Int) = (1 : Int)) <| aa (rfl : some ([C.slice 3 (List.map Mi.cs b)]) = some ([C.slice 3 (List.map Mi.cs b)])) <| aa (map_app (Mi.cs) (a) (b)) <| aa (len_map (Mi.cs) (l := a ++ b) (n := 1073741824) (by simp only [vr1, vr2, vr3, vr4, vr5, vr6]; omega)) <| aa (Eq.refl (List.length (List.map Mi.cs a))) <| aa ff <| aa (Eq.refl (List.length (List.map Mi.cs (a ++ b)))) <| trivial) (gs := xc (G.len 2) <| xc G.un <| xc gT <| xc (G.idx 0 [C.slice 3 (List.map Mi.cs a)]) <| xc (G.len (a.length)) <| xc gF <| xc gT <| xc (G.idx 1 [C.slice 3 (List.map Mi.cs b)]) <| xc (G.len (b.length)) <| xg2 gF <| [G.call [Res.top 3 []] [], G.len 2, G.un, gT, G.idx 0 [C.slice 3 (List.map Mi.cs a)], G.app (List.map Mi.cs a), gT, G.idx 1 [C.slice 3 (List.map Mi.cs b)], G.app (List.map Mi.cs (a ++ b)), gF]) (rs := [Res.top 3 (List.map Mi.cs (a ++ b))]) rfl
theorem concatMi (a b : List Mi) (h : a.length + b.length ≤ 1000000) (k : Nat) : orac PP GL XX HH NN (k + 2) 31 [.c (.slice 1 [[.slice 3 (a.map Mi.cs)], [.slice 3 (b.map Mi.cs)]])] [] = some ([.top 3 ((a ++ b).map Mi.cs)], []) := by
  have e1 : IntKind.wrap .i64 (0 + (a.length : Int)) = a.length := by rw [wrap_i64 (by omega) (by omega)]; omega
  have e2 : IntKind.wrap .i64 (IntKind.wrap .i64 (0 + (a.length : Int)) + (b.length : Int)) = a.length + b.length := by rw [e1, wrap_i64 (by omega) (by omega)]
  exact concat0 a b (by omega) (by omega) (by rw [e1]; exact decide_eq_false (by omega)) (by rw [e2]; exact decide_eq_false (by omega)) (by rw [e2]; omega) k
def Sha (l : List Int) (g : Int) (c0 : Int) : St := St.mk (tc (C.slice 1 (List.map eU l)) :: tc (u g) :: T.hole :: T.hole :: T.hole :: tc (ii c0) :: hs 12 []) [] []
def bha_s0 (l : List Int) (g : Int) (i : Nat) (x : Int) : St := St.mk [tc (C.slice 1 (List.map eU l)), tc (u g), T.hole, T.hole, tc (bo true), tc (ii (↑i : Int)), tc (ii (↑i : Int)), tc (C.slice 1 (List.map eU l)), tc (ii (↑(l.length) : Int)), tc (bo (decide ((↑i : Int) < (↑(l.length) : Int)))), T.hole, T.hole, tc (C.slice 1 (List.map eU l)), tc (ii (↑i : Int)), tc (C.rptr [u x]), tc (u x), tc (u g), tc (bo (x == g))] [] []
theorem bha_0 (l : List Int) (g : Int) (i : Nat) (x : Int) (hx : l[i]? = some x) (k : Nat) (z0 : (decide ((↑i : Int) < (↑(l.length) : Int))) = true) (z1 : (x == g) = true) : OutIs (EE (k + 1)) (HH 52) NN (LB PP 52 2) (Sha l g (↑i : Int)) (Ext.ret) (bha_s0 l g i x) :=
  out_run (aa (map_len (eU) (l)) <| aa z0 <| aa (rfl : (↑i : Int) = (↑i : Int)) <| aa (map_get (f := eU) hx) <| aa z1 <| trivial) (gs := [G.len (l.length), gT, G.idx i [u x], gT]) (by kernel_rfl)
theorem bha_1 (l : List Int) (g : Int) (i : Nat) (x : Int) (hx : l[i]? = some x) (k : Nat) (z0 : (decide ((↑i : Int) < (↑(l.length) : Int))) = true) (z1 : (x == g) = false) : NextIs (EE (k + 1)) (HH 52) NN (LB PP 52 2) 0 0 (Sha l g (↑i : Int)) (Sha l g (IntKind.wrap .i64 ((↑i : Int) + 1))) :=
  next_run (aa (map_len (eU) (l)) <| aa z0 <| aa (rfl : (↑i : Int) = (↑i : Int)) <| aa (map_get (f := eU) hx) <| aa z1 <| trivial) (gs := [G.len (l.length), gT, G.idx i [u x], gF]) (by kernel_rfl)
def bha_s2 (l : List Int) (g : Int) (i : Nat) : St := St.mk (tc (C.slice 1 (List.map eU l)) :: tc (u g) :: T.hole :: T.hole :: T.hole :: tc (ii (↑i : Int)) :: tc (ii (↑i : Int)) :: tc (C.slice 1 (List.map eU l)) :: tc (ii (↑(l.length) : Int)) :: tc (bo (decide ((↑i : Int) < (↑(l.length) : Int)))) :: hs 8 []) [] []
theorem bha_2 (l : List Int) (g : Int) (i : Nat) (k : Nat) (z0 : (decide ((↑i : Int) < (↑(l.length) : Int))) = false) : OutIs (EE (k + 1)) (HH 52) NN (LB PP 52 2) (Sha l g (↑i : Int)) (Ext.exit 0) (bha_s2 l g i) :=
  out_run (aa (map_len (eU) (l)) <| aa z0 <| trivial) (gs := [G.len (l.length), gF]) (by kernel_rfl)
theorem haF1 (l : List Int) (g : Int) (i : Nat) (x : Int) (hL : ∀ k, LoopAt (EE (k + 1)) (HH 52) NN (LB PP 52 2) (Sha l g 0) Ext.ret (bha_s0 l g i x)) (k : Nat) : orac PP GL XX HH NN (k + 2) 52 [A.c (C.slice 1 (List.map eU l)), A.c (u g)] [] = some ([Res.c (bo true)], []) := by
  exact rt (aa (hL k) <| trivial) (gs := [G.loop Ext.ret (bha_s0 l g i x)]) (rs := [Res.c (bo true)]) rfl
theorem haF2 (l : List Int) (g : Int) (hL : ∀ k, LoopAt (EE (k + 1)) (HH 52) NN (LB PP 52 2) (Sha l g 0) (Ext.exit 0) (bha_s2 l g (l.length))) (k : Nat) : orac PP GL XX HH NN (k + 2) 52 [A.c (C.slice 1 (List.map eU l)), A.c (u g)] [] = some ([Res.c (bo false)], []) := by
  exact rt (aa (hL k) <| trivial) (gs := [G.loop (Ext.exit 0) (bha_s2 l g (l.length))]) (rs := [Res.c (bo false)]) rfl
theorem has12 (l : List Int) (g : Int) (hl : l.length ≤ 1000000) (k : Nat) : orac PP GL XX HH NN (k + 2) 52 [.c (.slice 1 (l.map eU)), .c (u g)] [] = some ([.c (bo (l.contains g))], []) := by
  rcases search (E := fun k => EE (k + 1)) (H := HH 52) (n := NN) (b := LB PP 52 2) (fun i => Sha l g (i : Nat)) l (· == g) (fun i x => bha_s0 l g i x) (bha_s2 l g l.length) (nv := 0) (nt := 0) (e := .ret) (e' := .exit 0) (by kernel_rfl) (by kernel_rfl)
    (fun k i x hx hp => by
      have := bha_1 l g i x hx k (dlt hx) hp
      rwa [w64g hx (by omega)] at this)
    (fun k i x hx hp => bha_0 l g i x hx k (dlt hx) hp)
    (fun k => bha_2 l g l.length k dge) (by unfold NN; omega) with ⟨hb, hL⟩ | ⟨hb, i, x, hx, hp, hf, hj, hL⟩
  · rw [← any_contains', hb]; exact haF2 l g hL k
  · rw [← any_contains', hb]; exact haF1 l g i x hL k
def Spa (l : List Mi) (g : Int) (c0 : Int) : St := St.mk (tc (C.slice 3 (List.map Mi.cs l)) :: tc (u g) :: T.hole :: T.hole :: T.hole :: tc (ii c0) :: hs 18 []) [] []
def bpa_s0 (l : List Mi) (g : Int) (i : Nat) (x : Mi) : St := St.mk [tc (C.slice 3 (List.map Mi.cs l)), tc (u g), T.hole, T.hole, tc (u x.p), tc (ii (↑i : Int)), tc (ii (↑i : Int)), tc (C.slice 3 (List.map Mi.cs l)), tc (ii (↑(l.length) : Int)), tc (bo (decide ((↑i : Int) < (↑(l.length) : Int)))), T.hole, T.hole, tc (C.slice 3 (List.map Mi.cs l)), tc (ii (↑i : Int)), tc (C.rptr [u x.g, u x.p, ii x.n]), tc (C.rptr [u x.g, u x.p, ii x.n]), tc (u x.g), tc (u g), tc (bo (Mi.g x == g)), tc (C.slice 3 (List.map Mi.cs l)), tc (ii (↑i : Int)), tc (C.rptr [u x.g, u x.p, ii x.n]), tc (C.rptr [u x.p, ii x.n]), tc (u x.p)] [] []
theorem bpa_0 (l : List Mi) (g : Int) (i : Nat) (x : Mi) (hx : l[i]? = some x) (k : Nat) (z0 : (decide ((↑i : Int) < (↑(l.length) : Int))) = true) (z1 : (Mi.g x == g) = true) : OutIs (EE (k + 1)) (HH 54) NN (LB PP 54 2) (Spa l g (↑i : Int)) (Ext.ret) (bpa_s0 l g i x) :=
  out_run (aa (map_len (Mi.cs) (l)) <| aa z0 <| aa (rfl : (↑i : Int) = (↑i : Int)) <| aa (map_get (f := Mi.cs) hx) <| aa z1 <| aa (rfl : (↑i : Int) = (↑i : Int)) <| aa (map_get (f := Mi.cs) hx) <| trivial) (gs := [G.len (l.length), gT, G.idx i [u x.g, u x.p, ii x.n], gT, G.idx i [u x.g, u x.p, ii x.n]]) (by kernel_rfl)
theorem bpa_1 (l : List Mi) (g : Int) (i : Nat) (x : Mi) (hx : l[i]? = some x) (k : Nat) (z0 : (decide ((↑i : Int) < (↑(l.length) : Int))) = true) (z1 : (Mi.g x == g) = false) : NextIs (EE (k + 1)) (HH 54) NN (LB PP 54 2) 0 0 (Spa l g (↑i : Int)) (Spa l g (IntKind.wrap .i64 ((↑i : Int) + 1))) :=
  next_run (aa (map_len (Mi.cs) (l)) <| aa z0 <| aa (rfl : (↑i : Int) = (↑i : Int)) <| aa (map_get (f := Mi.cs) hx) <| aa z1 <| trivial) (gs := [G.len (l.length), gT, G.idx i [u x.g, u x.p, ii x.n], gF]) (by kernel_rfl)
def bpa_s2 (l : List Mi) (g : Int) (i : Nat) : St := St.mk (tc (C.slice 3 (List.map Mi.cs l)) :: tc (u g) :: T.hole :: T.hole :: T.hole :: tc (ii (↑i : Int)) :: tc (ii (↑i : Int)) :: tc (C.slice 3 (List.map Mi.cs l)) :: tc (ii (↑(l.length) : Int)) :: tc (bo (decide ((↑i : Int) < (↑(l.length) : Int)))) :: hs 14 []) [] []
theorem bpa_2 (l : List Mi) (g : Int) (i : Nat) (k : Nat) (z0 : (decide ((↑i : Int) < (↑(l.length) : Int))) = false) : OutIs (EE (k + 1)) (HH 54) NN (LB PP 54 2) (Spa l g (↑i : Int)) (Ext.exit 0) (bpa_s2 l g i) :=
  out_run (aa (map_len (Mi.cs) (l)) <| aa z0 <| trivial) (gs := [G.len (l.length), gF]) (by kernel_rfl)
theorem paF1 (l : List Mi) (g : Int) (i : Nat) (x : Mi) (hL : ∀ k, LoopAt (EE (k + 1)) (HH 54) NN (LB PP 54 2) (Spa l g 0) Ext.ret (bpa_s0 l g i x)) (k : Nat) : orac PP GL XX HH NN (k + 2) 54 [A.c (C.slice 3 (List.map Mi.cs l)), A.c (u g)] [] = some ([Res.c (u x.p)], []) := by
  exact rt (aa (hL k) <| trivial) (gs := [G.loop Ext.ret (bpa_s0 l g i x)]) (rs := [Res.c (u x.p)]) rfl
theorem paF2 (l : List Mi) (g : Int) (hL : ∀ k, LoopAt (EE (k + 1)) (HH 54) NN (LB PP 54 2) (Spa l g 0) (Ext.exit 0) (bpa_s2 l g (l.length))) (k : Nat) : orac PP GL XX HH NN (k + 2) 54 [A.c (C.slice 3 (List.map Mi.cs l)), A.c (u g)] [] = some ([Res.c (u 0)], []) := by
  exact rt (aa (hL k) <| trivial) (gs := [G.loop (Ext.exit 0) (bpa_s2 l g (l.length))]) (rs := [Res.c (u 0)]) rfl
theorem parent12 (l : List Mi) (g : Int) (hl : l.length ≤ 1000000) (k : Nat) : orac PP GL XX HH NN (k + 2) 54 [.c (.slice 3 (l.map Mi.cs)), .c (u g)] [] = some ([.c (u (parL l g))], []) := by
  rcases search (E := fun k => EE (k + 1)) (H := HH 54) (n := NN) (b := LB PP 54 2) (fun i => Spa l g (i : Nat)) l (·.g == g) (fun i x => bpa_s0 l g i x) (bpa_s2 l g l.length) (nv := 0) (nt := 0) (e := .ret) (e' := .exit 0) (by kernel_rfl) (by kernel_rfl)
    (fun k i x hx hp => by
      have := bpa_1 l g i x hx k (dlt hx) hp
      rwa [w64g hx (by omega)] at this)
    (fun k i x hx hp => bpa_0 l g i x hx k (dlt hx) hp)
    (fun k => bpa_2 l g l.length k dge) (by unfold NN; omega) with ⟨hb, hL⟩ | ⟨hb, i, x, hx, hp, hf, hj, hL⟩
  · have : l.find? (·.g == g) = none := List.find?_eq_none.2 fun x hx => by
      have := List.any_eq_false.1 hb x hx
      simpa using this
    unfold parL
    rw [this]; exact paF2 l g hL k
  · unfold parL
    rw [hf]; exact paF1 l g i x hL k
def Six (l : List Int) (g : Int) (c0 : Int) : St := St.mk (tc (C.slice 1 (List.map eU l)) :: tc (u g) :: hs 5 (tc (ii (↑(l.length) : Int)) :: tc (ii c0) :: hs 10 [])) [] []
def bix_s0 (l : List Int) (g : Int) (i : Nat) (x : Int) : St := St.mk [tc (C.slice 1 (List.map eU l)), tc (u g), T.hole, T.hole, tc (ii (↑i : Int)), tc (ii (↑i : Int)), T.hole, tc (ii (↑(l.length) : Int)), tc (ii (↑i : Int)), tc (bo (decide ((↑i : Int) < (↑(l.length) : Int)))), tc (ii (↑i : Int)), tc (u g), tc (C.slice 1 (List.map eU l)), tc (ii (↑i : Int)), tc (C.rptr [u x]), tc (u x), tc (bo (g == x)), tc (ii (↑i : Int)), T.hole] [] []
theorem bix_0 (l : List Int) (g : Int) (i : Nat) (x : Int) (hx : l[i]? = some x) (k : Nat) (z0 : (decide ((↑i : Int) < (↑(l.length) : Int))) = true) (z1 : (g == x) = true) : OutIs (EE (k + 1)) (HH 36) NN (LB PP 36 2) (Six l g (↑i : Int)) (Ext.ret) (bix_s0 l g i x) :=
  out_run (aa z0 <| aa (rfl : (↑i : Int) = (↑i : Int)) <| aa (map_get (f := eU) hx) <| aa z1 <| trivial) (gs := [gT, G.idx i [u x], gT]) (by kernel_rfl)
theorem bix_1 (l : List Int) (g : Int) (i : Nat) (x : Int) (hx : l[i]? = some x) (k : Nat) (z0 : (decide ((↑i : Int) < (↑(l.length) : Int))) = true) (z1 : (g == x) = false) : NextIs (EE (k + 1)) (HH 36) NN (LB PP 36 2) 0 0 (Six l g (↑i : Int)) (Six l g (IntKind.wrap .i64 ((↑i : Int) + 1))) :=
  next_run (aa z0 <| aa (rfl : (↑i : Int) = (↑i : Int)) <| aa (map_get (f := eU) hx) <| aa z1 <| trivial) (gs := [gT, G.idx i [u x], gF]) (by kernel_rfl)
def bix_s2 (l : List Int) (g : Int) (i : Nat) : St := St.mk (tc (C.slice 1 (List.map eU l)) :: tc (u g) :: hs 5 (tc (ii (↑(l.length) : Int)) :: tc (ii (↑i : Int)) :: tc (bo (decide ((↑i : Int) < (↑(l.length) : Int)))) :: hs 9 [])) [] []
theorem bix_2 (l : List Int) (g : Int) (i : Nat) (k : Nat) (z0 : (decide ((↑i : Int) < (↑(l.length) : Int))) = false) : OutIs (EE (k + 1)) (HH 36) NN (LB PP 36 2) (Six l g (↑i : Int)) (Ext.exit 0) (bix_s2 l g i) :=
  out_run (aa z0 <| trivial) (gs := [gF]) (by kernel_rfl)
theorem ixF1 (l : List Int) (g : Int) (i : Nat) (x : Int) (hL : ∀ k, LoopAt (EE (k + 1)) (HH 36) NN (LB PP 36 2) (Six l g 0) Ext.ret (bix_s0 l g i x)) (k : Nat) : orac PP GL XX HH NN (k + 2) 36 [A.c (C.slice 1 (List.map eU l)), A.c (u g)] [] = some ([Res.c (ii (↑i : Int))], []) := by
  exact rt (aa (map_len (eU) (l)) <| aa (hL k) <| trivial) (gs := [G.len (l.length), G.loop Ext.ret (bix_s0 l g i x)]) (rs := [Res.c (ii (↑i : Int))]) rfl
theorem ixF2 (l : List Int) (g : Int) (hL : ∀ k, LoopAt (EE (k + 1)) (HH 36) NN (LB PP 36 2) (Six l g 0) (Ext.exit 0) (bix_s2 l g (l.length))) (k : Nat) : orac PP GL XX HH NN (k + 2) 36 [A.c (C.slice 1 (List.map eU l)), A.c (u g)] [] = some ([Res.c (ii (-1 : Int))], []) := by
  exact rt (aa (map_len (eU) (l)) <| aa (hL k) <| trivial) (gs := [G.len (l.length), G.loop (Ext.exit 0) (bix_s2 l g (l.length))]) (rs := [Res.c (ii (-1 : Int))]) rfl
theorem index36 (l : List Int) (g : Int) (hl : l.length ≤ 1000000) (k : Nat) : orac PP GL XX HH NN (k + 2) 36 [.c (.slice 1 (l.map eU)), .c (u g)] [] = some ([.c (ii (idxM l g))], []) := by
  rcases search (E := fun k => EE (k + 1)) (H := HH 36) (n := NN) (b := LB PP 36 2) (fun i => Six l g (i : Nat)) l (g == ·) (fun i x => bix_s0 l g i x) (bix_s2 l g l.length) (nv := 0) (nt := 0) (e := .ret) (e' := .exit 0) (by kernel_rfl) (by kernel_rfl)
    (fun k i x hx hp => by
      have := bix_1 l g i x hx k (dlt hx) hp
      rwa [w64g hx (by omega)] at this)
    (fun k i x hx hp => bix_0 l g i x hx k (dlt hx) hp)
    (fun k => bix_2 l g l.length k dge) (by unfold NN; omega) with ⟨hb, hL⟩ | ⟨hb, i, x, hx, hp, hf, hj, hL⟩
  · unfold idxM
    rw [hb]; exact ixF2 l g hL k
  · unfold idxM
    rw [hb, idx_hit hx hp hj]; exact ixF1 l g i x hL k
theorem cont0 (l : List Int) (g : Int) (hl : l.length ≤ 1000000) (k : Nat) : orac PP GL XX HH NN (k + 3) 51 [A.c (C.slice 1 (List.map eU l)), A.c (u g)] [] = some ([Res.c (bo (decide (idxM l g ≥ 0)))], []) := by
  exact rt (aa (index36 l g hl k) <| trivial) (gs := [G.call [Res.c (ii (idxM l g))] []]) (rs := [Res.c (bo (decide (idxM l g ≥ 0)))]) rfl
theorem contains51 (l : List Int) (g : Int) (hl : l.length ≤ 1000000) (k : Nat) : orac PP GL XX HH NN (k + 3) 51 [.c (.slice 1 (l.map eU)), .c (u g)] [] = some ([.c (bo (l.contains g))], []) := by
  rw [← idx_neg]; exact cont0 l g hl k
def Sli (l : List Mi) (c0 : Int) (c1 : List (List C)) : St := St.mk (T.hole :: tc (u c0) :: T.hole :: T.hole :: T.k (K.v (V.own 1 c1 (Tk.tok 0))) :: tc (C.map (List.map (fun (x : Int × Int) => (Value.int IntKind.u64 x.1, Value.int IntKind.u64 x.2)) (par l))) :: hs 18 []) [] [c1.length]
def bli_s0 (l : List Mi) (a : List Int) (g : Int) : St := St.mk (T.hole :: tc (u g) :: T.hole :: T.hole :: T.k (K.v (V.own 1 (List.map eU a) (Tk.tok 0))) :: tc (C.map (List.map (fun (x : Int × Int) => (Value.int IntKind.u64 x.1, Value.int IntKind.u64 x.2)) (par l))) :: T.hole :: T.hole :: tc (u g) :: tc (bo (g != 0)) :: tc (bo (g != 0)) :: ks 4 (tc (bo false) :: hs 8 [])) [] [List.length (List.map eU a)]
theorem bli_0 (l : List Mi) (a : List Int) (g : Int) (k : Nat) (z0 : (g == 0) = true) : OutIs (EE (k + 4)) (HH 37) NN (LB PP 37 2) (Sli l g (List.map eU a)) (Ext.exit 0) (bli_s0 l a g) :=
  out_run (xa5 (cn z0) <| aa ff <| trivial) (gs := xg6 gF <| []) (by kernel_rfl)
def bli_s1 (l : List Mi) (a : List Int) (g : Int) : St := St.mk (T.hole :: tc (u g) :: T.hole :: T.hole :: T.k (K.v (V.own 1 (List.map eU a) (Tk.tok 0))) :: tc (C.map (List.map (fun (x : Int × Int) => (Value.int IntKind.u64 x.1, Value.int IntKind.u64 x.2)) (par l))) :: T.hole :: T.hole :: tc (u g) :: tc (bo (g != 0)) :: tc (bo (g != 0)) :: T.k (K.v (V.own 1 (List.map eU a) (Tk.tok 0))) :: tc (u g) :: tc (bo (List.contains a g)) :: tc (bo !List.contains a g) :: tc (bo !List.contains a g) :: hs 8 []) [] [List.length (List.map eU a)]
theorem bli_1 (l : List Mi) (a : List Int) (g : Int) (ha : a.length ≤ 1000000) (k : Nat) (z0 : (g == 0) = false) (z1 : (List.contains a g) = true) : OutIs (EE (k + 4)) (HH 37) NN (LB PP 37 2) (Sli l g (List.map eU a)) (Ext.exit 0) (bli_s1 l a g) :=
  out_run (xa3 (cn z0) <| aa (contains51 a g ha (k + 1)) <| xa2 (cn z0) <| aa (cn z1) <| trivial) (gs := xg3 gT <| xc (G.call [Res.c (bo (List.contains a g))] []) <| xg2 gT <| [gF]) (by kernel_rfl)
theorem bli_2 (l : List Mi) (a : List Int) (g : Int) (ha : a.length ≤ 1000000) (hl : l.length ≤ 1000000) (k : Nat) (z0 : (g == 0) = false) (z1 : (List.contains a g) = false) : NextIs (EE (k + 4)) (HH 37) NN (LB PP 37 2) 0 1 (Sli l g (List.map eU a)) (Sli l (luk (par l) g).1 (List.map eU (a ++ [g]))) :=
  next_run (xa3 (cn z0) <| aa (contains51 a g ha (k + 1)) <| xa2 (cn z0) <| aa (cn z1) <| aa (map_app (eU) (a) ([g])) <| aa (len_map (eU) (l := a ++ [g]) (n := 1073741824) (by simp only [vr1, vr2, vr3, vr4, vr5, vr6]; omega)) <| aa (Eq.refl (List.length (List.map eU a))) <| aa (look_pair (par l) g) <| trivial) (gs := xg3 gT <| xc (G.call [Res.c (bo (List.contains a g))] []) <| xg3 gT <| [G.app (List.map eU (a ++ [g])), G.look (luk (par l) g).1 (luk (par l) g).2]) (by kernel_rfl)
theorem stepli (l : List Mi) (hl : l.length ≤ 100000) (g : Int) (k i : Nat) (hi : i < lenM l g) : NextIs (EE (k + 4)) (HH 37) NN (LB PP 37 2) 0 1 (Sli l (gI (parL l) g i) ((acc (parL l) g i).map eU)) (Sli l (gI (parL l) g (i + 1)) ((acc (parL l) g (i + 1)).map eU)) := by
  obtain ⟨h1, _, h3⟩ := lineM_spec l g
  have hs := h3 i hi
  unfold stopAt at hs
  simp only [Bool.or_eq_false_iff] at hs
  have hlen := acc_len (parL l) g i
  have := bli_2 l (acc (parL l) g i) (gI (parL l) g i) (by omega) (by omega) k hs.1 hs.2
  rw [luk1] at this
  rw [acc_succ]
  exact this
theorem liF0 (l : List Mi) (g : Int) (a : List Int) (z : Int) (hl : l.length ≤ 100000) (hL : ∀ k, LoopAt (EE (k + 4)) (HH 37) NN (LB PP 37 2) (Sli l g []) (Ext.exit 0) (bli_s0 l a z)) (k : Nat) : orac PP GL XX HH NN (k + 5) 37 [A.c (C.slice 3 (List.map Mi.cs l)), A.c (u g)] [] = some ([Res.top 1 (List.map eU a)], []) := by
  exact rt (aa (parents l hl (k + 3)) <| aa (hL k) <| aa (Eq.refl (List.length (List.map eU a))) <| trivial) (gs := [G.call [Res.c (C.map (encM (par l)))] [], G.loop (Ext.exit 0) (bli_s0 l a z)]) (rs := [Res.top 1 (List.map eU a)]) rfl
theorem liF1 (l : List Mi) (g : Int) (a : List Int) (z : Int) (hl : l.length ≤ 100000) (hL : ∀ k, LoopAt (EE (k + 4)) (HH 37) NN (LB PP 37 2) (Sli l g []) (Ext.exit 0) (bli_s1 l a z)) (k : Nat) : orac PP GL XX HH NN (k + 5) 37 [A.c (C.slice 3 (List.map Mi.cs l)), A.c (u g)] [] = some ([Res.top 1 (List.map eU a)], []) := by
  exact rt (aa (parents l hl (k + 3)) <| aa (hL k) <| aa (Eq.refl (List.length (List.map eU a))) <| trivial) (gs := [G.call [Res.c (C.map (encM (par l)))] [], G.loop (Ext.exit 0) (bli_s1 l a z)]) (rs := [Res.top 1 (List.map eU a)]) rfl
theorem line37 (l : List Mi) (g : Int) (hl : l.length ≤ 100000) (k : Nat) : orac PP GL XX HH NN (k + 5) 37 [.c (.slice 3 (l.map Mi.cs)), .c (u g)] [] = some ([.top 1 ((lineM l g).map eU)], []) := by
  obtain ⟨h1, h2, _⟩ := lineM_spec l g
  have hle := lineM_le hl g
  cases hz : lastM l g == 0 with
  | true =>
    refine liF0 l g (lineM l g) (lastM l g) hl (fun k => ?_) k
    exact loop_of (E := EE (k + 4)) (nv := 0) (nt := 1) (fun i => Sli l (gI (parL l) g i) ((acc (parL l) g i).map eU)) (lenM l g) rfl (by kernel_rfl) (by kernel_rfl) (fun i hi => stepli l hl g k i hi) (bli_0 l (lineM l g) (lastM l g) k hz) (by unfold NN; omega)
  | false =>
    have hc : (lineM l g).contains (lastM l g) = true := by
      unfold stopAt at h2
      have hz' : (gI (parL l) g (lenM l g) == 0) = false := hz
      rw [hz', Bool.false_or] at h2
      exact h2
    refine liF1 l g (lineM l g) (lastM l g) hl (fun k => ?_) k
    exact loop_of (E := EE (k + 4)) (nv := 0) (nt := 1) (fun i => Sli l (gI (parL l) g i) ((acc (parL l) g i).map eU)) (lenM l g) rfl (by kernel_rfl) (by kernel_rfl) (fun i hi => stepli l hl g k i hi) (bli_1 l (lineM l g) (lastM l g) hle k hz hc) (by unfold NN; omega)
def Slj (l : List Mi) (c0 : Int) (c1 : List (List C)) : St := St.mk (tc (C.slice 3 (List.map Mi.cs l)) :: tc (u c0) :: T.hole :: T.hole :: T.hole :: T.k (K.v (V.own 1 c1 (Tk.tok 0))) :: hs 16 []) [] [c1.length]
def blj_s0 (l : List Mi) (a : List Int) (g : Int) : St := St.mk (tc (C.slice 3 (List.map Mi.cs l)) :: tc (u g) :: T.hole :: T.hole :: T.hole :: T.k (K.v (V.own 1 (List.map eU a) (Tk.tok 0))) :: tc (u g) :: tc (bo (g != 0)) :: tc (bo (g != 0)) :: ks 4 (tc (bo false) :: hs 8 [])) [] [List.length (List.map eU a)]
theorem blj_0 (l : List Mi) (a : List Int) (g : Int) (k : Nat) (z0 : (g == 0) = true) : OutIs (EE (k + 4)) (HH 38) NN (LB PP 38 2) (Slj l g (List.map eU a)) (Ext.exit 0) (blj_s0 l a g) :=
  out_run (xa5 (cn z0) <| aa ff <| trivial) (gs := xg6 gF <| []) (by kernel_rfl)
def blj_s1 (l : List Mi) (a : List Int) (g : Int) : St := St.mk (tc (C.slice 3 (List.map Mi.cs l)) :: tc (u g) :: T.hole :: T.hole :: T.hole :: T.k (K.v (V.own 1 (List.map eU a) (Tk.tok 0))) :: tc (u g) :: tc (bo (g != 0)) :: tc (bo (g != 0)) :: T.k (K.v (V.own 1 (List.map eU a) (Tk.tok 0))) :: tc (u g) :: tc (bo (List.contains a g)) :: tc (bo !List.contains a g) :: tc (bo !List.contains a g) :: hs 8 []) [] [List.length (List.map eU a)]
theorem blj_1 (l : List Mi) (a : List Int) (g : Int) (ha : a.length ≤ 1000000) (k : Nat) (z0 : (g == 0) = false) (z1 : (List.contains a g) = true) : OutIs (EE (k + 4)) (HH 38) NN (LB PP 38 2) (Slj l g (List.map eU a)) (Ext.exit 0) (blj_s1 l a g) :=
  out_run (xa3 (cn z0) <| aa (has12 a g ha (k + 2)) <| xa2 (cn z0) <| aa (cn z1) <| trivial) (gs := xg3 gT <| xc (G.call [Res.c (bo (List.contains a g))] []) <| xg2 gT <| [gF]) (by kernel_rfl)
theorem blj_2 (l : List Mi) (a : List Int) (g : Int) (ha : a.length ≤ 1000000) (hl : l.length ≤ 1000000) (k : Nat) (z0 : (g == 0) = false) (z1 : (List.contains a g) = false) : NextIs (EE (k + 4)) (HH 38) NN (LB PP 38 2) 0 1 (Slj l g (List.map eU a)) (Slj l (parL l g) (List.map eU (a ++ [g]))) :=
  next_run (xa3 (cn z0) <| aa (has12 a g ha (k + 2)) <| xa2 (cn z0) <| aa (cn z1) <| aa (map_app (eU) (a) ([g])) <| aa (len_map (eU) (l := a ++ [g]) (n := 1073741824) (by simp only [vr1, vr2, vr3, vr4, vr5, vr6]; omega)) <| aa (Eq.refl (List.length (List.map eU a))) <| aa (parent12 l g hl (k + 2)) <| trivial) (gs := xg3 gT <| xc (G.call [Res.c (bo (List.contains a g))] []) <| xg3 gT <| [G.app (List.map eU (a ++ [g])), G.call [Res.c (u (parL l g))] []]) (by kernel_rfl)
theorem steplj (l : List Mi) (hl : l.length ≤ 100000) (g : Int) (k i : Nat) (hi : i < lenM l g) : NextIs (EE (k + 4)) (HH 38) NN (LB PP 38 2) 0 1 (Slj l (gI (parL l) g i) ((acc (parL l) g i).map eU)) (Slj l (gI (parL l) g (i + 1)) ((acc (parL l) g (i + 1)).map eU)) := by
  obtain ⟨h1, _, h3⟩ := lineM_spec l g
  have hs := h3 i hi
  unfold stopAt at hs
  simp only [Bool.or_eq_false_iff] at hs
  have hlen := acc_len (parL l) g i
  have := blj_2 l (acc (parL l) g i) (gI (parL l) g i) (by omega) (by omega) k hs.1 hs.2
  rw [acc_succ]
  exact this
theorem ljF0 (l : List Mi) (g : Int) (a : List Int) (z : Int) (hl : l.length ≤ 100000) (hL : ∀ k, LoopAt (EE (k + 4)) (HH 38) NN (LB PP 38 2) (Slj l g []) (Ext.exit 0) (blj_s0 l a z)) (k : Nat) : orac PP GL XX HH NN (k + 5) 38 [A.c (C.slice 3 (List.map Mi.cs l)), A.c (u g)] [] = some ([Res.top 1 (List.map eU a)], []) := by
  exact rt (aa (hL k) <| aa (Eq.refl (List.length (List.map eU a))) <| trivial) (gs := [G.loop (Ext.exit 0) (blj_s0 l a z)]) (rs := [Res.top 1 (List.map eU a)]) rfl
theorem ljF1 (l : List Mi) (g : Int) (a : List Int) (z : Int) (hl : l.length ≤ 100000) (hL : ∀ k, LoopAt (EE (k + 4)) (HH 38) NN (LB PP 38 2) (Slj l g []) (Ext.exit 0) (blj_s1 l a z)) (k : Nat) : orac PP GL XX HH NN (k + 5) 38 [A.c (C.slice 3 (List.map Mi.cs l)), A.c (u g)] [] = some ([Res.top 1 (List.map eU a)], []) := by
  exact rt (aa (hL k) <| aa (Eq.refl (List.length (List.map eU a))) <| trivial) (gs := [G.loop (Ext.exit 0) (blj_s1 l a z)]) (rs := [Res.top 1 (List.map eU a)]) rfl
theorem line38 (l : List Mi) (g : Int) (hl : l.length ≤ 100000) (k : Nat) : orac PP GL XX HH NN (k + 5) 38 [.c (.slice 3 (l.map Mi.cs)), .c (u g)] [] = some ([.top 1 ((lineM l g).map eU)], []) := by
  obtain ⟨h1, h2, _⟩ := lineM_spec l g
  have hle := lineM_le hl g
  cases hz : lastM l g == 0 with
  | true =>
    refine ljF0 l g (lineM l g) (lastM l g) hl (fun k => ?_) k
    exact loop_of (E := EE (k + 4)) (nv := 0) (nt := 1) (fun i => Slj l (gI (parL l) g i) ((acc (parL l) g i).map eU)) (lenM l g) rfl (by kernel_rfl) (by kernel_rfl) (fun i hi => steplj l hl g k i hi) (blj_0 l (lineM l g) (lastM l g) k hz) (by unfold NN; omega)
  | false =>
    have hc : (lineM l g).contains (lastM l g) = true := by
      unfold stopAt at h2
      have hz' : (gI (parL l) g (lenM l g) == 0) = false := hz
      rw [hz', Bool.false_or] at h2
      exact h2
    refine ljF1 l g (lineM l g) (lastM l g) hl (fun k => ?_) k
    exact loop_of (E := EE (k + 4)) (nv := 0) (nt := 1) (fun i => Slj l (gI (parL l) g i) ((acc (parL l) g i).map eU)) (lenM l g) rfl (by kernel_rfl) (by kernel_rfl) (fun i hi => steplj l hl g k i hi) (blj_1 l (lineM l g) (lastM l g) hle k hz hc) (by unfold NN; omega)
theorem in34 (l : List Mi) (o : Int) (g : Int) (hl : l.length ≤ 100000) (h2 : List.length (lineM l g) ≤ 1000000) (k : Nat) : orac PP GL XX HH NN (k + 6) 34 [A.c (C.slice 3 (List.map Mi.cs l)), A.c (u o), A.c (u g)] [] = some ([Res.c (bo (inL l o g))], []) := by
  exact rt (aa (line37 l g hl k) <| aa (contains51 (lineM l g) o h2 (k + 2)) <| trivial) (gs := [G.call [Res.top 1 (List.map eU (lineM l g))] [], G.call [Res.c (bo (List.contains (lineM l g) o))] []]) (rs := [Res.c (bo (List.contains (lineM l g) o))]) (by simp only [inL, vq1, vq2, vq3, vq4, vq5, vq6, vq7, vq8] <;> rfl)
theorem in35 (l : List Mi) (o : Int) (g : Int) (hl : l.length ≤ 100000) (h2 : List.length (lineM l g) ≤ 1000000) (k : Nat) : orac PP GL XX HH NN (k + 6) 35 [A.c (C.slice 3 (List.map Mi.cs l)), A.c (u o), A.c (u g)] [] = some ([Res.c (bo (inL l o g))], []) := by
  exact rt (aa (line38 l g hl k) <| aa (has12 (lineM l g) o h2 (k + 3)) <| trivial) (gs := [G.call [Res.top 1 (List.map eU (lineM l g))] [], G.call [Res.c (bo (List.contains (lineM l g) o))] []]) (rs := [Res.c (bo (List.contains (lineM l g) o))]) (by simp only [inL, vq1, vq2, vq3, vq4, vq5, vq6, vq7, vq8] <;> rfl)
theorem in34b (l : List Mi) (o g : Int) (hl : l.length ≤ 100000) (k : Nat) : orac PP GL XX HH NN (k + 6) 34 [.c (.slice 3 (l.map Mi.cs)), .c (u o), .c (u g)] [] = some ([.c (bo (inL l o g))], []) := in34 l o g hl (lineM_le hl g) k
theorem in35b (l : List Mi) (o g : Int) (hl : l.length ≤ 100000) (k : Nat) : orac PP GL XX HH NN (k + 6) 35 [.c (.slice 3 (l.map Mi.cs)), .c (u o), .c (u g)] [] = some ([.c (bo (inL l o g))], []) := in35 l o g hl (lineM_le hl g) k
theorem apart33 (l : List Mi) (a : Int) (b : Int) (hl : l.length ≤ 100000) (k : Nat) : orac PP GL XX HH NN (k + 7) 33 [A.c (C.slice 3 (List.map Mi.cs l)), A.c (u a), A.c (u b)] [] = some ([Res.c (bo (!inL l a b && !inL l b a))], []) := by
  rcases bft (inL l a b) with z0 | z0
  · exact rt (aa (in34b l a b hl k) <| xa6 (cn z0) <| trivial) (gs := xc (G.call [Res.c (bo (inL l a b))] []) <| xg6 gF <| []) (rs := [Res.c (bo false)]) (by simp only [z0, vq1, vq2, vq3, vq4, vq5, vq6, vq7, vq8] <;> rfl)
  · exact rt (aa (in34b l a b hl k) <| xa4 (cn z0) <| aa (in34b l b a hl k) <| xa2 (cn z0) <| trivial) (gs := xc (G.call [Res.c (bo (inL l a b))] []) <| xg4 gT <| xc (G.call [Res.c (bo (inL l b a))] []) <| xg2 gT <| []) (rs := [Res.c (bo !inL l b a)]) (by simp only [z0, vq1, vq2, vq3, vq4, vq5, vq6, vq7, vq8] <;> rfl)
theorem mints13 (c : Cl) (h : c.n0.mints.length + c.n1.mints.length ≤ 1000000) (k : Nat) : orac PP GL XX HH NN (k + 3) 13 [A.agg (Cl.cs c)] [] = some ([Res.top 3 (List.map Mi.cs (mintsM c))], []) := by
  exact rt (aa (concatMi c.n0.mints c.n1.mints h k) <| aa (Eq.refl (List.length (List.map Mi.cs (Nd.mints c.n0 ++ Nd.mints c.n1)))) <| trivial) (gs := [G.call [Res.top 3 (List.map Mi.cs (Nd.mints c.n0 ++ Nd.mints c.n1))] []]) (rs := [Res.top 3 (List.map Mi.cs (Nd.mints c.n0 ++ Nd.mints c.n1))]) (by simp only [mintsM, vq1, vq2, vq3, vq4, vq5, vq6, vq7, vq8] <;> rfl)
theorem mints14 (c : Cl) (h0 : c.n0.mints.length ≤ 1000000) (h1 : c.n1.mints.length ≤ 1000000) (k : Nat) : orac PP GL XX HH NN (k + 1) 14 [A.agg (Cl.cs c)] [] = some ([Res.top 3 (List.map Mi.cs (mintsM c))], []) := by
  exact rt (aa (nil_app (List.map Mi.cs c.n0.mints)) <| aa (len_map (Mi.cs) (l := Nd.mints c.n0) (n := 1073741824) (by omega)) <| aa (map_app (Mi.cs) c.n0.mints c.n1.mints) <| aa (len_map (Mi.cs) (l := Nd.mints c.n0 ++ Nd.mints c.n1) (n := 1073741824) (by simp only [vr1, vr2, vr3, vr4, vr5, vr6]; omega)) <| aa (Eq.refl (List.length (List.map Mi.cs c.n0.mints))) <| aa (Eq.refl (List.length (List.map Mi.cs (Nd.mints c.n0 ++ Nd.mints c.n1)))) <| trivial) (gs := [G.app (List.map Mi.cs c.n0.mints), G.app (List.map Mi.cs (Nd.mints c.n0 ++ Nd.mints c.n1))]) (rs := [Res.top 3 (List.map Mi.cs (Nd.mints c.n0 ++ Nd.mints c.n1))]) (by simp only [mintsM, vq1, vq2, vq3, vq4, vq5, vq6, vq7, vq8] <;> rfl)
theorem head11_0 (c : Cl) (k : Nat) : orac PP GL XX HH NN (k + 1) 11 [A.agg (Cl.cs c), A.c (ii 0)] [] = some ([Res.c (u c.n0.store.super.v.cur)], []) := by
  exact rt (aa (rfl : (0 : Int) = 0) <| trivial) (gs := [G.at 0]) (rs := [Res.c (u c.n0.store.super.v.cur)]) rfl
theorem head32_0 (c : Cl) (k : Nat) : orac PP GL XX HH NN (k + 1) 32 [A.agg (Cl.cs c), A.c (ii 0)] [] = some ([Res.c (u c.n0.store.super.v.cur)], []) := by
  exact rt (aa (rfl : (0 : Int) = 0) <| trivial) (gs := [G.at 0]) (rs := [Res.c (u c.n0.store.super.v.cur)]) rfl
theorem head11_1 (c : Cl) (k : Nat) : orac PP GL XX HH NN (k + 1) 11 [A.agg (Cl.cs c), A.c (ii 1)] [] = some ([Res.c (u c.n1.store.super.v.cur)], []) := by
  exact rt (aa (rfl : (1 : Int) = 1) <| trivial) (gs := [G.at 1]) (rs := [Res.c (u c.n1.store.super.v.cur)]) rfl
theorem head32_1 (c : Cl) (k : Nat) : orac PP GL XX HH NN (k + 1) 32 [A.agg (Cl.cs c), A.c (ii 1)] [] = some ([Res.c (u c.n1.store.super.v.cur)], []) := by
  exact rt (aa (rfl : (1 : Int) = 1) <| trivial) (gs := [G.at 1]) (rs := [Res.c (u c.n1.store.super.v.cur)]) rfl
theorem rel15F (c : Cl) (h : c.n0.mints.length + c.n1.mints.length ≤ 100000) (hM : List.length (mintsM c) ≤ 100000) (k : Nat) : orac PP GL XX HH NN (k + 8) 15 [A.agg (Cl.cs c)] [] = some ([Res.c (ii (bif !Nd.up c.n0 || !Nd.up c.n1 then (-1 : Int) else bif Ve.cur c.n0.store.super.v == Ve.cur c.n1.store.super.v then 0 else bif !inL (mintsM c) c.n0.store.super.v.cur c.n1.store.super.v.cur && !inL (mintsM c) c.n1.store.super.v.cur c.n0.store.super.v.cur then 3 else bif inL (mintsM c) c.n1.store.super.v.cur c.n0.store.super.v.cur then 1 else 2))], []) := by
  rcases bft c.n0.up with z0 | z0
  · rcases bft c.n1.up with z1 | z1
    · rcases bft (Ve.cur c.n0.store.super.v == Ve.cur c.n1.store.super.v) with z2 | z2
      · exact rt (xa6 (cn z0) <| aa (cn z1) <| aa (head32_0 c (k + 6)) <| aa (head32_1 c (k + 6)) <| aa (mints13 c (show c.n0.mints.length + c.n1.mints.length ≤ 1000000 from by omega) (k + 4)) <| aa z2 <| trivial) (gs := xg7 gF <| [G.call [Res.c (u c.n0.store.super.v.cur)] [], G.call [Res.c (u c.n1.store.super.v.cur)] [], G.call [Res.top 3 (List.map Mi.cs (mintsM c))] [], gT]) (rs := [Res.c (ii 0)]) (by simp only [z0, z1, z2, vq1, vq2, vq3, vq4, vq5, vq6, vq7, vq8] <;> rfl)
      · rcases bft (!inL (mintsM c) c.n0.store.super.v.cur c.n1.store.super.v.cur && !inL (mintsM c) c.n1.store.super.v.cur c.n0.store.super.v.cur) with z3 | z3
        · exact rt (xa6 (cn z0) <| aa (cn z1) <| aa (head32_0 c (k + 6)) <| aa (head32_1 c (k + 6)) <| aa (mints13 c (show c.n0.mints.length + c.n1.mints.length ≤ 1000000 from by omega) (k + 4)) <| aa z2 <| aa (apart33 (mintsM c) c.n0.store.super.v.cur c.n1.store.super.v.cur hM k) <| aa z3 <| trivial) (gs := xg7 gF <| [G.call [Res.c (u c.n0.store.super.v.cur)] [], G.call [Res.c (u c.n1.store.super.v.cur)] [], G.call [Res.top 3 (List.map Mi.cs (mintsM c))] [], gF, G.call [Res.c (bo (!inL (mintsM c) c.n0.store.super.v.cur c.n1.store.super.v.cur && !inL (mintsM c) c.n1.store.super.v.cur c.n0.store.super.v.cur))] [], gT]) (rs := [Res.c (ii 3)]) (by simp only [z0, z1, z2, z3, vq1, vq2, vq3, vq4, vq5, vq6, vq7, vq8] <;> rfl)
        · rcases bft (inL (mintsM c) c.n1.store.super.v.cur c.n0.store.super.v.cur) with z4 | z4
          · exact rt (xa6 (cn z0) <| aa (cn z1) <| aa (head32_0 c (k + 6)) <| aa (head32_1 c (k + 6)) <| aa (mints13 c (show c.n0.mints.length + c.n1.mints.length ≤ 1000000 from by omega) (k + 4)) <| aa z2 <| aa (apart33 (mintsM c) c.n0.store.super.v.cur c.n1.store.super.v.cur hM k) <| aa z3 <| aa (in34b (mintsM c) c.n1.store.super.v.cur c.n0.store.super.v.cur hM (k + 1)) <| aa z4 <| trivial) (gs := xg7 gF <| [G.call [Res.c (u c.n0.store.super.v.cur)] [], G.call [Res.c (u c.n1.store.super.v.cur)] [], G.call [Res.top 3 (List.map Mi.cs (mintsM c))] [], gF, G.call [Res.c (bo (!inL (mintsM c) c.n0.store.super.v.cur c.n1.store.super.v.cur && !inL (mintsM c) c.n1.store.super.v.cur c.n0.store.super.v.cur))] [], gF, G.call [Res.c (bo (inL (mintsM c) c.n1.store.super.v.cur c.n0.store.super.v.cur))] [], gT]) (rs := [Res.c (ii 1)]) (by simp_all only [vq1, vq2, vq3, vq4, vq5, vq6, vq7, vq8] <;> rfl)
          · exact rt (xa6 (cn z0) <| aa (cn z1) <| aa (head32_0 c (k + 6)) <| aa (head32_1 c (k + 6)) <| aa (mints13 c (show c.n0.mints.length + c.n1.mints.length ≤ 1000000 from by omega) (k + 4)) <| aa z2 <| aa (apart33 (mintsM c) c.n0.store.super.v.cur c.n1.store.super.v.cur hM k) <| aa z3 <| aa (in34b (mintsM c) c.n1.store.super.v.cur c.n0.store.super.v.cur hM (k + 1)) <| aa z4 <| trivial) (gs := xg7 gF <| [G.call [Res.c (u c.n0.store.super.v.cur)] [], G.call [Res.c (u c.n1.store.super.v.cur)] [], G.call [Res.top 3 (List.map Mi.cs (mintsM c))] [], gF, G.call [Res.c (bo (!inL (mintsM c) c.n0.store.super.v.cur c.n1.store.super.v.cur && !inL (mintsM c) c.n1.store.super.v.cur c.n0.store.super.v.cur))] [], gF, G.call [Res.c (bo (inL (mintsM c) c.n1.store.super.v.cur c.n0.store.super.v.cur))] [], gF]) (rs := [Res.c (ii 2)]) (by simp_all only [vq1, vq2, vq3, vq4, vq5, vq6, vq7, vq8] <;> rfl)
    · exact rt (xa6 (cn z0) <| aa (cn z1) <| trivial) (gs := xg6 gF <| [gT]) (rs := [Res.c (ii (-1 : Int))]) (by simp only [z0, z1, vq1, vq2, vq3, vq4, vq5, vq6, vq7, vq8] <;> rfl)
  · exact rt (xa6 (cn z0) <| aa tt <| trivial) (gs := xg7 gT <| []) (rs := [Res.c (ii (-1 : Int))]) (by simp only [z0, vq1, vq2, vq3, vq4, vq5, vq6, vq7, vq8] <;> rfl)
theorem rel16F (c : Cl) (h : c.n0.mints.length + c.n1.mints.length ≤ 100000) (hM : List.length (mintsM c) ≤ 100000) (k : Nat) : orac PP GL XX HH NN (k + 8) 16 [A.agg (Cl.cs c)] [] = some ([Res.c (ii (bif !Nd.up c.n0 || !Nd.up c.n1 then (-1 : Int) else bif Ve.cur c.n0.store.super.v == Ve.cur c.n1.store.super.v then 0 else bif inL (mintsM c) c.n1.store.super.v.cur c.n0.store.super.v.cur then 1 else bif inL (mintsM c) c.n0.store.super.v.cur c.n1.store.super.v.cur then 2 else 3))], []) := by
  rcases bft c.n0.up with z0 | z0
  · rcases bft c.n1.up with z1 | z1
    · rcases bft (Ve.cur c.n0.store.super.v == Ve.cur c.n1.store.super.v) with z2 | z2
      · exact rt (aa (head11_0 c (k + 6)) <| aa (head11_1 c (k + 6)) <| xa6 (cn z0) <| aa (cn z1) <| aa z2 <| trivial) (gs := xc (G.call [Res.c (u c.n0.store.super.v.cur)] []) <| xc (G.call [Res.c (u c.n1.store.super.v.cur)] []) <| xg7 gF <| [gT]) (rs := [Res.c (ii 0)]) (by simp only [z0, z1, z2, vq1, vq2, vq3, vq4, vq5, vq6, vq7, vq8] <;> rfl)
      · rcases bft (inL (mintsM c) c.n1.store.super.v.cur c.n0.store.super.v.cur) with z3 | z3
        · exact rt (aa (head11_0 c (k + 6)) <| aa (head11_1 c (k + 6)) <| xa6 (cn z0) <| aa (cn z1) <| aa z2 <| aa (mints14 c (show c.n0.mints.length ≤ 1000000 from by omega) (show c.n1.mints.length ≤ 1000000 from by omega) (k + 6)) <| aa (in35b (mintsM c) c.n1.store.super.v.cur c.n0.store.super.v.cur hM (k + 1)) <| aa z3 <| trivial) (gs := xc (G.call [Res.c (u c.n0.store.super.v.cur)] []) <| xc (G.call [Res.c (u c.n1.store.super.v.cur)] []) <| xg8 gF <| [G.call [Res.top 3 (List.map Mi.cs (mintsM c))] [], G.call [Res.c (bo (inL (mintsM c) c.n1.store.super.v.cur c.n0.store.super.v.cur))] [], gT]) (rs := [Res.c (ii 1)]) (by simp only [z0, z1, z2, z3, vq1, vq2, vq3, vq4, vq5, vq6, vq7, vq8] <;> rfl)
        · rcases bft (inL (mintsM c) c.n0.store.super.v.cur c.n1.store.super.v.cur) with z4 | z4
          · exact rt (aa (head11_0 c (k + 6)) <| aa (head11_1 c (k + 6)) <| xa6 (cn z0) <| aa (cn z1) <| aa z2 <| aa (mints14 c (show c.n0.mints.length ≤ 1000000 from by omega) (show c.n1.mints.length ≤ 1000000 from by omega) (k + 6)) <| aa (in35b (mintsM c) c.n1.store.super.v.cur c.n0.store.super.v.cur hM (k + 1)) <| aa z3 <| aa (mints14 c (show c.n0.mints.length ≤ 1000000 from by omega) (show c.n1.mints.length ≤ 1000000 from by omega) (k + 6)) <| aa (in35b (mintsM c) c.n0.store.super.v.cur c.n1.store.super.v.cur hM (k + 1)) <| aa z4 <| trivial) (gs := xc (G.call [Res.c (u c.n0.store.super.v.cur)] []) <| xc (G.call [Res.c (u c.n1.store.super.v.cur)] []) <| xg8 gF <| [G.call [Res.top 3 (List.map Mi.cs (mintsM c))] [], G.call [Res.c (bo (inL (mintsM c) c.n1.store.super.v.cur c.n0.store.super.v.cur))] [], gF, G.call [Res.top 3 (List.map Mi.cs (mintsM c))] [], G.call [Res.c (bo (inL (mintsM c) c.n0.store.super.v.cur c.n1.store.super.v.cur))] [], gT]) (rs := [Res.c (ii 2)]) (by simp only [z0, z1, z2, z3, z4, vq1, vq2, vq3, vq4, vq5, vq6, vq7, vq8] <;> rfl)
          · exact rt (aa (head11_0 c (k + 6)) <| aa (head11_1 c (k + 6)) <| xa6 (cn z0) <| aa (cn z1) <| aa z2 <| aa (mints14 c (show c.n0.mints.length ≤ 1000000 from by omega) (show c.n1.mints.length ≤ 1000000 from by omega) (k + 6)) <| aa (in35b (mintsM c) c.n1.store.super.v.cur c.n0.store.super.v.cur hM (k + 1)) <| aa z3 <| aa (mints14 c (show c.n0.mints.length ≤ 1000000 from by omega) (show c.n1.mints.length ≤ 1000000 from by omega) (k + 6)) <| aa (in35b (mintsM c) c.n0.store.super.v.cur c.n1.store.super.v.cur hM (k + 1)) <| aa z4 <| trivial) (gs := xc (G.call [Res.c (u c.n0.store.super.v.cur)] []) <| xc (G.call [Res.c (u c.n1.store.super.v.cur)] []) <| xg8 gF <| [G.call [Res.top 3 (List.map Mi.cs (mintsM c))] [], G.call [Res.c (bo (inL (mintsM c) c.n1.store.super.v.cur c.n0.store.super.v.cur))] [], gF, G.call [Res.top 3 (List.map Mi.cs (mintsM c))] [], G.call [Res.c (bo (inL (mintsM c) c.n0.store.super.v.cur c.n1.store.super.v.cur))] [], gF]) (rs := [Res.c (ii 3)]) (by simp only [z0, z1, z2, z3, z4, vq1, vq2, vq3, vq4, vq5, vq6, vq7, vq8] <;> rfl)
    · exact rt (aa (head11_0 c (k + 6)) <| aa (head11_1 c (k + 6)) <| xa6 (cn z0) <| aa (cn z1) <| trivial) (gs := xc (G.call [Res.c (u c.n0.store.super.v.cur)] []) <| xc (G.call [Res.c (u c.n1.store.super.v.cur)] []) <| xg6 gF <| [gT]) (rs := [Res.c (ii (-1 : Int))]) (by simp only [z0, z1, vq1, vq2, vq3, vq4, vq5, vq6, vq7, vq8] <;> rfl)
  · exact rt (aa (head11_0 c (k + 6)) <| aa (head11_1 c (k + 6)) <| xa6 (cn z0) <| aa tt <| trivial) (gs := xc (G.call [Res.c (u c.n0.store.super.v.cur)] []) <| xc (G.call [Res.c (u c.n1.store.super.v.cur)] []) <| xg7 gT <| []) (rs := [Res.c (ii (-1 : Int))]) (by simp only [z0, vq1, vq2, vq3, vq4, vq5, vq6, vq7, vq8] <;> rfl)
theorem mintsM_len (c : Cl) : (mintsM c).length = c.n0.mints.length + c.n1.mints.length := by unfold mintsM; rw [List.length_append]
theorem rel15 (c : Cl) (h : c.n0.mints.length + c.n1.mints.length ≤ 100000) (k : Nat) : orac PP GL XX HH NN (k + 8) 15 [.agg c.cs] [] = some ([.c (ii (relM c))], []) := by
  have := rel15F c h (by rw [mintsM_len]; exact h) k
  rw [this]
  unfold relM headM
  simp only [show ((0 : Int) == 0) = true from rfl, show ((1 : Int) == 0) = false from rfl, cond_true, cond_false]
  cases inL (mintsM c) c.n0.store.super.v.cur c.n1.store.super.v.cur <;> cases inL (mintsM c) c.n1.store.super.v.cur c.n0.store.super.v.cur <;> rfl
theorem rel16 (c : Cl) (h : c.n0.mints.length + c.n1.mints.length ≤ 100000) (k : Nat) : orac PP GL XX HH NN (k + 8) 16 [.agg c.cs] [] = some ([.c (ii (relM c))], []) := rel16F c h (by rw [mintsM_len]; exact h) k
theorem back17F (c : Cl) (old : Int) (g : Int) (h : c.n0.mints.length + c.n1.mints.length ≤ 100000) (hM : List.length (mintsM c) ≤ 100000) (h2 : List.length (lineM (mintsM c) g) ≤ 1000000) (k : Nat) : orac PP GL XX HH NN (k + 7) 17 [A.agg (Cl.cs c), A.c (u old), A.c (u g)] [] = some ([Res.c (ii (backM c old g))], []) := by
  exact rt (aa (mints13 c (show c.n0.mints.length + c.n1.mints.length ≤ 1000000 from by omega) (k + 3)) <| aa (line37 (mintsM c) g hM (k + 1)) <| aa (index36 (lineM (mintsM c) g) old h2 (k + 4)) <| trivial) (gs := [G.call [Res.top 3 (List.map Mi.cs (mintsM c))] [], G.call [Res.top 1 (List.map eU (lineM (mintsM c) g))] [], G.call [Res.c (ii (idxM (lineM (mintsM c) g) old))] []]) (rs := [Res.c (ii (idxM (lineM (mintsM c) g) old))]) (by simp only [backM, vq1, vq2, vq3, vq4, vq5, vq6, vq7, vq8] <;> rfl)
theorem back17 (c : Cl) (old g : Int) (h : c.n0.mints.length + c.n1.mints.length ≤ 100000) (k : Nat) : orac PP GL XX HH NN (k + 7) 17 [.agg c.cs, .c (u old), .c (u g)] [] = some ([.c (ii (backM c old g))], []) := by
  have hM : (mintsM c).length ≤ 100000 := by rw [mintsM_len]; exact h
  exact back17F c old g h hM (lineM_le hM g) k
def Sbk (c : Cl) (old : Int) (g : Int) (c0 : Int) : St := St.mk (T.hole :: tc (u old) :: hs 5 (T.k (K.v (V.own 1 (List.map eU (lineM (mintsM c) g)) (Tk.tok 1))) :: tc (ii c0) :: hs 17 [])) [[V.c (ii c.n0.id), V.c (bo c.n0.up), V.c (C.slice 1 (List.map eS c.n0.store.disk.sure)), V.c (C.slice 2 (List.map Wr.cs c.n0.store.disk.cache)), V.c (ii c.n0.store.disk.fuse), V.c (bo c.n0.store.disk.dead), V.c (ii c.n0.store.super.blocks), V.c (u c.n0.store.super.v.cur), V.c (u c.n0.store.super.v.bit), V.c (u c.n0.store.super.v.o0), V.c (u c.n0.store.super.v.o1), V.c (bo c.n0.store.super.inc), V.c (bo c.n0.store.super.pri), V.c (bo c.n0.store.super.dis), V.c (w4 (mi c.n0.store.mask)), V.c (bo c.n0.primary), V.c (ii c.n0.state), V.c (u c.n0.ses), V.c (ii c.n0.peer.blocks), V.c (u c.n0.peer.v.cur), V.c (u c.n0.peer.v.bit), V.c (u c.n0.peer.v.o0), V.c (u c.n0.peer.v.o1), V.c (bo c.n0.peer.inc), V.c (bo c.n0.peer.was), V.c (bo c.n0.peer.dis), V.c (bo c.n0.peer.pri), V.c (w4 (mi c.n0.peer.mask)), V.c (bo c.n0.peerPri), V.c (bo c.n0.req.on), V.c (ii c.n0.req.id), V.c (ii c.n0.req.block), V.c (st c.n0.req.data), V.c (bo c.n0.asking), V.c (ii c.n0.askId), V.c (ii c.n0.wanted), V.c (bo c.n0.minted), V.c (C.slice 1 (List.map eU c.n0.draws)), V.c (C.slice 3 (List.map Mi.cs c.n0.mints)), V.c (ii c.n1.id), V.c (bo c.n1.up), V.c (C.slice 1 (List.map eS c.n1.store.disk.sure)), V.c (C.slice 2 (List.map Wr.cs c.n1.store.disk.cache)), V.c (ii c.n1.store.disk.fuse), V.c (bo c.n1.store.disk.dead), V.c (ii c.n1.store.super.blocks), V.c (u c.n1.store.super.v.cur), V.c (u c.n1.store.super.v.bit), V.c (u c.n1.store.super.v.o0), V.c (u c.n1.store.super.v.o1), V.c (bo c.n1.store.super.inc), V.c (bo c.n1.store.super.pri), V.c (bo c.n1.store.super.dis), V.c (w4 (mi c.n1.store.mask)), V.c (bo c.n1.primary), V.c (ii c.n1.state), V.c (u c.n1.ses), V.c (ii c.n1.peer.blocks), V.c (u c.n1.peer.v.cur), V.c (u c.n1.peer.v.bit), V.c (u c.n1.peer.v.o0), V.c (u c.n1.peer.v.o1), V.c (bo c.n1.peer.inc), V.c (bo c.n1.peer.was), V.c (bo c.n1.peer.dis), V.c (bo c.n1.peer.pri), V.c (w4 (mi c.n1.peer.mask)), V.c (bo c.n1.peerPri), V.c (bo c.n1.req.on), V.c (ii c.n1.req.id), V.c (ii c.n1.req.block), V.c (st c.n1.req.data), V.c (bo c.n1.asking), V.c (ii c.n1.askId), V.c (ii c.n1.wanted), V.c (bo c.n1.minted), V.c (C.slice 1 (List.map eU c.n1.draws)), V.c (C.slice 3 (List.map Mi.cs c.n1.mints)), V.c (bo c.link.up), V.c (u c.link.ses), V.c (C.slice 1 (List.map eS c.link.to0)), V.c (C.slice 1 (List.map eS c.link.to1)), V.c (bo c.w0), V.c (bo c.w1)]] [List.length (List.map Mi.cs (mintsM c)), List.length (List.map eU (lineM (mintsM c) g))]
def bbk_s0 (c : Cl) (old : Int) (g : Int) (i : Nat) (x : Int) : St := St.mk (T.hole :: tc (u old) :: hs 4 (tc (ii (↑i : Int)) :: T.k (K.v (V.own 1 (List.map eU (lineM (mintsM c) g)) (Tk.tok 1))) :: tc (ii (↑i : Int)) :: hs 4 [tc (ii (↑i : Int)), T.k (K.v (V.own 1 (List.map eU (lineM (mintsM c) g)) (Tk.tok 1))), tc (ii (↑(List.length (lineM (mintsM c) g)) : Int)), tc (bo (decide ((↑i : Int) < (↑(List.length (lineM (mintsM c) g)) : Int)))), T.hole, T.hole, T.k (K.v (V.own 1 (List.map eU (lineM (mintsM c) g)) (Tk.tok 1))), tc (ii (↑i : Int)), tc (C.rptr [u x]), tc (u x), tc (u old), tc (bo (x == old)), tc (ii (↑i : Int))])) [[V.c (ii c.n0.id), V.c (bo c.n0.up), V.c (C.slice 1 (List.map eS c.n0.store.disk.sure)), V.c (C.slice 2 (List.map Wr.cs c.n0.store.disk.cache)), V.c (ii c.n0.store.disk.fuse), V.c (bo c.n0.store.disk.dead), V.c (ii c.n0.store.super.blocks), V.c (u c.n0.store.super.v.cur), V.c (u c.n0.store.super.v.bit), V.c (u c.n0.store.super.v.o0), V.c (u c.n0.store.super.v.o1), V.c (bo c.n0.store.super.inc), V.c (bo c.n0.store.super.pri), V.c (bo c.n0.store.super.dis), V.c (w4 (mi c.n0.store.mask)), V.c (bo c.n0.primary), V.c (ii c.n0.state), V.c (u c.n0.ses), V.c (ii c.n0.peer.blocks), V.c (u c.n0.peer.v.cur), V.c (u c.n0.peer.v.bit), V.c (u c.n0.peer.v.o0), V.c (u c.n0.peer.v.o1), V.c (bo c.n0.peer.inc), V.c (bo c.n0.peer.was), V.c (bo c.n0.peer.dis), V.c (bo c.n0.peer.pri), V.c (w4 (mi c.n0.peer.mask)), V.c (bo c.n0.peerPri), V.c (bo c.n0.req.on), V.c (ii c.n0.req.id), V.c (ii c.n0.req.block), V.c (st c.n0.req.data), V.c (bo c.n0.asking), V.c (ii c.n0.askId), V.c (ii c.n0.wanted), V.c (bo c.n0.minted), V.c (C.slice 1 (List.map eU c.n0.draws)), V.c (C.slice 3 (List.map Mi.cs c.n0.mints)), V.c (ii c.n1.id), V.c (bo c.n1.up), V.c (C.slice 1 (List.map eS c.n1.store.disk.sure)), V.c (C.slice 2 (List.map Wr.cs c.n1.store.disk.cache)), V.c (ii c.n1.store.disk.fuse), V.c (bo c.n1.store.disk.dead), V.c (ii c.n1.store.super.blocks), V.c (u c.n1.store.super.v.cur), V.c (u c.n1.store.super.v.bit), V.c (u c.n1.store.super.v.o0), V.c (u c.n1.store.super.v.o1), V.c (bo c.n1.store.super.inc), V.c (bo c.n1.store.super.pri), V.c (bo c.n1.store.super.dis), V.c (w4 (mi c.n1.store.mask)), V.c (bo c.n1.primary), V.c (ii c.n1.state), V.c (u c.n1.ses), V.c (ii c.n1.peer.blocks), V.c (u c.n1.peer.v.cur), V.c (u c.n1.peer.v.bit), V.c (u c.n1.peer.v.o0), V.c (u c.n1.peer.v.o1), V.c (bo c.n1.peer.inc), V.c (bo c.n1.peer.was), V.c (bo c.n1.peer.dis), V.c (bo c.n1.peer.pri), V.c (w4 (mi c.n1.peer.mask)), V.c (bo c.n1.peerPri), V.c (bo c.n1.req.on), V.c (ii c.n1.req.id), V.c (ii c.n1.req.block), V.c (st c.n1.req.data), V.c (bo c.n1.asking), V.c (ii c.n1.askId), V.c (ii c.n1.wanted), V.c (bo c.n1.minted), V.c (C.slice 1 (List.map eU c.n1.draws)), V.c (C.slice 3 (List.map Mi.cs c.n1.mints)), V.c (bo c.link.up), V.c (u c.link.ses), V.c (C.slice 1 (List.map eS c.link.to0)), V.c (C.slice 1 (List.map eS c.link.to1)), V.c (bo c.w0), V.c (bo c.w1)]] [List.length (List.map Mi.cs (mintsM c)), List.length (List.map eU (lineM (mintsM c) g))]
theorem bbk_0 (c : Cl) (old : Int) (g : Int) (i : Nat) (x : Int) (hx : (lineM (mintsM c) g)[i]? = some x) (k : Nat) (z0 : (decide ((↑i : Int) < (↑(List.length (lineM (mintsM c) g)) : Int))) = true) (z1 : (x == old) = true) : OutIs (EE (k + 6)) (HH 18) NN (LB PP 18 3) (Sbk c old g (↑i : Int)) (Ext.ret) (bbk_s0 c old g i x) :=
  out_run (aa (map_len (eU) (lineM (mintsM c) g)) <| aa z0 <| aa (rfl : (↑i : Int) = (↑i : Int)) <| aa (map_get (f := eU) hx) <| aa z1 <| trivial) (gs := [G.len (List.length (lineM (mintsM c) g)), gT, G.idx i [u x], gT]) (by kernel_rfl)
theorem bbk_1 (c : Cl) (old : Int) (g : Int) (i : Nat) (x : Int) (hx : (lineM (mintsM c) g)[i]? = some x) (k : Nat) (z0 : (decide ((↑i : Int) < (↑(List.length (lineM (mintsM c) g)) : Int))) = true) (z1 : (x == old) = false) : NextIs (EE (k + 6)) (HH 18) NN (LB PP 18 3) 1 2 (Sbk c old g (↑i : Int)) (Sbk c old g (IntKind.wrap .i64 ((↑i : Int) + 1))) :=
  next_run (aa (map_len (eU) (lineM (mintsM c) g)) <| aa z0 <| aa (rfl : (↑i : Int) = (↑i : Int)) <| aa (map_get (f := eU) hx) <| aa z1 <| trivial) (gs := [G.len (List.length (lineM (mintsM c) g)), gT, G.idx i [u x], gF]) (by kernel_rfl)
def bbk_s2 (c : Cl) (old : Int) (g : Int) (i : Nat) : St := St.mk (T.hole :: tc (u old) :: hs 5 (T.k (K.v (V.own 1 (List.map eU (lineM (mintsM c) g)) (Tk.tok 1))) :: tc (ii (↑i : Int)) :: hs 4 (tc (ii (↑i : Int)) :: T.k (K.v (V.own 1 (List.map eU (lineM (mintsM c) g)) (Tk.tok 1))) :: tc (ii (↑(List.length (lineM (mintsM c) g)) : Int)) :: tc (bo (decide ((↑i : Int) < (↑(List.length (lineM (mintsM c) g)) : Int)))) :: hs 9 []))) [[V.c (ii c.n0.id), V.c (bo c.n0.up), V.c (C.slice 1 (List.map eS c.n0.store.disk.sure)), V.c (C.slice 2 (List.map Wr.cs c.n0.store.disk.cache)), V.c (ii c.n0.store.disk.fuse), V.c (bo c.n0.store.disk.dead), V.c (ii c.n0.store.super.blocks), V.c (u c.n0.store.super.v.cur), V.c (u c.n0.store.super.v.bit), V.c (u c.n0.store.super.v.o0), V.c (u c.n0.store.super.v.o1), V.c (bo c.n0.store.super.inc), V.c (bo c.n0.store.super.pri), V.c (bo c.n0.store.super.dis), V.c (w4 (mi c.n0.store.mask)), V.c (bo c.n0.primary), V.c (ii c.n0.state), V.c (u c.n0.ses), V.c (ii c.n0.peer.blocks), V.c (u c.n0.peer.v.cur), V.c (u c.n0.peer.v.bit), V.c (u c.n0.peer.v.o0), V.c (u c.n0.peer.v.o1), V.c (bo c.n0.peer.inc), V.c (bo c.n0.peer.was), V.c (bo c.n0.peer.dis), V.c (bo c.n0.peer.pri), V.c (w4 (mi c.n0.peer.mask)), V.c (bo c.n0.peerPri), V.c (bo c.n0.req.on), V.c (ii c.n0.req.id), V.c (ii c.n0.req.block), V.c (st c.n0.req.data), V.c (bo c.n0.asking), V.c (ii c.n0.askId), V.c (ii c.n0.wanted), V.c (bo c.n0.minted), V.c (C.slice 1 (List.map eU c.n0.draws)), V.c (C.slice 3 (List.map Mi.cs c.n0.mints)), V.c (ii c.n1.id), V.c (bo c.n1.up), V.c (C.slice 1 (List.map eS c.n1.store.disk.sure)), V.c (C.slice 2 (List.map Wr.cs c.n1.store.disk.cache)), V.c (ii c.n1.store.disk.fuse), V.c (bo c.n1.store.disk.dead), V.c (ii c.n1.store.super.blocks), V.c (u c.n1.store.super.v.cur), V.c (u c.n1.store.super.v.bit), V.c (u c.n1.store.super.v.o0), V.c (u c.n1.store.super.v.o1), V.c (bo c.n1.store.super.inc), V.c (bo c.n1.store.super.pri), V.c (bo c.n1.store.super.dis), V.c (w4 (mi c.n1.store.mask)), V.c (bo c.n1.primary), V.c (ii c.n1.state), V.c (u c.n1.ses), V.c (ii c.n1.peer.blocks), V.c (u c.n1.peer.v.cur), V.c (u c.n1.peer.v.bit), V.c (u c.n1.peer.v.o0), V.c (u c.n1.peer.v.o1), V.c (bo c.n1.peer.inc), V.c (bo c.n1.peer.was), V.c (bo c.n1.peer.dis), V.c (bo c.n1.peer.pri), V.c (w4 (mi c.n1.peer.mask)), V.c (bo c.n1.peerPri), V.c (bo c.n1.req.on), V.c (ii c.n1.req.id), V.c (ii c.n1.req.block), V.c (st c.n1.req.data), V.c (bo c.n1.asking), V.c (ii c.n1.askId), V.c (ii c.n1.wanted), V.c (bo c.n1.minted), V.c (C.slice 1 (List.map eU c.n1.draws)), V.c (C.slice 3 (List.map Mi.cs c.n1.mints)), V.c (bo c.link.up), V.c (u c.link.ses), V.c (C.slice 1 (List.map eS c.link.to0)), V.c (C.slice 1 (List.map eS c.link.to1)), V.c (bo c.w0), V.c (bo c.w1)]] [List.length (List.map Mi.cs (mintsM c)), List.length (List.map eU (lineM (mintsM c) g))]
theorem bbk_2 (c : Cl) (old : Int) (g : Int) (i : Nat) (k : Nat) (z0 : (decide ((↑i : Int) < (↑(List.length (lineM (mintsM c) g)) : Int))) = false) : OutIs (EE (k + 6)) (HH 18) NN (LB PP 18 3) (Sbk c old g (↑i : Int)) (Ext.exit 0) (bbk_s2 c old g i) :=
  out_run (aa (map_len (eU) (lineM (mintsM c) g)) <| aa z0 <| trivial) (gs := [G.len (List.length (lineM (mintsM c) g)), gF]) (by kernel_rfl)
theorem bkF1 (c : Cl) (old : Int) (g : Int) (h : c.n0.mints.length + c.n1.mints.length ≤ 100000) (hM : List.length (mintsM c) ≤ 100000) (i : Nat) (x : Int) (hL : ∀ k, LoopAt (EE (k + 6)) (HH 18) NN (LB PP 18 3) (Sbk c old g 0) Ext.ret (bbk_s0 c old g i x)) (k : Nat) : orac PP GL XX HH NN (k + 7) 18 [A.agg (Cl.cs c), A.c (u old), A.c (u g)] [] = some ([Res.c (ii (↑i : Int))], []) := by
  exact rt (aa (mints14 c (show c.n0.mints.length ≤ 1000000 from by omega) (show c.n1.mints.length ≤ 1000000 from by omega) (k + 5)) <| aa (line38 (mintsM c) g hM (k + 1)) <| aa (hL k) <| trivial) (gs := [G.call [Res.top 3 (List.map Mi.cs (mintsM c))] [], G.call [Res.top 1 (List.map eU (lineM (mintsM c) g))] [], G.loop Ext.ret (bbk_s0 c old g i x)]) (rs := [Res.c (ii (↑i : Int))]) rfl
theorem bkF2 (c : Cl) (old : Int) (g : Int) (h : c.n0.mints.length + c.n1.mints.length ≤ 100000) (hM : List.length (mintsM c) ≤ 100000) (hL : ∀ k, LoopAt (EE (k + 6)) (HH 18) NN (LB PP 18 3) (Sbk c old g 0) (Ext.exit 0) (bbk_s2 c old g (List.length (lineM (mintsM c) g)))) (k : Nat) : orac PP GL XX HH NN (k + 7) 18 [A.agg (Cl.cs c), A.c (u old), A.c (u g)] [] = some ([Res.c (ii (-1 : Int))], []) := by
  exact rt (aa (mints14 c (show c.n0.mints.length ≤ 1000000 from by omega) (show c.n1.mints.length ≤ 1000000 from by omega) (k + 5)) <| aa (line38 (mintsM c) g hM (k + 1)) <| aa (hL k) <| trivial) (gs := [G.call [Res.top 3 (List.map Mi.cs (mintsM c))] [], G.call [Res.top 1 (List.map eU (lineM (mintsM c) g))] [], G.loop (Ext.exit 0) (bbk_s2 c old g (List.length (lineM (mintsM c) g)))]) (rs := [Res.c (ii (-1 : Int))]) rfl
theorem back18 (c : Cl) (old g : Int) (h : c.n0.mints.length + c.n1.mints.length ≤ 100000) (k : Nat) : orac PP GL XX HH NN (k + 7) 18 [.agg c.cs, .c (u old), .c (u g)] [] = some ([.c (ii (backM c old g))], []) := by
  have hM : (mintsM c).length ≤ 100000 := by rw [mintsM_len]; exact h
  have hl := lineM_le hM g
  unfold backM idxM
  rcases search (E := fun k => EE (k + 6)) (H := HH 18) (n := NN) (b := LB PP 18 3) (fun i => Sbk c old g (i : Nat)) (lineM (mintsM c) g) (old == ·) (fun i x => bbk_s0 c old g i x) (bbk_s2 c old g (lineM (mintsM c) g).length) (nv := 1) (nt := 2) (e := .ret) (e' := .exit 0) (by kernel_rfl) (by kernel_rfl)
    (fun k i x hx hp => by
      have := bbk_1 c old g i x hx k (dlt hx) (by rw [Bool.beq_comm]; exact hp)
      rwa [w64g hx (by omega)] at this)
    (fun k i x hx hp => bbk_0 c old g i x hx k (dlt hx) (by rw [Bool.beq_comm]; exact hp))
    (fun k => bbk_2 c old g (lineM (mintsM c) g).length k dge) (by unfold NN; omega) with ⟨hb, hL⟩ | ⟨hb, i, x, hx, hp, hf, hj, hL⟩
  · rw [hb]; exact bkF2 c old g h hM hL k
  · rw [hb, idx_hit hx hp hj]; exact bkF1 c old g h hM i x hL k
theorem clo0 (c : Cl) (d : Cl) (k : Nat) : orac PP GL XX HH NN (k + 1) 40 [A.c (ii 0), A.c (C.rptr (Cl.cs d)), A.c (C.rptr (Cl.cs c))] [] = some ([Res.c (bo (Nd.state d.n0 == 4 && !Nd.state c.n0 == 4))], []) := by
  rcases bft (Nd.state d.n0 == 4) with z0 | z0
  · exact rt (aa (rfl : (0 : Int) = 0) <| xa3 z0 <| aa (rfl : (0 : Int) = 0) <| xa4 z0 <| trivial) (gs := xc (G.at 0) <| xg3 gT <| xc (G.at 0) <| xg4 gT <| []) (rs := [Res.c (bo (Nd.state c.n0 != 4))]) (by simp only [z0, vq1, vq2, vq3, vq4, vq5, vq6, vq7, vq8] <;> rfl)
  · exact rt (aa (rfl : (0 : Int) = 0) <| xa7 z0 <| trivial) (gs := xc (G.at 0) <| xg7 gF <| []) (rs := [Res.c (bo false)]) (by simp only [z0, vq1, vq2, vq3, vq4, vq5, vq6, vq7, vq8] <;> rfl)
theorem clo1 (c : Cl) (d : Cl) (k : Nat) : orac PP GL XX HH NN (k + 1) 40 [A.c (ii 1), A.c (C.rptr (Cl.cs d)), A.c (C.rptr (Cl.cs c))] [] = some ([Res.c (bo (Nd.state d.n1 == 4 && !Nd.state c.n1 == 4))], []) := by
  rcases bft (Nd.state d.n1 == 4) with z0 | z0
  · exact rt (aa (rfl : (1 : Int) = 1) <| xa3 z0 <| aa (rfl : (1 : Int) = 1) <| xa4 z0 <| trivial) (gs := xc (G.at 1) <| xg3 gT <| xc (G.at 1) <| xg4 gT <| []) (rs := [Res.c (bo (Nd.state c.n1 != 4))]) (by simp only [z0, vq1, vq2, vq3, vq4, vq5, vq6, vq7, vq8] <;> rfl)
  · exact rt (aa (rfl : (1 : Int) = 1) <| xa7 z0 <| trivial) (gs := xc (G.at 1) <| xg7 gF <| []) (rs := [Res.c (bo false)]) (by simp only [z0, vq1, vq2, vq3, vq4, vq5, vq6, vq7, vq8] <;> rfl)
theorem ixf39 (c : Cl) (d : Cl) (k : Nat) : orac PP GL XX HH NN (k + 2) 39 [A.c (C.slice 1 [[ii 0], [ii 1]]), A.c (C.fn 40 [C.rptr (Cl.cs d), C.rptr (Cl.cs c)])] [] = some ([Res.c (ii (startM c d))], []) := by
  rcases bft (Nd.state d.n0 == 4 && !Nd.state c.n0 == 4) with z0 | z0
  · exact rt (aa (rfl : (2 : Nat) = (2 : Nat)) <| aa tt <| aa (rfl : (0 : Int) = (0 : Int)) <| aa (rfl : some ([ii 0]) = some ([ii 0])) <| aa (clo0 c d k) <| aa z0 <| trivial) (gs := [G.len 2, G.un, gT, G.idx 0 [ii 0], G.call [Res.c (bo (Nd.state d.n0 == 4 && !Nd.state c.n0 == 4))] [], gT]) (rs := [Res.c (ii 0)]) (by simp only [startM, z0, vq1, vq2, vq3, vq4, vq5, vq6, vq7, vq8] <;> rfl)
  · rcases bft (Nd.state d.n1 == 4 && !Nd.state c.n1 == 4) with z1 | z1
    · exact rt (aa (rfl : (2 : Nat) = (2 : Nat)) <| aa tt <| aa (rfl : (0 : Int) = (0 : Int)) <| aa (rfl : some ([ii 0]) = some ([ii 0])) <| aa (clo0 c d k) <| aa z0 <| aa tt <| aa (rfl : (1 : Int) = (1 : Int)) <| aa (rfl : some ([ii 1]) = some ([ii 1])) <| aa (clo1 c d k) <| aa z1 <| trivial) (gs := [G.len 2, G.un, gT, G.idx 0 [ii 0], G.call [Res.c (bo (Nd.state d.n0 == 4 && !Nd.state c.n0 == 4))] [], gF, gT, G.idx 1 [ii 1], G.call [Res.c (bo (Nd.state d.n1 == 4 && !Nd.state c.n1 == 4))] [], gT]) (rs := [Res.c (ii 1)]) (by simp only [startM, z0, z1, vq1, vq2, vq3, vq4, vq5, vq6, vq7, vq8] <;> rfl)
    · exact rt (aa (rfl : (2 : Nat) = (2 : Nat)) <| aa tt <| aa (rfl : (0 : Int) = (0 : Int)) <| aa (rfl : some ([ii 0]) = some ([ii 0])) <| aa (clo0 c d k) <| aa z0 <| aa tt <| aa (rfl : (1 : Int) = (1 : Int)) <| aa (rfl : some ([ii 1]) = some ([ii 1])) <| aa (clo1 c d k) <| aa z1 <| aa ff <| trivial) (gs := xc (G.len 2) <| xc G.un <| xc gT <| xc (G.idx 0 [ii 0]) <| xc (G.call [Res.c (bo (Nd.state d.n0 == 4 && !Nd.state c.n0 == 4))] []) <| xc gF <| xc gT <| xc (G.idx 1 [ii 1]) <| xc (G.call [Res.c (bo (Nd.state d.n1 == 4 && !Nd.state c.n1 == 4))] []) <| xg2 gF <| []) (rs := [Res.c (ii (-1 : Int))]) (by simp only [startM, z0, z1, vq1, vq2, vq3, vq4, vq5, vq6, vq7, vq8] <;> rfl)
theorem start19 (c : Cl) (d : Cl) (k : Nat) : orac PP GL XX HH NN (k + 3) 19 [A.agg (Cl.cs c), A.agg (Cl.cs d)] [] = some ([Res.c (ii (startM c d))], []) := by
  exact rt (aa (ixf39 c d k) <| trivial) (gs := [G.call [Res.c (ii (startM c d))] []]) (rs := [Res.c (ii (startM c d))]) rfl
theorem start20 (c : Cl) (d : Cl) (k : Nat) : orac PP GL XX HH NN (k + 1) 20 [A.agg (Cl.cs c), A.agg (Cl.cs d)] [] = some ([Res.c (ii (startM c d))], []) := by
  rcases bft (Nd.state d.n0 == 4) with z0 | z0
  · rcases bft (Nd.state c.n0 == 4) with z1 | z1
    · rcases bft (Nd.state d.n1 == 4) with z2 | z2
      · rcases bft (Nd.state c.n1 == 4) with z3 | z3
        · exact rt (aa tt <| aa (rfl : (0 : Int) = 0) <| xa3 z0 <| aa (rfl : (0 : Int) = 0) <| xa4 z0 <| aa (cn z1) <| aa tt <| aa (rfl : (1 : Int) = 1) <| xa3 z2 <| aa (rfl : (1 : Int) = 1) <| xa4 z2 <| aa (cn z3) <| aa ff <| trivial) (gs := xc G.un <| xc gT <| xc (G.at 0) <| xg3 gT <| xc (G.at 0) <| xg4 gT <| xc gF <| xc gT <| xc (G.at 1) <| xg3 gT <| xc (G.at 1) <| xg4 gT <| xg2 gF <| []) (rs := [Res.c (ii (-1 : Int))]) (by simp only [startM, z0, z1, z2, z3, vq1, vq2, vq3, vq4, vq5, vq6, vq7, vq8] <;> rfl)
        · exact rt (aa tt <| aa (rfl : (0 : Int) = 0) <| xa3 z0 <| aa (rfl : (0 : Int) = 0) <| xa4 z0 <| aa (cn z1) <| aa tt <| aa (rfl : (1 : Int) = 1) <| xa3 z2 <| aa (rfl : (1 : Int) = 1) <| xa4 z2 <| aa (cn z3) <| trivial) (gs := xc G.un <| xc gT <| xc (G.at 0) <| xg3 gT <| xc (G.at 0) <| xg4 gT <| xc gF <| xc gT <| xc (G.at 1) <| xg3 gT <| xc (G.at 1) <| xg5 gT <| []) (rs := [Res.c (ii 1)]) (by simp only [startM, z0, z1, z2, z3, vq1, vq2, vq3, vq4, vq5, vq6, vq7, vq8] <;> rfl)
      · exact rt (aa tt <| aa (rfl : (0 : Int) = 0) <| xa3 z0 <| aa (rfl : (0 : Int) = 0) <| xa4 z0 <| aa (cn z1) <| aa tt <| aa (rfl : (1 : Int) = 1) <| xa7 z2 <| xa2 ff <| trivial) (gs := xc G.un <| xc gT <| xc (G.at 0) <| xg3 gT <| xc (G.at 0) <| xg4 gT <| xc gF <| xc gT <| xc (G.at 1) <| xg9 gF <| []) (rs := [Res.c (ii (-1 : Int))]) (by simp only [startM, z0, z1, z2, vq1, vq2, vq3, vq4, vq5, vq6, vq7, vq8] <;> rfl)
    · exact rt (aa tt <| aa (rfl : (0 : Int) = 0) <| xa3 z0 <| aa (rfl : (0 : Int) = 0) <| xa4 z0 <| aa (cn z1) <| trivial) (gs := xc G.un <| xc gT <| xc (G.at 0) <| xg3 gT <| xc (G.at 0) <| xg5 gT <| []) (rs := [Res.c (ii 0)]) (by simp only [startM, z0, z1, vq1, vq2, vq3, vq4, vq5, vq6, vq7, vq8] <;> rfl)
  · rcases bft (Nd.state d.n1 == 4) with z1 | z1
    · rcases bft (Nd.state c.n1 == 4) with z2 | z2
      · exact rt (aa tt <| aa (rfl : (0 : Int) = 0) <| xa7 z0 <| aa ff <| aa tt <| aa (rfl : (1 : Int) = 1) <| xa3 z1 <| aa (rfl : (1 : Int) = 1) <| xa4 z1 <| aa (cn z2) <| aa ff <| trivial) (gs := xc G.un <| xc gT <| xc (G.at 0) <| xg8 gF <| xc gT <| xc (G.at 1) <| xg3 gT <| xc (G.at 1) <| xg4 gT <| xg2 gF <| []) (rs := [Res.c (ii (-1 : Int))]) (by simp only [startM, z0, z1, z2, vq1, vq2, vq3, vq4, vq5, vq6, vq7, vq8] <;> rfl)
      · exact rt (aa tt <| aa (rfl : (0 : Int) = 0) <| xa7 z0 <| aa ff <| aa tt <| aa (rfl : (1 : Int) = 1) <| xa3 z1 <| aa (rfl : (1 : Int) = 1) <| xa4 z1 <| aa (cn z2) <| trivial) (gs := xc G.un <| xc gT <| xc (G.at 0) <| xg8 gF <| xc gT <| xc (G.at 1) <| xg3 gT <| xc (G.at 1) <| xg5 gT <| []) (rs := [Res.c (ii 1)]) (by simp only [startM, z0, z1, z2, vq1, vq2, vq3, vq4, vq5, vq6, vq7, vq8] <;> rfl)
    · exact rt (aa tt <| aa (rfl : (0 : Int) = 0) <| xa7 z0 <| aa ff <| aa tt <| aa (rfl : (1 : Int) = 1) <| xa7 z1 <| xa2 ff <| trivial) (gs := xc G.un <| xc gT <| xc (G.at 0) <| xg8 gF <| xc gT <| xc (G.at 1) <| xg9 gF <| []) (rs := [Res.c (ii (-1 : Int))]) (by simp only [startM, z0, z1, vq1, vq2, vq3, vq4, vq5, vq6, vq7, vq8] <;> rfl)
def Ssa (l : List Mi) (c0 : Int) : St := St.mk (tc (C.slice 3 (List.map Mi.cs l)) :: tc (C.slice 3 (List.map Mi.cs l)) :: T.hole :: T.hole :: T.hole :: tc (ii c0) :: hs 20 []) [] []
theorem bsa_0 (l : List Mi) (i : Nat) (x : Mi) (hx : l[i]? = some x) (k : Nat) (z0 : (decide ((↑i : Int) < (↑(l.length) : Int))) = true) (z1 : (Mi.g x == Mi.g x && (Mi.p x == Mi.p x && (Mi.n x == Mi.n x && true))) = true) : NextIs (EE (k + 1)) (HH 12) NN (LB PP 12 4) 0 0 (Ssa l (↑i : Int)) (Ssa l (IntKind.wrap .i64 ((↑i : Int) + 1))) :=
  next_run (aa (map_len (Mi.cs) (l)) <| aa z0 <| aa (rfl : (↑i : Int) = (↑i : Int)) <| aa (map_get (f := Mi.cs) hx) <| aa (rfl : (↑i : Int) = (↑i : Int)) <| aa (map_get (f := Mi.cs) hx) <| aa (cn z1) <| trivial) (gs := xc (G.len (l.length)) <| xc gT <| xg2 (G.idx i [u x.g, u x.p, ii x.n]) <| [gF]) (by kernel_rfl)
def bsa_s2 (l : List Mi) (i : Nat) : St := St.mk (tc (C.slice 3 (List.map Mi.cs l)) :: tc (C.slice 3 (List.map Mi.cs l)) :: T.hole :: T.hole :: T.hole :: tc (ii (↑i : Int)) :: hs 5 (tc (ii (↑i : Int)) :: tc (C.slice 3 (List.map Mi.cs l)) :: tc (ii (↑(l.length) : Int)) :: tc (bo (decide ((↑i : Int) < (↑(l.length) : Int)))) :: hs 11 [])) [] []
theorem bsa_2 (l : List Mi) (i : Nat) (k : Nat) (z0 : (decide ((↑i : Int) < (↑(l.length) : Int))) = false) : OutIs (EE (k + 1)) (HH 12) NN (LB PP 12 4) (Ssa l (↑i : Int)) (Ext.exit 0) (bsa_s2 l i) :=
  out_run (aa (map_len (Mi.cs) (l)) <| aa z0 <| trivial) (gs := [G.len (l.length), gF]) (by kernel_rfl)
theorem saF (l : List Mi) (hL : ∀ k, LoopAt (EE (k + 1)) (HH 12) NN (LB PP 12 4) (Ssa l 0) (Ext.exit 0) (bsa_s2 l (l.length))) (k : Nat) : orac PP GL XX HH NN (k + 2) 12 [A.c (C.slice 3 (List.map Mi.cs l)), A.c (C.slice 3 (List.map Mi.cs l))] [] = some ([Res.c (bo true)], []) := by
  exact rt (xa2 (map_len (Mi.cs) (l)) <| aa (cn (beq_t ((↑(l.length) : Int)))) <| aa (hL k) <| trivial) (gs := xg2 (G.len (l.length)) <| [gF, G.loop (Ext.exit 0) (bsa_s2 l (l.length))]) (rs := [Res.c (bo true)]) rfl
theorem same12 (l : List Mi) (hl : l.length ≤ 1000000) (k : Nat) : orac PP GL XX HH NN (k + 2) 12 [.c (.slice 3 (l.map Mi.cs)), .c (.slice 3 (l.map Mi.cs))] [] = some ([.c (bo true)], []) := by
  refine saF l (fun k => ?_) k
  refine loop_of (E := EE (k + 1)) (nv := 0) (nt := 0) (fun i => Ssa l (i : Nat)) l.length rfl (by kernel_rfl) (by kernel_rfl) (fun i hi => ?_) (bsa_2 l l.length k dge) (by unfold NN; omega)
  have hx : l[i]? = some l[i] := List.getElem?_eq_getElem hi
  have := bsa_0 l i l[i] hx k (dlt hx) (by simp)
  rwa [w64g hx (by omega)] at this
theorem fair21_n (c : Cl) (d : Cl) (h : c.n0.mints.length + c.n1.mints.length ≤ 100000) (hM : List.length (mintsM c) ≤ 100000) (hS : ∀ k, orac PP GL XX HH NN (k + 6) 19 [A.agg (Cl.cs c), A.agg (Cl.cs d)] [] = some ([Res.c (ii (-1 : Int))], [])) (k : Nat) : orac PP GL XX HH NN (k + 7) 21 [A.agg (Cl.cs c), A.agg (Cl.cs d)] [] = some ([Res.c (bo true)], []) := by
  exact rt (aa (hS k) <| aa tt <| trivial) (gs := [G.call [Res.c (ii (-1 : Int))] [], gT]) (rs := [Res.c (bo true)]) rfl
theorem fair22_n (c : Cl) (d : Cl) (h : c.n0.mints.length + c.n1.mints.length ≤ 100000) (hS : ∀ k, orac PP GL XX HH NN (k + 7) 20 [A.agg (Cl.cs c), A.agg (Cl.cs d)] [] = some ([Res.c (ii (-1 : Int))], [])) (k : Nat) : orac PP GL XX HH NN (k + 8) 22 [A.agg (Cl.cs c), A.agg (Cl.cs d)] [] = some ([Res.c (bo true)], []) := by
  exact rt (aa (hS k) <| aa tt <| trivial) (gs := [G.call [Res.c (ii (-1 : Int))] [], gT]) (rs := [Res.c (bo true)]) rfl
theorem fair21_0 (c : Cl) (d : Cl) (h : c.n0.mints.length + c.n1.mints.length ≤ 100000) (hM : List.length (mintsM c) ≤ 100000) (hS : ∀ k, orac PP GL XX HH NN (k + 6) 19 [A.agg (Cl.cs c), A.agg (Cl.cs d)] [] = some ([Res.c (ii 0)], [])) (k : Nat) : orac PP GL XX HH NN (k + 7) 21 [A.agg (Cl.cs c), A.agg (Cl.cs d)] [] = some ([Res.c (bo (Nd.up c.n0 && Nd.up c.n1 && (Su.inc c.n0.store.super || (Su.dis c.n0.store.super || inL (mintsM c) c.n0.store.super.v.cur c.n1.store.super.v.cur))))], []) := by
  rcases bft c.n0.up with z0 | z0
  · rcases bft c.n1.up with z1 | z1
    · rcases bft c.n0.store.super.inc with z2 | z2
      · exact rt (aa (hS k) <| aa ff <| xa6 (cn z0) <| aa (cn z1) <| aa (rfl : (0 : Int) = 0) <| xa3 z2 <| xa11 tt <| trivial) (gs := xc (G.call [Res.c (ii 0)] []) <| xg8 gF <| xc (G.at 0) <| xg12 gT <| xg2 gT <| []) (rs := [Res.c (bo true)]) (by simp only [z0, z1, z2, vq1, vq2, vq3, vq4, vq5, vq6, vq7, vq8] <;> rfl)
      · rcases bft c.n0.store.super.dis with z3 | z3
        · exact rt (aa (hS k) <| aa ff <| xa6 (cn z0) <| aa (cn z1) <| aa (rfl : (0 : Int) = 0) <| xa3 z2 <| xa11 z3 <| trivial) (gs := xc (G.call [Res.c (ii 0)] []) <| xg8 gF <| xc (G.at 0) <| xg3 gF <| xg11 gT <| []) (rs := [Res.c (bo true)]) (by simp only [z0, z1, z2, z3, vq1, vq2, vq3, vq4, vq5, vq6, vq7, vq8] <;> rfl)
        · exact rt (aa (hS k) <| aa ff <| xa6 (cn z0) <| aa (cn z1) <| aa (rfl : (0 : Int) = 0) <| xa3 z2 <| xa2 z3 <| aa (mints13 c (show c.n0.mints.length + c.n1.mints.length ≤ 1000000 from by omega) (k + 3)) <| xa3 z3 <| aa (head32_0 c (k + 5)) <| xa4 z3 <| aa (head32_1 c (k + 5)) <| aa z3 <| aa (in34b (mintsM c) c.n0.store.super.v.cur c.n1.store.super.v.cur hM k) <| aa z3 <| trivial) (gs := xc (G.call [Res.c (ii 0)] []) <| xg8 gF <| xc (G.at 0) <| xg5 gF <| xc (G.call [Res.top 3 (List.map Mi.cs (mintsM c))] []) <| xg3 gF <| xc (G.call [Res.c (u c.n0.store.super.v.cur)] []) <| xg4 gF <| [G.call [Res.c (u c.n1.store.super.v.cur)] [], gF, G.call [Res.c (bo (inL (mintsM c) c.n0.store.super.v.cur c.n1.store.super.v.cur))] [], gF]) (rs := [Res.c (bo (inL (mintsM c) c.n0.store.super.v.cur c.n1.store.super.v.cur))]) (by simp only [z0, z1, z2, z3, vq1, vq2, vq3, vq4, vq5, vq6, vq7, vq8] <;> rfl)
    · exact rt (aa (hS k) <| aa ff <| xa6 (cn z0) <| aa (cn z1) <| trivial) (gs := xc (G.call [Res.c (ii 0)] []) <| xg7 gF <| [gT]) (rs := [Res.c (bo false)]) (by simp only [z0, z1, vq1, vq2, vq3, vq4, vq5, vq6, vq7, vq8] <;> rfl)
  · exact rt (aa (hS k) <| aa ff <| xa6 (cn z0) <| aa tt <| trivial) (gs := xc (G.call [Res.c (ii 0)] []) <| xc gF <| xg7 gT <| []) (rs := [Res.c (bo false)]) (by simp only [z0, vq1, vq2, vq3, vq4, vq5, vq6, vq7, vq8] <;> rfl)
theorem fair22_0 (c : Cl) (d : Cl) (h : c.n0.mints.length + c.n1.mints.length ≤ 100000) (hS : ∀ k, orac PP GL XX HH NN (k + 7) 20 [A.agg (Cl.cs c), A.agg (Cl.cs d)] [] = some ([Res.c (ii 0)], [])) (k : Nat) : orac PP GL XX HH NN (k + 8) 22 [A.agg (Cl.cs c), A.agg (Cl.cs d)] [] = some ([Res.c (bo (Nd.up c.n0 && Nd.up c.n1 && (Su.inc c.n0.store.super || (Su.dis c.n0.store.super || decide (backM c c.n0.store.super.v.cur c.n1.store.super.v.cur ≥ 0)))))], []) := by
  rcases bft c.n0.up with z0 | z0
  · rcases bft c.n1.up with z1 | z1
    · rcases bft c.n0.store.super.inc with z2 | z2
      · exact rt (aa (hS k) <| aa ff <| aa (rfl : (0 : Int) = 0) <| xa5 z0 <| xa3 z1 <| xa2 z2 <| aa z1 <| aa z2 <| aa z1 <| xa10 tt <| aa z1 <| aa tt <| aa z1 <| trivial) (gs := xc (G.call [Res.c (ii 0)] []) <| xc gF <| xc (G.at 0) <| xg12 gT <| xg12 gT <| xg2 gT <| []) (rs := [Res.c (bo true)]) (by simp only [z0, z1, z2, vq1, vq2, vq3, vq4, vq5, vq6, vq7, vq8] <;> rfl)
      · rcases bft c.n0.store.super.dis with z3 | z3
        · exact rt (aa (hS k) <| aa ff <| aa (rfl : (0 : Int) = 0) <| xa5 z0 <| xa3 z1 <| xa2 z2 <| aa z1 <| aa z2 <| aa z1 <| xa10 z3 <| aa z1 <| aa z3 <| aa z1 <| trivial) (gs := xc (G.call [Res.c (ii 0)] []) <| xc gF <| xc (G.at 0) <| xg8 gT <| xg2 gF <| xc gT <| xc gF <| xg12 gT <| xg2 gT <| []) (rs := [Res.c (bo true)]) (by simp only [z0, z1, z2, z3, vq1, vq2, vq3, vq4, vq5, vq6, vq7, vq8] <;> rfl)
        · exact rt (aa (hS k) <| aa ff <| aa (rfl : (0 : Int) = 0) <| xa5 z0 <| xa3 z1 <| xa2 z2 <| aa z1 <| aa z2 <| aa z1 <| xa4 z3 <| aa (head11_0 c (k + 6)) <| xa4 z3 <| aa (head11_1 c (k + 6)) <| aa z3 <| aa (back18 c c.n0.store.super.v.cur c.n1.store.super.v.cur h k) <| aa z3 <| aa z1 <| aa z3 <| aa z1 <| trivial) (gs := xc (G.call [Res.c (ii 0)] []) <| xc gF <| xc (G.at 0) <| xg8 gT <| xg2 gF <| xc gT <| xc gF <| xc gT <| xg4 gF <| xc (G.call [Res.c (u c.n0.store.super.v.cur)] []) <| xg4 gF <| [G.call [Res.c (u c.n1.store.super.v.cur)] [], gF, G.call [Res.c (ii (backM c c.n0.store.super.v.cur c.n1.store.super.v.cur))] [], gF, gT, gF, gT]) (rs := [Res.c (bo (decide (backM c c.n0.store.super.v.cur c.n1.store.super.v.cur ≥ 0)))]) (by simp only [z0, z1, z2, z3, vq1, vq2, vq3, vq4, vq5, vq6, vq7, vq8] <;> rfl)
    · exact rt (aa (hS k) <| aa ff <| aa (rfl : (0 : Int) = 0) <| xa5 z0 <| xa7 z1 <| trivial) (gs := xc (G.call [Res.c (ii 0)] []) <| xc gF <| xc (G.at 0) <| xg5 gT <| xg7 gF <| []) (rs := [Res.c (bo false)]) (by simp only [z0, z1, vq1, vq2, vq3, vq4, vq5, vq6, vq7, vq8] <;> rfl)
  · exact rt (aa (hS k) <| aa ff <| aa (rfl : (0 : Int) = 0) <| xa5 z0 <| xa7 ff <| trivial) (gs := xc (G.call [Res.c (ii 0)] []) <| xc gF <| xc (G.at 0) <| xg12 gF <| []) (rs := [Res.c (bo false)]) (by simp only [z0, vq1, vq2, vq3, vq4, vq5, vq6, vq7, vq8] <;> rfl)
theorem fair21_1 (c : Cl) (d : Cl) (h : c.n0.mints.length + c.n1.mints.length ≤ 100000) (hM : List.length (mintsM c) ≤ 100000) (hS : ∀ k, orac PP GL XX HH NN (k + 6) 19 [A.agg (Cl.cs c), A.agg (Cl.cs d)] [] = some ([Res.c (ii 1)], [])) (k : Nat) : orac PP GL XX HH NN (k + 7) 21 [A.agg (Cl.cs c), A.agg (Cl.cs d)] [] = some ([Res.c (bo (Nd.up c.n0 && Nd.up c.n1 && (Su.inc c.n1.store.super || (Su.dis c.n1.store.super || inL (mintsM c) c.n1.store.super.v.cur c.n0.store.super.v.cur))))], []) := by
  rcases bft c.n0.up with z0 | z0
  · rcases bft c.n1.up with z1 | z1
    · rcases bft c.n1.store.super.inc with z2 | z2
      · exact rt (aa (hS k) <| aa ff <| xa6 (cn z0) <| aa (cn z1) <| aa (rfl : (1 : Int) = 1) <| xa3 z2 <| xa11 tt <| trivial) (gs := xc (G.call [Res.c (ii 1)] []) <| xg8 gF <| xc (G.at 1) <| xg12 gT <| xg2 gT <| []) (rs := [Res.c (bo true)]) (by simp only [z0, z1, z2, vq1, vq2, vq3, vq4, vq5, vq6, vq7, vq8] <;> rfl)
      · rcases bft c.n1.store.super.dis with z3 | z3
        · exact rt (aa (hS k) <| aa ff <| xa6 (cn z0) <| aa (cn z1) <| aa (rfl : (1 : Int) = 1) <| xa3 z2 <| xa11 z3 <| trivial) (gs := xc (G.call [Res.c (ii 1)] []) <| xg8 gF <| xc (G.at 1) <| xg3 gF <| xg11 gT <| []) (rs := [Res.c (bo true)]) (by simp only [z0, z1, z2, z3, vq1, vq2, vq3, vq4, vq5, vq6, vq7, vq8] <;> rfl)
        · exact rt (aa (hS k) <| aa ff <| xa6 (cn z0) <| aa (cn z1) <| aa (rfl : (1 : Int) = 1) <| xa3 z2 <| xa2 z3 <| aa (mints13 c (show c.n0.mints.length + c.n1.mints.length ≤ 1000000 from by omega) (k + 3)) <| xa3 z3 <| aa (head32_1 c (k + 5)) <| xa4 z3 <| aa (head32_0 c (k + 5)) <| aa z3 <| aa (in34b (mintsM c) c.n1.store.super.v.cur c.n0.store.super.v.cur hM k) <| aa z3 <| trivial) (gs := xc (G.call [Res.c (ii 1)] []) <| xg8 gF <| xc (G.at 1) <| xg5 gF <| xc (G.call [Res.top 3 (List.map Mi.cs (mintsM c))] []) <| xg3 gF <| xc (G.call [Res.c (u c.n1.store.super.v.cur)] []) <| xg4 gF <| [G.call [Res.c (u c.n0.store.super.v.cur)] [], gF, G.call [Res.c (bo (inL (mintsM c) c.n1.store.super.v.cur c.n0.store.super.v.cur))] [], gF]) (rs := [Res.c (bo (inL (mintsM c) c.n1.store.super.v.cur c.n0.store.super.v.cur))]) (by simp only [z0, z1, z2, z3, vq1, vq2, vq3, vq4, vq5, vq6, vq7, vq8] <;> rfl)
    · exact rt (aa (hS k) <| aa ff <| xa6 (cn z0) <| aa (cn z1) <| trivial) (gs := xc (G.call [Res.c (ii 1)] []) <| xg7 gF <| [gT]) (rs := [Res.c (bo false)]) (by simp only [z0, z1, vq1, vq2, vq3, vq4, vq5, vq6, vq7, vq8] <;> rfl)
  · exact rt (aa (hS k) <| aa ff <| xa6 (cn z0) <| aa tt <| trivial) (gs := xc (G.call [Res.c (ii 1)] []) <| xc gF <| xg7 gT <| []) (rs := [Res.c (bo false)]) (by simp only [z0, vq1, vq2, vq3, vq4, vq5, vq6, vq7, vq8] <;> rfl)
theorem fair22_1 (c : Cl) (d : Cl) (h : c.n0.mints.length + c.n1.mints.length ≤ 100000) (hS : ∀ k, orac PP GL XX HH NN (k + 7) 20 [A.agg (Cl.cs c), A.agg (Cl.cs d)] [] = some ([Res.c (ii 1)], [])) (k : Nat) : orac PP GL XX HH NN (k + 8) 22 [A.agg (Cl.cs c), A.agg (Cl.cs d)] [] = some ([Res.c (bo (Nd.up c.n0 && Nd.up c.n1 && (Su.inc c.n1.store.super || (Su.dis c.n1.store.super || decide (backM c c.n1.store.super.v.cur c.n0.store.super.v.cur ≥ 0)))))], []) := by
  rcases bft c.n0.up with z0 | z0
  · rcases bft c.n1.up with z1 | z1
    · rcases bft c.n1.store.super.inc with z2 | z2
      · exact rt (aa (hS k) <| aa ff <| aa (rfl : (1 : Int) = 1) <| xa5 z0 <| xa3 z1 <| xa2 z2 <| aa z1 <| aa z2 <| aa z1 <| xa10 tt <| aa z1 <| aa tt <| aa z1 <| trivial) (gs := xc (G.call [Res.c (ii 1)] []) <| xc gF <| xc (G.at 1) <| xg12 gT <| xg12 gT <| xg2 gT <| []) (rs := [Res.c (bo true)]) (by simp only [z0, z1, z2, vq1, vq2, vq3, vq4, vq5, vq6, vq7, vq8] <;> rfl)
      · rcases bft c.n1.store.super.dis with z3 | z3
        · exact rt (aa (hS k) <| aa ff <| aa (rfl : (1 : Int) = 1) <| xa5 z0 <| xa3 z1 <| xa2 z2 <| aa z1 <| aa z2 <| aa z1 <| xa10 z3 <| aa z1 <| aa z3 <| aa z1 <| trivial) (gs := xc (G.call [Res.c (ii 1)] []) <| xc gF <| xc (G.at 1) <| xg8 gT <| xg2 gF <| xc gT <| xc gF <| xg12 gT <| xg2 gT <| []) (rs := [Res.c (bo true)]) (by simp only [z0, z1, z2, z3, vq1, vq2, vq3, vq4, vq5, vq6, vq7, vq8] <;> rfl)
        · exact rt (aa (hS k) <| aa ff <| aa (rfl : (1 : Int) = 1) <| xa5 z0 <| xa3 z1 <| xa2 z2 <| aa z1 <| aa z2 <| aa z1 <| xa4 z3 <| aa (head11_1 c (k + 6)) <| xa4 z3 <| aa (head11_0 c (k + 6)) <| aa z3 <| aa (back18 c c.n1.store.super.v.cur c.n0.store.super.v.cur h k) <| aa z3 <| aa z1 <| aa z3 <| aa z1 <| trivial) (gs := xc (G.call [Res.c (ii 1)] []) <| xc gF <| xc (G.at 1) <| xg8 gT <| xg2 gF <| xc gT <| xc gF <| xc gT <| xg4 gF <| xc (G.call [Res.c (u c.n1.store.super.v.cur)] []) <| xg4 gF <| [G.call [Res.c (u c.n0.store.super.v.cur)] [], gF, G.call [Res.c (ii (backM c c.n1.store.super.v.cur c.n0.store.super.v.cur))] [], gF, gT, gF, gT]) (rs := [Res.c (bo (decide (backM c c.n1.store.super.v.cur c.n0.store.super.v.cur ≥ 0)))]) (by simp only [z0, z1, z2, z3, vq1, vq2, vq3, vq4, vq5, vq6, vq7, vq8] <;> rfl)
    · exact rt (aa (hS k) <| aa ff <| aa (rfl : (1 : Int) = 1) <| xa5 z0 <| xa7 z1 <| trivial) (gs := xc (G.call [Res.c (ii 1)] []) <| xc gF <| xc (G.at 1) <| xg5 gT <| xg7 gF <| []) (rs := [Res.c (bo false)]) (by simp only [z0, z1, vq1, vq2, vq3, vq4, vq5, vq6, vq7, vq8] <;> rfl)
  · exact rt (aa (hS k) <| aa ff <| aa (rfl : (1 : Int) = 1) <| xa5 z0 <| xa7 ff <| trivial) (gs := xc (G.call [Res.c (ii 1)] []) <| xc gF <| xc (G.at 1) <| xg12 gF <| []) (rs := [Res.c (bo false)]) (by simp only [z0, vq1, vq2, vq3, vq4, vq5, vq6, vq7, vq8] <;> rfl)
theorem startM_three (c d : Cl) : startM c d = -1 ∨ startM c d = 0 ∨ startM c d = 1 := by
  unfold startM
  cases d.n0.state == 4 && !(c.n0.state == 4) <;> cases d.n1.state == 4 && !(c.n1.state == 4) <;> simp
theorem back_in (c : Cl) (a b : Int) : decide (backM c a b ≥ 0) = inL (mintsM c) a b := idx_neg _ _
theorem fair21 (c d : Cl) (h : c.n0.mints.length + c.n1.mints.length ≤ 100000) (k : Nat) : orac PP GL XX HH NN (k + 7) 21 [.agg c.cs, .agg d.cs] [] = some ([.c (bo (fairM c d))], []) := by
  have hM : (mintsM c).length ≤ 100000 := by rw [mintsM_len]; exact h
  have hS := fun k => start19 c d (k + 3)
  unfold fairM superM headM
  rcases startM_three c d with e | e | e
  · rw [e] at hS ⊢; exact fair21_n c d h hM hS k
  · rw [e] at hS ⊢
    refine (fair21_0 c d h hM hS k).trans ?_
    simp [Bool.or_assoc]
  · rw [e] at hS ⊢
    refine (fair21_1 c d h hM hS k).trans ?_
    simp [Bool.or_assoc]
theorem fair22 (c d : Cl) (h : c.n0.mints.length + c.n1.mints.length ≤ 100000) (k : Nat) : orac PP GL XX HH NN (k + 8) 22 [.agg c.cs, .agg d.cs] [] = some ([.c (bo (fairM c d))], []) := by
  have hS := fun k => start20 c d (k + 6)
  unfold fairM superM headM
  rcases startM_three c d with e | e | e
  · rw [e] at hS ⊢; exact fair22_n c d h hS k
  · rw [e] at hS ⊢
    refine (fair22_0 c d h hS k).trans ?_
    rw [back_in]
    simp [Bool.or_assoc]
  · rw [e] at hS ⊢
    refine (fair22_1 c d h hS k).trans ?_
    rw [back_in]
    simp [Bool.or_assoc]
end Go.Dm
namespace Go.Proofs
open Go.RowKit Go.Shelf Go.Dm
attribute [local go_sem] Oper.semAt_some
def MapIs (W : World) (b : Nat) (m : List (Int × Int)) : Prop := ∃ es clock, W.heap[b]? = some (.map es clock) ∧ es.toList.map (fun e => (e.key, e.val)) = encM m
theorem MapIs.made (w : World) : MapIs (w.alloc (.map #[] 0)) w.heap.size [] := ⟨#[], 0, World.alloc_heap_new w _, rfl⟩
theorem MapIs.kept {w w' : World} {row : Option Nat} {b : Nat} {m : List (Int × Int)} (h : MapIs w b m) (hg : w.grownBy w' row) (hne : some b ≠ row) : MapIs w' b m := by
  obtain ⟨es, c, h1, h2⟩ := h
  exact ⟨es, c, (hg.block b (Array.getElem?_eq_some_iff.1 h1).1 hne).trans h1, h2⟩
theorem MapIs.alloc {w : World} {b : Nat} {m : List (Int × Int)} (h : MapIs w b m) (o : Obj) : MapIs (w.alloc o) b m := h.kept (World.grownBy_alloc w o none) (by simp)
theorem find_upd (g p : Int) : ∀ (es : List MapEntry) (m : List (Int × Int)) (i : Nat), es.map (fun e => (e.key, e.val)) = encM m →
    (Instr.findNow (.int .u64) (.int .u64 g) es i = some none ∧ upd g p m = m ++ [(g, p)]) ∨
    (∃ j e, Instr.findNow (.int .u64) (.int .u64 g) es i = some (some (i + j, e.val)) ∧ es[j]? = some e ∧ e.key = .int .u64 g ∧ encM (upd g p m) = (es.modify j fun e => { e with key := .int .u64 g, val := .int .u64 p }).map (fun e => (e.key, e.val)))
  | [], m, i, h => by
    cases m with
    | nil => exact .inl ⟨rfl, rfl⟩
    | cons _ _ => simp [encM] at h
  | e :: es, m, i, h => by
    cases m with
    | nil => simp [encM] at h
    | cons x m =>
      obtain ⟨a, b⟩ := x
      simp only [List.map_cons, List.cons.injEq, Prod.mk.injEq, encM] at h
      obtain ⟨⟨h1, h2⟩, h3⟩ := h
      have hs : Instr.sameNow (.int .u64) (.int .u64 g) e.key = some (g == a) := by rw [h1]; simp [Instr.sameNow]
      cases hga : g == a with
      | true =>
        obtain rfl := eq_of_beq hga
        refine .inr ⟨0, e, by simp [Instr.findNow, hs], rfl, h1, ?_⟩
        simp [upd, encM]
        exact h3.symm
      | false =>
        rw [hga] at hs
        rcases find_upd g p es m (i + 1) h3 with ⟨h4, h5⟩ | ⟨j, e', h4, h5, h6, h7⟩
        · exact .inl ⟨by simp [Instr.findNow, hs, h4], by simp [upd, hga, h5]⟩
        · refine .inr ⟨j + 1, e', by simp [Instr.findNow, hs, h4]; omega, by simpa using h5, h6, ?_⟩
          simp only [upd, hga, Bool.false_eq_true, if_false, encM, List.map_cons, List.modify_succ_cons, h1, h2]
          simp only [encM] at h7
          rw [h7]
theorem MapIs.update {P : Program} {t k e : TypeId} {w : World} {b : Nat} {m : List (Int × Int)} (h : MapIs w b m) (ht : P.underlying t = some (.map k e)) (hk : P.underlying k = some (.int .u64)) (g p : Int) :
    ∃ w', (Instr.mapUpdate t (.map (some b)) (.int .u64 g) (.int .u64 p)).run P w = .ok () w' ∧ MapIs w' b (upd g p m) ∧ w.grownBy w' (some b) := by
  obtain ⟨es, clock, hb, he⟩ := h
  have hck := MapKept.run_checkKey (P := P) (w := w) (kt := k) (d := .int .u64) (k := .int .u64 g) hk rfl false 9999
  rcases find_upd g p es.toList m 0 he with ⟨h1, h2⟩ | ⟨j, x, h1, h2, h3, h4⟩
  · refine ⟨{ w with heap := w.heap.setIfInBounds b (.map (es.push { key := .int .u64 g, val := .int .u64 p, born := clock }) (clock + 1)) }, ?_, ⟨_, _, (MapKept.heap_set hb).1, ?_⟩, ⟨rfl, rfl, rfl, by simp, fun i _ hi => (MapKept.heap_set hb).2 i (fun e => hi (by rw [e]))⟩⟩
    · simp [Instr.mapUpdate, run_underlying ht, MapKept.run_getObj_map hb, hck, MapKept.run_findKey hk h1, MapKept.run_setObj_map _ hb, Result.andThen]
    rw [h2]
    simp [encM] at he ⊢
    rw [he]
  · have hj : es[j]? = some x := by simpa using h2
    have hst := MapKept.run_keyThatStays (P := P) (w := w) (d := .int .u64) (k := .int .u64 g) rfl
    rw [Nat.zero_add] at h1
    refine ⟨{ w with heap := w.heap.setIfInBounds b (.map (es.modify j fun e => { e with key := .int .u64 g, val := .int .u64 p }) clock) }, ?_, ⟨_, _, (MapKept.heap_set hb).1, ?_⟩, ⟨rfl, rfl, rfl, by simp, fun i _ hi => (MapKept.heap_set hb).2 i (fun e => hi (by rw [e]))⟩⟩
    · simp [Instr.mapUpdate, run_underlying ht, MapKept.run_getObj_map hb, hck, MapKept.run_findKey hk h1, hj, h3, hst, MapKept.run_setObj_map _ hb, Result.andThen]
    rw [h4, Array.toList_modify]
theorem wpListIn_mapUpdate_is {F : Fence} {nF : Nat} {P : Program} (w : World) {ops : Array Oper} {rest : List Oper} {o : Oper} {a : Act} {Q : Exit → Act → World → Prop}
    (hg : o.guard = none) (m x v : Operand) (t : TypeId) (hop : o.op = Op.mapUpdate t m x v)
    (k e : TypeId) (ht : P.underlying t = some (.map k e)) (hk : P.underlying k = some (.int .u64)) (b : Nat) (D : List (Int × Int))
    (hm : a.eval m = .map (some b)) (hown : MapIs w b D) (g p : Int) (hx : a.eval x = .int .u64 g) (hv : a.eval v = .int .u64 p)
    (hK : ∀ w', MapIs w' b (upd g p D) → w.grownBy w' (some b) → wpListIn F nF P ops Q rest (a.put o.dst undef) w') :
    wpListIn F nF P ops Q (o :: rest) a w := by
  refine wpListIn_plain hg fun K' hK' => ?_
  obtain ⟨w', hrun, r1, r2⟩ := hown.update ht hk g p
  unfold Oper.wpIn
  refine ⟨by simp [Oper.about, hop], ?_⟩
  rw [Oper.semAt_plain F _ _ (by rw [hop]; intro c hc'; cases hc')]
  simp [execOp, hop, hm, hx, hv, hrun, Result.andThen]
  exact hK' _ _ (hK w' r1 r2)
end Go.Proofs
namespace Go.Proofs
open Go.RowKit Go.Shelf Go.Dm
attribute [local go_sem] Oper.semAt_some
def bk (l : List Mi) (k : Nat) : List (Nat × Mi) := (List.range k).map fun j => (l.length - 1 - j, l[l.length - 1 - j]?.getD default)
theorem bk_succ (l : List Mi) (k : Nat) : bk l (k + 1) = bk l k ++ [(l.length - 1 - k, l[l.length - 1 - k]?.getD default)] := by simp [bk, List.range_succ]
theorem bk_length (l : List Mi) (k : Nat) : (bk l k).length = k := by simp [bk]
abbrev encB (x : Nat × Mi) : Array Value := #[.int .i64 (x.1 : Int), .agg #[.int .u64 x.2.g, .int .u64 x.2.p, .int .i64 x.2.n]]
def KpB (n₀ Bs : Nat) (A B : World) : Prop := Below n₀ A B ∧ B.heap[Bs]? = A.heap[Bs]?
theorem KpB.refl (n₀ Bs : Nat) (A : World) : KpB n₀ Bs A A := ⟨Below.refl _ _, rfl⟩
theorem KpB.trans {n₀ Bs : Nat} {A B C : World} (h : KpB n₀ Bs A B) (k : KpB n₀ Bs B C) : KpB n₀ Bs A C := ⟨h.1.trans k.1, k.2.trans h.2⟩
theorem KpB.putObj {n₀ Bs : Nat} {w : World} (hn : n₀ ≤ w.heap.size) (hB : Bs < w.heap.size) (W : World) (l : Nat) (o o' : Obj) (hl : w.heap.size ≤ l) (h : W.heap[l]? = some o) (h1 : o.isCells = false) (h2 : o.isWalk = false) : KpB n₀ Bs W (W.putObj l o') :=
  ⟨belowK_b hn W l o o' hl h h1 h2, World.putObj_heap_other (by omega)⟩
set_option maxRecDepth 100000 in
set_option maxHeartbeats 2000000 in
theorem Bw.closure_in (F : Fence) (n : Nat) (h24 : F.fn 104) (hro : F.round = none) (hn : 1 ≤ n) (l Bs n₀ b off cap : Nat) (zs : List Mi) (hreach : zs.length ≤ 1000000) (hb : b < n₀) (J Jx : List (Nat × Mi) → World → Prop)
    (hY : ∀ pre x W, J pre W → pre.length < zs.length → YieldAt F (n - 1) Tryz.prog l (encB x) W fun e W' =>
      (e = .returned (.bool true) ∧ J (pre ++ [x]) W' ∧ KpB n₀ Bs W W') ∨ (e = .returned (.bool false) ∧ Jx (pre ++ [x]) W'))
    (W : World) (hBs : W.cell? ⟨Bs, 0, none⟩ = some (.slice (some ⟨b, off, none⟩) zs.length cap))
    (hc : ∀ j, j < zs.length → W.rangeAt b (off + j * 3) [.int .u64 (zs[j]?.getD default).g, .int .u64 (zs[j]?.getD default).p, .int .i64 (zs[j]?.getD default).n]) (h0 : J [] W) :
    CallsIn F n Tryz.prog 104 #[.func (.yield l) #[] #[], .pointer (some ⟨Bs, 0, none⟩)] W fun e W' => (∃ v, e = .returned v) ∧
      ((∃ ys, ys = bk zs zs.length ∧ J ys W') ∨ (∃ pre, (∃ k, k ≤ zs.length ∧ pre = bk zs k) ∧ Jx pre W')) := by
  refine callsIn_of_wp Tryz.func104 rfl h24 ?_ hro
  simp only [Tryz.ntmps104, List.size_toArray, List.length_cons, List.length_nil, Nat.reduceAdd, Nat.reduceSub, Array.replicate_succ, Array.replicate_zero, List.push_toArray, List.append_toArray, List.nil_append, List.cons_append]
  gi_wp2
  gi_loopw [3] (fun i wr => ∃ k : Nat, k ≤ zs.length ∧ i = .int .i64 ((zs.length : Int) - 1 - k) ∧ J (bk zs k) wr ∧ KpB n₀ Bs W wr)
    (fun i _ => (intOf i + 1).toNat)
  case atStart => exact ⟨0, Nat.zero_le _, by simp, h0, KpB.refl _ _ _⟩
  case round =>
    obtain ⟨k, hk, rfl, hJs, hnx⟩ := hrel
    by_cases hlt : k < zs.length
    · obtain ⟨fn, tmps, assign, body, hy, hR⟩ := hY _ (zs.length - 1 - k, zs[zs.length - 1 - k]?.getD default) wr hJs (by rw [bk_length]; exact hlt)
      obtain ⟨q, hq⟩ : ∃ q, zs.length - 1 - k = q := ⟨_, rfl⟩
      have hqi : (zs.length : Int) - 1 - k = (q : Int) := by omega
      have hql : q < zs.length := by omega
      simp only [encB, hq] at hy
      rw [hqi]
      have hBx : wr.cell? ⟨Bs, 0, none⟩ = some (.slice (some ⟨b, off, none⟩) zs.length cap) := (World.cell?_of_block (w := W) hnx.2).trans hBs
      have hr := hc q hql
      have hx0 : wr.cell? ⟨b, off + q * 3, none⟩ = _ := (hnx.1.cell (p := ⟨b, off + q * 3, none⟩) hb).trans (hr 0 _ rfl)
      have hx1 : wr.cell? ⟨b, off + q * 3 + 1, none⟩ = _ := (hnx.1.cell (p := ⟨b, off + q * 3 + 1, none⟩) hb).trans (hr 1 _ rfl)
      have hx2 : wr.cell? ⟨b, off + q * 3 + 2, none⟩ = _ := (hnx.1.cell (p := ⟨b, off + q * 3 + 2, none⟩) hb).trans (hr 2 _ rfl)
      clear hc
      simp only [List.getElem?_eq_getElem hql, Option.getD_some] at hy hx0 hx1 hx2
      gi_wp2
      refine hR.mono ?_
      rintro e W3 (⟨rfl, hJ3, hk3⟩ | ⟨rfl, hJx3⟩)
      · gi_wp2
        go_roundw
        case rel => exact ⟨k + 1, by omega, by simp; omega, by rw [bk_succ]; exact hJ3, hnx.trans hk3⟩
        case measure => simp [intOf]
      · gi_wp2
        refine bodyPost_ret (results_none rfl _ _ _) rfl ?_
        exact ⟨⟨_, rfl⟩, .inr ⟨_, ⟨k + 1, by omega, (bk_succ _ _).symm⟩, hJx3⟩⟩
    · obtain rfl : k = zs.length := by omega
      gi_wp2
      go_end0
      exact ⟨⟨_, rfl⟩, .inl ⟨_, rfl, hJs⟩⟩
set_option maxRecDepth 100000 in
set_option maxHeartbeats 1000000 in
theorem Bw.closure_nil_in (F : Fence) (n : Nat) (h24 : F.fn 104) (hro : F.round = none) (l Bs cap : Nat) (a : Option Addr) (J : List (Nat × Mi) → World → Prop) (W : World) (hBs : W.cell? ⟨Bs, 0, none⟩ = some (.slice a 0 cap)) (h0 : J [] W) :
    CallsIn F n Tryz.prog 104 #[.func (.yield l) #[] #[], .pointer (some ⟨Bs, 0, none⟩)] W fun e W' => (∃ v, e = .returned v) ∧ J [] W' := by
  refine callsIn_of_wp Tryz.func104 rfl h24 ?_ hro
  simp only [Tryz.ntmps104, List.size_toArray, List.length_cons, List.length_nil, Nat.reduceAdd, Nat.reduceSub, Array.replicate_succ, Array.replicate_zero, List.push_toArray, List.append_toArray, List.nil_append, List.cons_append]
  gi_wp2
  gi_loopw [3] (fun i wr => i = .int .i64 (-1) ∧ J [] wr) (fun _ _ => 0)
  case atStart => exact ⟨by simp, h0⟩
  case round =>
    obtain ⟨rfl, hJs⟩ := hrel
    gi_wp2
    go_end0
    exact ⟨⟨_, rfl⟩, hJs⟩
set_option maxHeartbeats 1000000 in
theorem Bw.backward_in (F : Fence) (n : Nat) (h22 : F.fn 72) (hro : F.round = none) (a : Option Addr) (len cap : Nat) (w : World) :
    CallsIn F n Tryz.prog 72 #[.slice a len cap] w fun e w' => e = .returned (.func (.func 104) #[] #[.pointer (some ⟨w.heap.size, 0, none⟩)]) ∧ w' = w.alloc (.cells #[.slice a len cap] 43) := by
  refine callsIn_of_wp Tryz.func72 rfl h22 ?_ hro
  simp only [Tryz.ntmps72, List.size_toArray, List.length_cons, List.length_nil, Nat.reduceAdd, Nat.reduceSub, Array.replicate_succ, Array.replicate_zero, List.push_toArray, List.append_toArray, List.nil_append, List.cons_append]
  gi_wp2
  go_ret
  exact ⟨rfl, rfl⟩
def MintsAt (n₀ : Nat) (W : World) (sv : Value) (zs : List Mi) : Prop :=
  (∃ a cap, sv = .slice a 0 cap ∧ zs = []) ∨ ∃ b off cap, sv = .slice (some ⟨b, off, none⟩) zs.length cap ∧ b < n₀ ∧
    ∀ j, j < zs.length → W.rangeAt b (off + j * 3) [.int .u64 (zs[j]?.getD default).g, .int .u64 (zs[j]?.getD default).p, .int .i64 (zs[j]?.getD default).n]
theorem MintsAt.below {n₀ : Nat} {A B : World} (h : Below n₀ A B) {sv : Value} {zs : List Mi} : MintsAt n₀ A sv zs → MintsAt n₀ B sv zs
  | .inl e => .inl e
  | .inr ⟨b, off, cap, e, hb, hc⟩ => .inr ⟨b, off, cap, e, hb, fun j hj i v hv => (h.cell (p := ⟨b, off + j * 3 + i, none⟩) hb).trans (hc j hj i v hv)⟩
theorem Bw.stops (F : Fence) (n : Nat) (h24 : F.fn 104) (hro : F.round = none) (hn : 1 ≤ n) (Bs n₀ : Nat) (sv : Value) (zs : List Mi) (hreach : zs.length ≤ 1000000) (w : World) (hBs : Bs < w.heap.size) (hn₀ : n₀ ≤ w.heap.size)
    (hc : w.cell? ⟨Bs, 0, none⟩ = some sv) (hI : MintsAt n₀ w sv zs) :
    SeqStopsK F n Tryz.prog 104 #[.pointer (some ⟨Bs, 0, none⟩)] encB (KpB n₀ Bs) (fun ys => ys = bk zs zs.length) (fun pre => ∃ k, k ≤ zs.length ∧ pre = bk zs k) zs.length w := fun l J Jx W hW _ _ hY h0 => by
  have hc' := (hW.cell (p := ⟨Bs, 0, none⟩) hBs).trans hc
  rcases hI.below (hW.mono hn₀) with ⟨a, cap, rfl, rfl⟩ | ⟨b, off, cap, rfl, hb, hcs⟩
  · exact (Bw.closure_nil_in F n h24 hro l Bs cap a J W hc' h0).mono fun e W' ⟨he, hj⟩ => ⟨he, .inl ⟨_, rfl, hj⟩⟩
  · exact Bw.closure_in F n h24 hro hn l Bs n₀ b off cap zs hreach hb J Jx hY W hc' hcs h0
def parF (xs : List (Nat × Mi)) : List (Int × Int) := xs.foldl (fun m x => upd x.2.g x.2.p m) []
theorem parF_snoc (pre : List (Nat × Mi)) (x : Nat × Mi) : parF (pre ++ [x]) = upd x.2.g x.2.p (parF pre) := by simp [parF]
theorem bk_rev (l : List Mi) : (bk l l.length).map (·.2) = l.reverse := by
  apply List.ext_getElem
  · simp [bk]
  · intro i h1 h2
    have hi : i < l.length := by simpa using h2
    have : l.length - 1 - i < l.length := by omega
    simp [bk, this]
theorem parF_bk (l : List Mi) : parF (bk l l.length) = par l := by
  have : parF (bk l l.length) = ((bk l l.length).map (·.2)).foldl (fun m x => upd x.g x.p m) [] := by rw [List.foldl_map]; rfl
  rw [this, bk_rev, List.foldl_reverse]
  rfl
end Go.Proofs
namespace Go.Proofs
open Go.RowKit Go.Shelf Go.Dm
attribute [local go_sem] Oper.semAt_some
set_option maxRecDepth 100000 in
set_option maxHeartbeats 2000000 in
theorem Bw.parents_in (F : Fence) (n : Nat) (h18 : F.fn 53) (h22 : F.fn 72) (h24 : F.fn 104) (hro : F.round = none) (hn : 3 ≤ n) (a : Option Addr) (len cap : Nat) (zs : List Mi) (hlen : zs.length ≤ 1000000) (w : World) (hL : MintsAt w.heap.size w (.slice a len cap) zs) :
    CallsIn F n Tryz.prog 53 #[.slice a len cap] w fun e W' => e = .returned (.map (some w.heap.size)) ∧ MapIs W' w.heap.size (par zs) ∧ Below w.heap.size w W' := by
  have h1 : 1 ≤ n := by omega
  have hmm := @run_makeMap Tryz.prog
  refine callsIn_of_wp_marks Tryz.func53 rfl h18 ?_ hro
  simp only [Tryz.ntmps53, List.size_toArray, List.length_cons, List.length_nil, Nat.reduceAdd, Nat.reduceSub, Array.replicate_succ, Array.replicate_zero, List.push_toArray, List.append_toArray, List.nil_append, List.cons_append]
  gi_wp2_with (gi_at_call 72; refine (Bw.backward_in F (n - 1) h22 hro _ _ _ _).mono ?_; rintro e w' ⟨rfl, rfl⟩)
  have cM := MapIs.made w
  have bM := Boxed.new (w.alloc (.map #[] 0)) 96 (.map (some w.heap.size))
  have bS := Boxed.new ((w.alloc (.map #[] 0)).alloc (.cells #[.map (some w.heap.size)] 96)) 43 (.slice a len cap)
  simp only [World.size_alloc] at bM bS
  have hB0 : Below w.heap.size w (((w.alloc (.map #[] 0)).alloc (.cells #[.map (some w.heap.size)] 96)).alloc (.cells #[.slice a len cap] 43)) := (((Below.refl _ w).alloc (Nat.le_refl _) _).alloc (by simp) _).alloc (by simp; omega) _
  refine wpIn_rangeFunc_ownH hro h1 (gf := 104) (lb := #[.pointer (some ⟨w.heap.size + 1 + 1, 0, none⟩)]) rfl h24 (enters_of Tryz.func104 (by kernel_rfl) rfl)
    (Bw.stops F (n - 1) h24 hro (by omega) (w.heap.size + 1 + 1) w.heap.size _ zs hlen _ (by simp) (by simp; omega) bS.cell (hL.below hB0)) (fun h k => h.trans k) (KpB.putObj (by simp; omega) (by simp)) (Below.refl _ _) (fun _ => rfl)
    (fun pre W => (Boxed W (w.heap.size + 1) 96 (.map (some w.heap.size)) ∧ Boxed W (w.heap.size + 1 + 1) 43 (.slice a len cap) ∧ MapIs W w.heap.size (parF pre)) ∧ Below w.heap.size w W)
    (fun _ _ _ => False)
    (OwnFrom.and (fun s A B row hs hg hr => ⟨hs.1.kept hg (fun e => by have := (hr _ e.symm).1; simp at this; omega), hs.2.1.kept hg (fun e => by have := (hr _ e.symm).1; simp at this; omega), hs.2.2.kept hg (fun e => by have := (hr _ e.symm).1; simp at this; omega)⟩) (ownFrom_below (Nat.le_refl _) (by simp; omega)))
    (fun _ _ _ _ _ hs _ _ => hs)
    ⟨⟨bM.alloc _, bS, (cM.alloc _).alloc _⟩, hB0⟩
    (fun x a' W => ∃ bx, w.heap.size + 3 ≤ bx ∧ W.heap[bx]? = some (.cells #[.int .u64 x.2.g, .int .u64 x.2.p, .int .i64 x.2.n] 76 (0, 0)) ∧ a' = { tmps := #[.slice a len cap, undef, .map none, .pointer (some ⟨w.heap.size + 1, 0, none⟩), undef, .pointer (some ⟨bx, 0, none⟩), .map (some w.heap.size), .slice a len cap, .func (.func 104) #[] #[.pointer (some ⟨w.heap.size + 1 + 1, 0, none⟩)], .int .i64 (x.1 : Int), .agg #[.int .u64 x.2.g, .int .u64 x.2.p, .int .i64 x.2.n], undef, undef, undef, undef, undef, undef], defers := [] })
    ?Ax ?assign ?body ?done ?stop
  case Ax =>
    rintro x a' _ A B row ⟨bx, h1, h2, h3⟩ hg hr
    exact ⟨bx, h1, (hg.block bx (Array.getElem?_eq_some_iff.1 h2).1 (fun e => by obtain ⟨_, o, ho, hc⟩ := hr bx e.symm; rw [h2] at ho; cases ho; cases hc)).trans h2, h3⟩
  case assign =>
    rintro l pre x W K ⟨⟨hb, hs, hm⟩, hB⟩ hK
    gi_wp2
    have hlt := hs.lt
    exact hK _ _ (KeepsFrom.of_grownBy (World.grownBy_alloc W _ none) (fun j e => by cases e)) ⟨(Below.refl _ W).alloc hB.size _, Below.heap_alloc _ _ _ hlt⟩ ⟨⟨hb.alloc _, hs.alloc _, hm.alloc _⟩, hB.alloc hB.size _⟩
      ⟨W.heap.size, by omega, World.alloc_heap_new W _, rfl⟩
  case body =>
    rintro l pre x a' W hl hloop ⟨⟨hb, hs, hm⟩, hB⟩ ⟨bx, hbx, hx, rfl⟩ hlt
    have hc := hb.cell
    have hx0 : W.cell? ⟨bx, 0, none⟩ = some (.int .u64 x.2.g) := by simp [World.cell?, hx]
    have hx1 : W.cell? ⟨bx, 1, none⟩ = some (.int .u64 x.2.p) := by simp [World.cell?, hx]
    gi_wp2_with (gi_at_mapUpdate; refine wpListIn_mapUpdate_is _ rfl _ _ _ 96 rfl 29 29 Tryz.underlying96 Tryz.underlying29 w.heap.size (parF pre) rfl hm _ _ rfl rfl ?_; intro w1 hown1 hgrow1)
    exact ⟨KeepsFrom.of_grownBy hgrow1 (fun j e => by cases e; simp; omega), ⟨(Below.refl _ W).grown hgrow1 hB.size (fun k e => by cases e; exact Nat.le_refl _), hgrow1.block _ hs.lt (fun e => by simp at e; omega)⟩,
      ⟨hb.kept hgrow1 (fun e => by simp at e), hs.kept hgrow1 (fun e => by simp at e; omega), by rw [parF_snoc]; exact hown1⟩, hB.grown hgrow1 hB.size (fun k e => by cases e; exact Nat.le_refl _)⟩
  case done =>
    rintro D ys W hD rfl ⟨⟨hb, hs, hm⟩, hB⟩ hK
    have hc := hb.cell
    gi_wp2
    refine ⟨by simp, .inl ⟨_, _, rfl, run_takeDeferred hK, ?_⟩⟩
    rw [parF_bk] at hm
    exact ⟨_, results_tmp rfl _ _ _, rfl, hm.kept (grownBy_putObj' _ D _) (fun e => by cases e; simp at hD; omega), hB.trans (belowK_b (w := w) (Nat.le_refl _) W D _ _ (by simp at hD; omega) hK rfl rfl)⟩
  case stop =>
    rintro D c pre W _ _ h _
    exact h.elim
end Go.Proofs
namespace Go.Proofs
open Go.RowKit Go.Shelf Go.Lib
set_option maxRecDepth 100000 in
set_option maxHeartbeats 4000000 in
theorem Gr.grow (i0 : TypeInfo) (z : Value) (hi0 : Tryz.prog.info? 76 = some i0) (hz0 : i0.zero = some z) (hs0 : 0 < i0.size) (hb0 : i0.bytes ≤ 1000) (base : Option Addr) (n : Nat) (hn : n ≤ 1000000) (h0 : 0 < n) (w : World) :
    Calls Tryz.prog 50 #[.slice base 0 0, .int .i64 n] w fun e w' =>
      e = .returned (.slice (some ⟨w.heap.size, 0, none⟩) 0 (grownCap w n 0 76)) ∧
      w' = w.drew.alloc (.cells (Builtin.zeroCells z.cells n ++ Builtin.zeroCells z.cells (grownCap w n 0 76 - n)) 76) := by
  have h1 : ¬ ((n : Int) < 0) := by omega
  have h4 : (n : Int) > 0 := by omega
  have hold : (Builtin.firstCells i0.size 0 (.slice base 0 0)).run Tryz.prog w.drew = .ok ([] : List Value).toArray w.drew := by
    cases base with
    | none => exact run_firstCells_none w.drew i0.size 0 0 0
    | some a => exact run_firstCells_some w.drew i0.size 0 a 0 0 [] (by simp) (fun j v hj => by simp at hj)
  have hfit : n * i0.bytes ≤ 1000000 * 1000 := Nat.mul_le_mul hn hb0
  have hrz : ∀ ty, (Builtin.append_ #[43, 3] ty #[.slice base 0 0, .int .i64 (n : Int)]).run Tryz.prog w =
      .ok (.slice (some ⟨w.heap.size, 0, none⟩) n (grownCap w n 0 76)) (w.drew.alloc (.cells (Builtin.zeroCells z.cells n ++ Builtin.zeroCells z.cells (grownCap w n 0 76 - n)) 76)) := fun ty => by
    have h := Lib.run_append_grow_zeros w 43 3 ty 76 i0 z .i64 .i64 Tryz.underlying43 Tryz.underlying3 hi0 hz0 base 0 0 [] hold n h0 hs0 (by omega) (by omega) (by omega)
      (growslice_fits (by omega) (by simp; omega))
    simpa using h
  have hGn : n ≤ grownCap w n 0 76 := grownCap_ge w _ _ _
  obtain ⟨G, hG⟩ : ∃ G, G = grownCap w n 0 76 := ⟨_, rfl⟩
  rw [← hG] at hrz hGn ⊢
  have hG63 : G ≤ 9223372036854775807 := by
    have := grownCap_le_maxLen w n 0 76 (by unfold maxLen; omega)
    rw [← hG] at this
    unfold maxLen at this
    omega
  clear hold hG hi0 hz0
  refine calls_of_wp Tryz.func50 rfl ?_
  simp only [Tryz.ntmps50, List.size_toArray, List.length_cons, List.length_nil, Nat.reduceAdd, Nat.reduceSub, Array.replicate_succ, Array.replicate_zero, List.push_toArray, List.append_toArray, List.nil_append, List.cons_append]
  cases base with
  | none =>
    go_wp2_with (at_builtin; refine Lib.wpList_append_run _ rfl _ _ _ _ rfl _ _ rfl rfl _ _ (hrz _) ?_)
    all_goals (go_ret; exact ⟨rfl, rfl⟩)
  | some a =>
    obtain ⟨ab, ao, asp⟩ := a
    go_wp2_with (at_builtin; refine Lib.wpList_append_run _ rfl _ _ _ _ rfl _ _ rfl rfl _ _ (hrz _) ?_)
    all_goals (go_ret; exact ⟨rfl, rfl⟩)
set_option maxRecDepth 100000 in
set_option maxHeartbeats 4000000 in
theorem Gr.none (base : Option Addr) (w : World) :
    Calls Tryz.prog 50 #[.slice base 0 0, .int .i64 0] w fun e w' => e = .returned (.slice base 0 0) ∧ w' = w := by
  refine calls_of_wp Tryz.func50 rfl ?_
  simp only [Tryz.ntmps50, List.size_toArray, List.length_cons, List.length_nil, Nat.reduceAdd, Nat.reduceSub, Array.replicate_succ, Array.replicate_zero, List.push_toArray, List.append_toArray, List.nil_append, List.cons_append]
  go_wp2
  go_ret
  exact ⟨rfl, rfl⟩
end Go.Proofs
namespace Go.Dm
open Go Go.RowKit Go.Proofs
theorem push_at (h : Array Obj) (o : Obj) (n : Nat) (hn : n = h.size) : (h.push o)[n]? = some o := by subst hn; simp
theorem mints_len24 (l : List Mi) : (mints l).length = l.length := by simp [mints]
theorem miOf_cs {e : List C} {m : Mi} (h : miOf e = some m) : e = m.cs := by
  unfold miOf at h
  split at h
  · cases h; rfl
  · cases h
theorem mapM_cs {es : List (List C)} {l : List Mi} (h : es.mapM miOf = some l) : es = mints l := by
  induction es generalizing l with
  | nil => simp at h; subst h; rfl
  | cons e es ih =>
    rw [List.mapM_cons] at h
    cases he : miOf e with
    | none => simp [he] at h
    | some m =>
      cases hr : es.mapM miOf with
      | none => simp [he, hr] at h
      | some r =>
        simp [he, hr] at h
        subst h
        rw [miOf_cs he, ih hr]
        rfl
theorem mintsAt_of {Fr : Nat → Nat → Prop} {w : World} (hf : ∀ b o, Fr b o → b < w.heap.size) {sz : Nat} {l : List Mi} (hs : sz = 3 ∨ mints l = []) {v : Value} (h : (C.slice sz (mints l)).rep Fr w v) :
    ∃ a len cap, v = .slice a len cap ∧ MintsAt w.heap.size w v l := by
  simp only [C.rep] at h
  obtain ⟨a, len, cap, rfl, hlen, hcap, h4⟩ := h
  refine ⟨a, len, cap, rfl, ?_⟩
  rw [mints_len24] at hlen
  by_cases hl : l = []
  · subst hl
    simp at hlen
    subst hlen
    exact .inl ⟨a, cap, rfl, rfl⟩
  · have hsz : sz = 3 := by
      rcases hs with h | h
      · exact h
      · exact absurd (List.map_eq_nil_iff.1 h) hl
    subst hsz
    rcases h4 with ⟨h4, _⟩ | ⟨b, o, rfl, hr⟩
    · exact absurd (List.eq_nil_of_length_eq_zero (by omega)) hl
    · have hg : ∀ j (hj : j < l.length), cellsAt Fr w b (l[j]).cs (o + j * 3) := fun j hj => (rowsAt_get hr j _ (by simp [mints, hj])).2
      have hb : b < w.heap.size := by
        have h0 : 0 < l.length := List.length_pos_iff.2 hl
        exact hf _ _ (cellsAt_get (hg 0 h0) 0 _ rfl).1
      refine .inr ⟨b, o, cap, by rw [hlen], hb, fun j hj => ?_⟩
      have hc := hg j hj
      rw [List.getElem?_eq_getElem hj, Option.getD_some]
      intro i x hx
      match i, hx with
      | 0, hx => simp at hx; subst hx; obtain ⟨v, h1, h2⟩ := (cellsAt_get hc 0 _ rfl).2; simp only [C.rep] at h2; rw [h1, h2.1]
      | 1, hx => simp at hx; subst hx; obtain ⟨v, h1, h2⟩ := (cellsAt_get hc 1 _ rfl).2; simp only [C.rep] at h2; rw [h1, h2.1]
      | 2, hx => simp at hx; subst hx; obtain ⟨v, h1, h2⟩ := (cellsAt_get hc 2 _ rfl).2; simp only [C.rep] at h2; rw [h1, h2.1]
      | i + 3, hx => simp at hx
theorem tabOk : TabOk PP GL XX := ⟨fun f h xs ims rs ims' hx hh => by
  unfold XX at hx
  split at hx
  · cases hx
    unfold parTab at hh
    split at hh
    · rename_i sz es
      split at hh
      · rename_i hc
        obtain ⟨hs, hlen⟩ := hc
        rw [Option.map_eq_some_iff] at hh
        obtain ⟨l, hl, he⟩ := hh
        cases he
        have hes := mapM_cs hl
        subst hes
        rw [mints_len24] at hlen
        refine ⟨⟨_, Proofs.Tryz.func53, rfl, by kernel_rfl⟩, ?_⟩
        refine Meets0.full ?_
        intro Fr w locs vs hf hgl him hap hxs
        obtain ⟨v, vs', rfl, hv, hnil⟩ : ∃ v vs', vs = v :: vs' ∧ (C.slice sz (mints l)).rep Fr w v ∧ vs' = [] := by
          cases vs with
          | nil => exact hxs.elim
          | cons v vs' => refine ⟨v, vs', rfl, hxs.1, ?_⟩; cases vs' with
            | nil => rfl
            | cons _ _ => exact hxs.2.elim
        subst hnil
        obtain ⟨a, len, cap, rfl, hM⟩ := mintsAt_of hf hs hv
        have hcall := callsIn_wide.1 (Bw.parents_in Fence.wide 3 trivial trivial trivial rfl (Nat.le_refl _) a len cap l hlen w hM)
        refine hcall.mono ?_
        rintro e w' ⟨rfl, ⟨ents, clock, hm1, hm2⟩, hB⟩
        refine ⟨[.map (some w.heap.size)], fun b o => Fr b o ∨ (b = w.heap.size ∧ o = 0), rfl, BelowBut.of_below hB, fun b o h => .inl h, ?_, ⟨?_, trivial⟩, trivial, ?_, rfl⟩
        · rintro b o (h | ⟨rfl, rfl⟩)
          · exact .inl h
          · exact .inr ⟨Nat.le_refl _, (Array.getElem?_eq_some_iff.1 hm1).1⟩
        · simp only [Res.rep, C.rep]
          exact ⟨_, ents, clock, rfl, .inr ⟨rfl, trivial⟩, hm1, hm2⟩
        · cases locs with
          | nil => trivial
          | cons _ _ => exact him.elim
      · cases hh
    · cases hh
  · cases hx
    unfold growTab at hh
    split at hh
    · rename_i n
      split at hh
      · rename_i hc
        obtain ⟨hn0, hn⟩ := hc
        cases hh
        refine ⟨⟨_, Proofs.Tryz.func50, rfl, by kernel_rfl⟩, ?_⟩
        refine Meets0.full ?_
        intro Fr w locs vs hf hgl him hap hxs
        obtain ⟨m, rfl⟩ : ∃ m : Nat, n = (m : Int) := ⟨n.toNat, by omega⟩
        obtain ⟨a, rfl⟩ : ∃ a, vs = [.slice a 0 0, .int .i64 m] := by
          match vs, hxs with
          | [v1, v2], ⟨⟨a, h1⟩, h2, _⟩ => exact ⟨a, by simp only [A.rep, C.rep] at h2; rw [h1, h2.1]⟩
          | [], h => exact h.elim
          | [_], h => exact h.2.elim
          | _ :: _ :: _ :: _, h => exact h.2.2.elim
        have hl : locs = [] := by
          cases locs with
          | nil => rfl
          | cons _ _ => exact him.elim
        subst hl
        by_cases h0 : m = 0
        · subst h0
          refine (Gr.none a w).mono ?_
          rintro e w' ⟨rfl, rfl⟩
          refine ⟨[.slice a 0 0], Fr, rfl, BelowBut.of_below (Below.refl _ _), fun b o h => h, fun b o h => .inl h, ⟨?_, trivial⟩, ⟨fun j sz es u h => by simp at h, trivial⟩, trivial, rfl⟩
          simp only [Res.rep, C.rep]
          exact ⟨⟨a, 0, 0, rfl, rfl, Nat.le_refl _, .inl ⟨rfl, rfl⟩⟩, a, 0, rfl, Nat.le_refl _, .inl rfl⟩
        · obtain ⟨i0, hi0⟩ : ∃ i0, PP.info? 76 = some i0 := Option.isSome_iff_exists.1 (by kernel_rfl)
          obtain ⟨z, hz⟩ : ∃ z, i0.zero = some z := by
            have h : ((PP.info? 76).bind (·.zero)).isSome = true := by kernel_rfl
            rw [hi0] at h
            exact Option.isSome_iff_exists.1 h
          have hs : i0.size = 3 := by
            have h : (PP.info? 76).map (·.size) = some 3 := by kernel_rfl
            rw [hi0] at h
            simpa using h
          have hb : i0.bytes = 24 := by
            have h : (PP.info? 76).map (·.bytes) = some 24 := by kernel_rfl
            rw [hi0] at h
            simpa using h
          have hzc : z.cells.size = 3 := by
            have h : ((PP.info? 76).bind (·.zero)).map (·.cells.size) = some 3 := by kernel_rfl
            rw [hi0] at h
            simp only [Option.bind_some, hz, Option.map_some, Option.some.injEq] at h
            exact h
          refine (Gr.grow i0 z hi0 hz (by omega) (by omega) a m (by omega) (by omega) w).mono ?_
          rintro e w' ⟨rfl, rfl⟩
          refine ⟨[.slice (some ⟨w.heap.size, 0, none⟩) 0 (grownCap w m 0 76)], Fr, rfl, BelowBut.of_below (((Below.refl _ w).drew).alloc (Nat.le_refl _) _), fun b o h => h, fun b o h => .inl h, ⟨?_, trivial⟩, ⟨fun j sz es u h => by simp at h, trivial⟩, trivial, rfl⟩
          simp only [Res.rep, C.rep]
          refine ⟨⟨_, 0, _, rfl, rfl, Nat.zero_le _, .inr ⟨_, _, rfl, trivial⟩⟩, _, _, rfl, Nat.zero_le _, .inr ⟨w.heap.size, rfl, Nat.le_refl _, ⟨_, _, (push_at w.drew.heap _ w.heap.size rfl), ?_⟩, ?_⟩⟩
          · have hG := grownCap_ge w m 0 9
            simp only [Array.size_append, zeroCells_size, hzc]
            omega
          · intro o _ h
            have := hf _ _ h
            omega
      · cases hh
    · cases hh
  · cases hx⟩
end Go.Dm
namespace Go.Dm
open Go
theorem great16b (l : List Evt) (m : Int) (hm : m ≤ 1000000) (k : Nat) : orac PP GL XX HH NN (k + 2) 28 [.c (.slice 7 (l.map Evt.cs)), .c (ii m)] [] = some ([.c (bo (greatM l m))], []) := by
  cases he : decide ((l.length : Int) > m) with
  | true =>
    unfold greatM
    rw [he]
    exact greatD l m he k
  | false =>
    simp at he
    exact great16 l m (by omega) k
theorem great8 (l : List Evt) (m : Int) (hm : m ≤ 1000000) (k : Nat) : orac PP GL XX HH NN (k + 3) 8 [A.c (C.slice 7 (List.map Evt.cs l)), A.c (ii m)] [] = some ([Res.c (bo (greatM l m))], []) := by
  exact rt (aa (great16b l m hm k) <| trivial) (gs := [G.call [Res.c (bo (greatM l m))] []]) (rs := [Res.c (bo (greatM l m))]) rfl
theorem first27 (k : Nat) : orac PP GL XX HH NN (k + 2) 27 [] [] = some ([Res.c (u 7)], []) := by
  exact rt (aa (first16 k) <| trivial) (gs := [G.call [Res.c (u 7)] []]) (rs := [Res.c (u 7)]) rfl
theorem reach9F (b : Int) (es : List (List C)) (c : Cl) (hR : ∀ k, orac PP GL XX HH NN (k + 17) 29 [A.c (by8 b), A.c (C.slice 7 es)] [] = some ([Res.agg (Cl.cs c)], [])) (k : Nat) : orac PP GL XX HH NN (k + 18) 9 [A.c (by8 b), A.c (C.slice 7 es)] [] = some ([Res.agg (Cl.cs c)], []) := by
  exact rt (aa (hR k) <| trivial) (gs := [G.call [Res.agg (Cl.cs c)] []]) (rs := [Res.agg (Cl.cs c)]) rfl
theorem reach9N (b : Int) (c : Cl) (hR : ∀ k, orac PP GL XX HH NN (k + 17) 29 [A.c (by8 b), A.nil] [] = some ([Res.agg (Cl.cs c)], [])) (k : Nat) : orac PP GL XX HH NN (k + 18) 9 [A.c (by8 b), A.nil] [] = some ([Res.agg (Cl.cs c)], []) := by
  exact rt (aa (hR k) <| trivial) (gs := [G.call [Res.agg (Cl.cs c)] []]) (rs := [Res.agg (Cl.cs c)]) rfl
theorem play10F (c : Cl) (d : Cl) (es : List (List C)) (o : List Ou) (hR : ∀ k, orac PP GL XX HH NN (k + 16) 30 [A.agg (Cl.cs c), A.c (C.slice 7 es)] [] = some ([Res.agg (Cl.cs d), Res.top 5 (List.map Ou.cs o)], [])) (k : Nat) : orac PP GL XX HH NN (k + 17) 10 [A.agg (Cl.cs c), A.c (C.slice 7 es)] [] = some ([Res.agg (Cl.cs d), Res.top 5 (List.map Ou.cs o)], []) := by
  exact rt (aa (hR k) <| aa (Eq.refl (List.length (List.map Ou.cs o))) <| trivial) (gs := [G.call [Res.agg (Cl.cs d), Res.top 5 (List.map Ou.cs o)] []]) (rs := [Res.agg (Cl.cs d), Res.top 5 (List.map Ou.cs o)]) rfl
theorem do24F (c : Cl) (d : Cl) (e : Evt) (o : List Ou) (hR : ∀ k, orac PP GL XX HH NN (k + 14) 42 [A.agg (Cl.cs c), A.agg (Evt.cs e)] [] = some ([Res.agg (Cl.cs d), Res.top 5 (List.map Ou.cs o)], [])) (k : Nat) : orac PP GL XX HH NN (k + 15) 24 [A.agg (Cl.cs c), A.agg (Evt.cs e)] [] = some ([Res.agg (Cl.cs d), Res.top 5 (List.map Ou.cs o)], []) := by
  exact rt (aa (hR k) <| aa (Eq.refl (List.length (List.map Ou.cs o))) <| trivial) (gs := [G.call [Res.agg (Cl.cs d), Res.top 5 (List.map Ou.cs o)] []]) (rs := [Res.agg (Cl.cs d), Res.top 5 (List.map Ou.cs o)]) rfl
def oneL : List Evt := [⟨1, 0, 0, 0, ⟨#[]⟩, 0, []⟩, ⟨13, 0, 0, 0, ⟨#[]⟩, 9, []⟩, ⟨5, 0, 1, 0, ⟨#[97, 98, 99, 100, 101, 102, 103, 104]⟩, 0, []⟩]
def twoL : List Evt := [⟨1, 0, 0, 0, ⟨#[]⟩, 0, []⟩, ⟨13, 0, 0, 0, ⟨#[]⟩, 9, []⟩, ⟨5, 0, 1, 0, ⟨#[97, 98, 99, 100, 101, 102, 103, 104]⟩, 0, []⟩, ⟨1, 1, 0, 0, ⟨#[]⟩, 0, []⟩, ⟨13, 1, 0, 0, ⟨#[]⟩, 8, []⟩, ⟨5, 1, 1, 0, ⟨#[97, 98, 99, 100, 101, 102, 103, 104]⟩, 0, []⟩]
def thrL : List Evt := [⟨6, 0, 0, 0, ⟨#[]⟩, 0, []⟩, ⟨6, 1, 0, 0, ⟨#[]⟩, 0, []⟩]
def delE : Evt := ⟨9, 1, 0, 0, ⟨#[]⟩, 0, []⟩
def aC : Cl := reachM 1 oneL
def aD : Cl := reachM 1 twoL
def aE : Cl := reachM 1 []
def aX : Cl := (playM aC thrL).1
def aY : Cl := (doM aX delE).1
set_option maxRecDepth 100000 in
theorem aR1 : relM aC = 1 := by kernel_rfl
set_option maxRecDepth 100000 in
theorem aR2 : relM aD = 3 := by kernel_rfl
set_option maxRecDepth 100000 in
theorem aR3 : relM aE = 0 := by kernel_rfl
set_option maxRecDepth 100000 in
theorem aM : mintsM aD = [⟨9, 7, 0⟩, ⟨8, 7, 1⟩] := by kernel_rfl
set_option maxRecDepth 100000 in
theorem aB1 : backM aD 7 9 = 1 := by kernel_rfl
set_option maxRecDepth 100000 in
theorem aB2 : backM aD 8 9 = -1 := by kernel_rfl
set_option maxRecDepth 100000 in
theorem aS1 : startM aX aY = 1 := by kernel_rfl
set_option maxRecDepth 100000 in
theorem aS2 : startM aY aX = -1 := by kernel_rfl
set_option maxRecDepth 100000 in
theorem aF : fairM aX aY = true := by kernel_rfl
theorem aliveF (c : Cl) (d : Cl) (e : Cl) (x : Cl) (y : Cl) (o3 : List Ou) (o4 : List Ou) (hR1 : ∀ k, orac PP GL XX HH NN (k + 18) 9 [A.c (by8 1), A.c (C.slice 7 [[ii 1, ii 0, ii 0, ii 0, st ⟨#[]⟩, u 0, C.slice 1 []], [ii 13, ii 0, ii 0, ii 0, st ⟨#[]⟩, u 9, C.slice 1 []], [ii 5, ii 0, ii 1, ii 0, st (ByteArray.mk #[(97 : UInt8), (98 : UInt8), (99 : UInt8), (100 : UInt8), (101 : UInt8), (102 : UInt8), (103 : UInt8), (104 : UInt8)]), u 0, C.slice 1 []]])] [] = some ([Res.agg (Cl.cs c)], [])) (hR2 : ∀ k, orac PP GL XX HH NN (k + 18) 9 [A.c (by8 1), A.c (C.slice 7 [[ii 1, ii 0, ii 0, ii 0, st ⟨#[]⟩, u 0, C.slice 1 []], [ii 13, ii 0, ii 0, ii 0, st ⟨#[]⟩, u 9, C.slice 1 []], [ii 5, ii 0, ii 1, ii 0, st (ByteArray.mk #[(97 : UInt8), (98 : UInt8), (99 : UInt8), (100 : UInt8), (101 : UInt8), (102 : UInt8), (103 : UInt8), (104 : UInt8)]), u 0, C.slice 1 []], [ii 1, ii 1, ii 0, ii 0, st ⟨#[]⟩, u 0, C.slice 1 []], [ii 13, ii 1, ii 0, ii 0, st ⟨#[]⟩, u 8, C.slice 1 []], [ii 5, ii 1, ii 1, ii 0, st (ByteArray.mk #[(97 : UInt8), (98 : UInt8), (99 : UInt8), (100 : UInt8), (101 : UInt8), (102 : UInt8), (103 : UInt8), (104 : UInt8)]), u 0, C.slice 1 []]])] [] = some ([Res.agg (Cl.cs d)], [])) (hR3 : ∀ k, orac PP GL XX HH NN (k + 18) 9 [A.c (by8 1), A.nil] [] = some ([Res.agg (Cl.cs e)], [])) (hP : ∀ k, orac PP GL XX HH NN (k + 18) 10 [A.agg (Cl.cs c), A.c (C.slice 7 [[ii 6, ii 0, ii 0, ii 0, st ⟨#[]⟩, u 0, C.slice 1 []], [ii 6, ii 1, ii 0, ii 0, st ⟨#[]⟩, u 0, C.slice 1 []]])] [] = some ([Res.agg (Cl.cs x), Res.top 5 (List.map Ou.cs o3)], [])) (hD : ∀ k, orac PP GL XX HH NN (k + 18) 24 [A.agg (Cl.cs x), A.agg [ii 9, ii 1, ii 0, ii 0, st ⟨#[]⟩, u 0, C.slice 1 []]] [] = some ([Res.agg (Cl.cs y), Res.top 5 (List.map Ou.cs o4)], [])) (q1 : ∀ k, orac PP GL XX HH NN (k + 18) 15 [A.agg (Cl.cs c)] [] = some ([Res.c (ii 1)], [])) (q2 : ∀ k, orac PP GL XX HH NN (k + 18) 15 [A.agg (Cl.cs d)] [] = some ([Res.c (ii 3)], [])) (q3 : ∀ k, orac PP GL XX HH NN (k + 18) 15 [A.agg (Cl.cs e)] [] = some ([Res.c (ii 0)], [])) (hM : ∀ k, orac PP GL XX HH NN (k + 18) 13 [A.agg (Cl.cs d)] [] = some ([Res.top 3 [[u 9, u 7, ii 0], [u 8, u 7, ii 1]]], [])) (hS : ∀ k, orac PP GL XX HH NN (k + 18) 12 [A.c (C.slice 3 [[u 9, u 7, ii 0], [u 8, u 7, ii 1]]), A.c (C.slice 3 [[u 9, u 7, ii 0], [u 8, u 7, ii 1]])] [] = some ([Res.c (bo true)], [])) (b1 : ∀ k, orac PP GL XX HH NN (k + 18) 17 [A.agg (Cl.cs d), A.c (u 7), A.c (u 9)] [] = some ([Res.c (ii 1)], [])) (b2 : ∀ k, orac PP GL XX HH NN (k + 18) 17 [A.agg (Cl.cs d), A.c (u 8), A.c (u 9)] [] = some ([Res.c (ii (-1 : Int))], [])) (s1 : ∀ k, orac PP GL XX HH NN (k + 18) 19 [A.agg (Cl.cs x), A.agg (Cl.cs y)] [] = some ([Res.c (ii 1)], [])) (s2 : ∀ k, orac PP GL XX HH NN (k + 18) 19 [A.agg (Cl.cs y), A.agg (Cl.cs x)] [] = some ([Res.c (ii (-1 : Int))], [])) (f : ∀ k, orac PP GL XX HH NN (k + 18) 21 [A.agg (Cl.cs x), A.agg (Cl.cs y)] [] = some ([Res.c (bo true)], [])) (k : Nat) : orac PP GL XX HH NN (k + 19) 7 [] [] = some ([Res.c (bo true)], []) := by
  exact rt (aa (hR1 k) <| aa (nil_app ([[ii 1, ii 0, ii 0, ii 0, st ⟨#[]⟩, u 0, C.slice 1 []], [ii 13, ii 0, ii 0, ii 0, st ⟨#[]⟩, u 9, C.slice 1 []], [ii 5, ii 0, ii 1, ii 0, st (ByteArray.mk #[(97 : UInt8), (98 : UInt8), (99 : UInt8), (100 : UInt8), (101 : UInt8), (102 : UInt8), (103 : UInt8), (104 : UInt8)]), u 0, C.slice 1 []]])) <| aa (show List.length [[ii 1, ii 0, ii 0, ii 0, st ⟨#[]⟩, u 0, C.slice 1 []], [ii 13, ii 0, ii 0, ii 0, st ⟨#[]⟩, u 9, C.slice 1 []], [ii 5, ii 0, ii 1, ii 0, st (ByteArray.mk #[(97 : UInt8), (98 : UInt8), (99 : UInt8), (100 : UInt8), (101 : UInt8), (102 : UInt8), (103 : UInt8), (104 : UInt8)]), u 0, C.slice 1 []]] ≤ 1073741824 from by decide) <| aa (rfl : [[ii 1, ii 0, ii 0, ii 0, st ⟨#[]⟩, u 0, C.slice 1 []], [ii 13, ii 0, ii 0, ii 0, st ⟨#[]⟩, u 9, C.slice 1 []], [ii 5, ii 0, ii 1, ii 0, st (ByteArray.mk #[(97 : UInt8), (98 : UInt8), (99 : UInt8), (100 : UInt8), (101 : UInt8), (102 : UInt8), (103 : UInt8), (104 : UInt8)]), u 0, C.slice 1 []], [ii 1, ii 1, ii 0, ii 0, st ⟨#[]⟩, u 0, C.slice 1 []], [ii 13, ii 1, ii 0, ii 0, st ⟨#[]⟩, u 8, C.slice 1 []], [ii 5, ii 1, ii 1, ii 0, st (ByteArray.mk #[(97 : UInt8), (98 : UInt8), (99 : UInt8), (100 : UInt8), (101 : UInt8), (102 : UInt8), (103 : UInt8), (104 : UInt8)]), u 0, C.slice 1 []]] = [[ii 1, ii 0, ii 0, ii 0, st ⟨#[]⟩, u 0, C.slice 1 []], [ii 13, ii 0, ii 0, ii 0, st ⟨#[]⟩, u 9, C.slice 1 []], [ii 5, ii 0, ii 1, ii 0, st (ByteArray.mk #[(97 : UInt8), (98 : UInt8), (99 : UInt8), (100 : UInt8), (101 : UInt8), (102 : UInt8), (103 : UInt8), (104 : UInt8)]), u 0, C.slice 1 []], [ii 1, ii 1, ii 0, ii 0, st ⟨#[]⟩, u 0, C.slice 1 []], [ii 13, ii 1, ii 0, ii 0, st ⟨#[]⟩, u 8, C.slice 1 []], [ii 5, ii 1, ii 1, ii 0, st (ByteArray.mk #[(97 : UInt8), (98 : UInt8), (99 : UInt8), (100 : UInt8), (101 : UInt8), (102 : UInt8), (103 : UInt8), (104 : UInt8)]), u 0, C.slice 1 []]]) <| aa (show List.length [[ii 1, ii 0, ii 0, ii 0, st ⟨#[]⟩, u 0, C.slice 1 []], [ii 13, ii 0, ii 0, ii 0, st ⟨#[]⟩, u 9, C.slice 1 []], [ii 5, ii 0, ii 1, ii 0, st (ByteArray.mk #[(97 : UInt8), (98 : UInt8), (99 : UInt8), (100 : UInt8), (101 : UInt8), (102 : UInt8), (103 : UInt8), (104 : UInt8)]), u 0, C.slice 1 []], [ii 1, ii 1, ii 0, ii 0, st ⟨#[]⟩, u 0, C.slice 1 []], [ii 13, ii 1, ii 0, ii 0, st ⟨#[]⟩, u 8, C.slice 1 []], [ii 5, ii 1, ii 1, ii 0, st (ByteArray.mk #[(97 : UInt8), (98 : UInt8), (99 : UInt8), (100 : UInt8), (101 : UInt8), (102 : UInt8), (103 : UInt8), (104 : UInt8)]), u 0, C.slice 1 []]] ≤ 1073741824 from by decide) <| aa ((rfl : (3 : Nat) = (3 : Nat))).symm <| aa (hR2 k) <| aa (hP k) <| aa (hD k) <| aa (q1 k) <| xa2 tt <| aa (q2 k) <| xa3 tt <| aa (hR3 k) <| aa tt <| aa (q3 k) <| xa4 tt <| aa (hM k) <| aa tt <| aa (first27 (k + 16)) <| xa2 tt <| aa (first27 (k + 16)) <| xa3 tt <| aa (hS k) <| xa3 tt <| aa (first27 (k + 16)) <| aa tt <| aa (b1 k) <| xa4 tt <| aa (b2 k) <| xa5 tt <| aa (s1 k) <| xa5 tt <| aa (s2 k) <| xa5 tt <| aa (f k) <| aa tt <| trivial) (gs := xc (G.call [Res.agg (Cl.cs c)] []) <| xc (G.app [[ii 1, ii 0, ii 0, ii 0, st ⟨#[]⟩, u 0, C.slice 1 []], [ii 13, ii 0, ii 0, ii 0, st ⟨#[]⟩, u 9, C.slice 1 []], [ii 5, ii 0, ii 1, ii 0, st (ByteArray.mk #[(97 : UInt8), (98 : UInt8), (99 : UInt8), (100 : UInt8), (101 : UInt8), (102 : UInt8), (103 : UInt8), (104 : UInt8)]), u 0, C.slice 1 []]]) <| xc (G.app [[ii 1, ii 0, ii 0, ii 0, st ⟨#[]⟩, u 0, C.slice 1 []], [ii 13, ii 0, ii 0, ii 0, st ⟨#[]⟩, u 9, C.slice 1 []], [ii 5, ii 0, ii 1, ii 0, st (ByteArray.mk #[(97 : UInt8), (98 : UInt8), (99 : UInt8), (100 : UInt8), (101 : UInt8), (102 : UInt8), (103 : UInt8), (104 : UInt8)]), u 0, C.slice 1 []], [ii 1, ii 1, ii 0, ii 0, st ⟨#[]⟩, u 0, C.slice 1 []], [ii 13, ii 1, ii 0, ii 0, st ⟨#[]⟩, u 8, C.slice 1 []], [ii 5, ii 1, ii 1, ii 0, st (ByteArray.mk #[(97 : UInt8), (98 : UInt8), (99 : UInt8), (100 : UInt8), (101 : UInt8), (102 : UInt8), (103 : UInt8), (104 : UInt8)]), u 0, C.slice 1 []]]) <| xc (G.call [Res.agg (Cl.cs d)] []) <| xc (G.call [Res.agg (Cl.cs x), Res.top 5 (List.map Ou.cs o3)] []) <| xc (G.call [Res.agg (Cl.cs y), Res.top 5 (List.map Ou.cs o4)] []) <| xc (G.call [Res.c (ii 1)] []) <| xg2 gT <| xc (G.call [Res.c (ii 3)] []) <| xg3 gT <| xc (G.call [Res.agg (Cl.cs e)] []) <| xc gT <| xc (G.call [Res.c (ii 0)] []) <| xg4 gT <| xc (G.call [Res.top 3 [[u 9, u 7, ii 0], [u 8, u 7, ii 1]]] []) <| xc gT <| xc (G.call [Res.c (u 7)] []) <| xg2 gT <| xc (G.call [Res.c (u 7)] []) <| xg3 gT <| xc (G.call [Res.c (bo true)] []) <| xg3 gT <| xc (G.call [Res.c (u 7)] []) <| xc gT <| xc (G.call [Res.c (ii 1)] []) <| xg4 gT <| xc (G.call [Res.c (ii (-1 : Int))] []) <| xg5 gT <| xc (G.call [Res.c (ii 1)] []) <| xg5 gT <| xc (G.call [Res.c (ii (-1 : Int))] []) <| xg5 gT <| [G.call [Res.c (bo true)] [], gT]) (rs := [Res.c (bo true)]) rfl
theorem oneD : ∀ e ∈ oneL, e.data.size ≤ 300 := by decide
theorem twoD : ∀ e ∈ twoL, e.data.size ≤ 300 := by decide
theorem thrD : ∀ e ∈ thrL, e.data.size ≤ 300 := by decide
theorem aC_b : ClB 4 12 3 18 aC := reach_b 1 (by decide) oneL
theorem aD_b : ClB 4 24 6 36 aD := reach_b 1 (by decide) twoL
theorem aE_b : ClB 4 0 0 0 aE := reach_b 1 (by decide) []
theorem aX_b : ClB 4 20 5 30 aX := playM_b thrL aC_b
theorem ClB.mints {N a m s : Nat} {c : Cl} (h : ClB N a m s c) : c.n0.mints.length + c.n1.mints.length ≤ m + m := by
  have := h.n0.mints
  have := h.n1.mints
  omega
set_option maxRecDepth 100000 in
theorem alive24 (k : Nat) : orac PP GL XX HH NN (k + 19) 7 [] [] = some ([.c (bo true)], []) :=
  aliveF aC aD aE aX aY (playM aC thrL).2 (doM aX delE).2
    (fun k => reach9F 1 (oneL.map Evt.cs) aC (fun k => reach16 1 (by decide) oneL (by decide) oneD k) k)
    (fun k => reach9F 1 (twoL.map Evt.cs) aD (fun k => reach16 1 (by decide) twoL (by decide) twoD k) k)
    (fun k => reach9N 1 aE (fun k => reach16n 1 (by decide) k) k)
    (fun k => play10F aC aX (thrL.map Evt.cs) _ (fun k => play16 aC thrL aC_b (by decide) (by decide) (by decide) (by decide) (by decide) thrD k) (k + 1))
    (fun k => do24F aX aY delE _ (fun k => do16 aX delE aX_b (by decide) (by decide) (by decide) (by decide) (by decide) (by decide) k) (k + 3))
    (fun k => by rw [← aR1]; exact rel15 aC (Nat.le_trans aC_b.mints (by decide)) (k + 10))
    (fun k => by rw [← aR2]; exact rel15 aD (Nat.le_trans aD_b.mints (by decide)) (k + 10))
    (fun k => by rw [← aR3]; exact rel15 aE (Nat.le_trans aE_b.mints (by decide)) (k + 10))
    (fun k => by
      have := mints13 aD (Nat.le_trans aD_b.mints (by decide)) (k + 15)
      rw [aM] at this
      exact this)
    (fun k => same12 [⟨9, 7, 0⟩, ⟨8, 7, 1⟩] (by decide) (k + 16))
    (fun k => by
      have := back17 aD 7 9 (Nat.le_trans aD_b.mints (by decide)) (k + 11)
      rw [aB1] at this
      exact this)
    (fun k => by
      have := back17 aD 8 9 (Nat.le_trans aD_b.mints (by decide)) (k + 11)
      rw [aB2] at this
      exact this)
    (fun k => by
      have := start19 aX aY (k + 15)
      rw [aS1] at this
      exact this)
    (fun k => by
      have := start19 aY aX (k + 15)
      rw [aS2] at this
      exact this)
    (fun k => by
      have := fair21 aX aY (Nat.le_trans aX_b.mints (by decide)) (k + 11)
      rw [aF] at this
      exact this) k
theorem tellsF (b : Int) (l : List Evt) (m : List Evt) (c : Cl) (d : Cl) (o : List Ou) (g1 : greatM l (60 : Int) = false) (g2 : greatM m (60 : Int) = false) (hc : c.n0.mints.length + c.n1.mints.length ≤ 100000) (hd : d.n0.mints.length + d.n1.mints.length ≤ 100000) (hcl : List.length (mintsM c) ≤ 1000000) (hR : ∀ k, orac PP GL XX HH NN (k + 19) 9 [A.c (by8 b), A.c (C.slice 7 (List.map Evt.cs l))] [] = some ([Res.agg (Cl.cs c)], [])) (hP : ∀ k, orac PP GL XX HH NN (k + 19) 10 [A.agg (Cl.cs c), A.c (C.slice 7 (List.map Evt.cs m))] [] = some ([Res.agg (Cl.cs d), Res.top 5 (List.map Ou.cs o)], [])) (k : Nat) : orac PP GL XX HH NN (k + 20) 3 [A.c (by8 b), A.c (C.slice 7 (List.map Evt.cs l)), A.c (C.slice 7 (List.map Evt.cs m))] [] = some ([Res.c (bo true)], []) := by
  exact rt (aa (alive24 k) <| aa ff <| aa (great8 l 60 (show (60 : Int) ≤ 1000000 from by decide) (k + 16)) <| xa2 g1 <| aa (great8 m 60 (show (60 : Int) ≤ 1000000 from by decide) (k + 16)) <| aa g1 <| aa g2 <| aa (hR k) <| aa (hP k) <| aa (head11_0 c (k + 18)) <| aa (head11_1 d (k + 18)) <| aa (mints13 c (show c.n0.mints.length + c.n1.mints.length ≤ 1000000 from by omega) (k + 16)) <| aa (mints14 c (show c.n0.mints.length ≤ 1000000 from by omega) (show c.n1.mints.length ≤ 1000000 from by omega) (k + 18)) <| aa (same12 (mintsM c) hcl (k + 17)) <| xa2 tt <| aa (rel15 c hc (k + 11)) <| xa2 tt <| aa (rel16 c hc (k + 11)) <| xa2 tt <| xa4 (beq_t (relM c)) <| aa (back17 d c.n0.store.super.v.cur d.n1.store.super.v.cur hd (k + 12)) <| xa4 (beq_t (relM c)) <| aa (back18 d c.n0.store.super.v.cur d.n1.store.super.v.cur hd (k + 12)) <| xa2 (beq_t (relM c)) <| xa4 (beq_t (backM d c.n0.store.super.v.cur d.n1.store.super.v.cur)) <| aa (back17 d d.n1.store.super.v.cur c.n0.store.super.v.cur hd (k + 12)) <| xa4 (beq_t (backM d c.n0.store.super.v.cur d.n1.store.super.v.cur)) <| aa (back18 d d.n1.store.super.v.cur c.n0.store.super.v.cur hd (k + 12)) <| xa2 (beq_t (backM d c.n0.store.super.v.cur d.n1.store.super.v.cur)) <| xa3 (beq_t (backM d d.n1.store.super.v.cur c.n0.store.super.v.cur)) <| aa (start19 c d (k + 16)) <| xa3 (beq_t (backM d d.n1.store.super.v.cur c.n0.store.super.v.cur)) <| aa (start20 c d (k + 18)) <| xa2 (beq_t (backM d d.n1.store.super.v.cur c.n0.store.super.v.cur)) <| xa3 (beq_t (startM c d)) <| aa (fair21 c d hc (k + 12)) <| xa3 (beq_t (startM c d)) <| aa (fair22 c d hc (k + 11)) <| xa2 (beq_t (startM c d)) <| trivial) (gs := xc (G.call [Res.c (bo true)] []) <| xc gF <| xc (G.call [Res.c (bo (greatM l 60))] []) <| xg2 gF <| xc (G.call [Res.c (bo (greatM m 60))] []) <| xg2 gF <| xc (G.call [Res.agg (Cl.cs c)] []) <| xc (G.call [Res.agg (Cl.cs d), Res.top 5 (List.map Ou.cs o)] []) <| xc (G.call [Res.c (u c.n0.store.super.v.cur)] []) <| xc (G.call [Res.c (u d.n1.store.super.v.cur)] []) <| xg2 (G.call [Res.top 3 (List.map Mi.cs (mintsM c))] []) <| xc (G.call [Res.c (bo true)] []) <| xg2 gT <| xc (G.call [Res.c (ii (relM c))] []) <| xg2 gT <| xc (G.call [Res.c (ii (relM c))] []) <| xg6 gT <| xc (G.call [Res.c (ii (backM d c.n0.store.super.v.cur d.n1.store.super.v.cur))] []) <| xg4 gT <| xc (G.call [Res.c (ii (backM d c.n0.store.super.v.cur d.n1.store.super.v.cur))] []) <| xg6 gT <| xc (G.call [Res.c (ii (backM d d.n1.store.super.v.cur c.n0.store.super.v.cur))] []) <| xg4 gT <| xc (G.call [Res.c (ii (backM d d.n1.store.super.v.cur c.n0.store.super.v.cur))] []) <| xg5 gT <| xc (G.call [Res.c (ii (startM c d))] []) <| xg3 gT <| xc (G.call [Res.c (ii (startM c d))] []) <| xg5 gT <| xc (G.call [Res.c (bo (fairM c d))] []) <| xg3 gT <| xc (G.call [Res.c (bo (fairM c d))] []) <| xg2 gT <| []) (rs := [Res.c (bo (fairM c d == fairM c d))]) (by simp only [beq_self_eq_true, vq1, vq2, vq3, vq4, vq5, vq6, vq7, vq8] <;> rfl)
theorem tellsG1 (b : Int) (l : List Evt) (m : List Evt) (g1 : greatM l (60 : Int) = true) (k : Nat) : orac PP GL XX HH NN (k + 20) 3 [A.c (by8 b), A.c (C.slice 7 (List.map Evt.cs l)), A.c (C.slice 7 (List.map Evt.cs m))] [] = some ([Res.c (bo true)], []) := by
  exact rt (aa (alive24 k) <| aa ff <| aa (great8 l 60 (show (60 : Int) ≤ 1000000 from by decide) (k + 16)) <| xa3 g1 <| aa tt <| trivial) (gs := xc (G.call [Res.c (bo true)] []) <| xc gF <| xc (G.call [Res.c (bo (greatM l 60))] []) <| xg4 gT <| []) (rs := [Res.c (bo true)]) rfl
theorem tellsG2 (b : Int) (l : List Evt) (m : List Evt) (g1 : greatM l (60 : Int) = false) (g2 : greatM m (60 : Int) = true) (k : Nat) : orac PP GL XX HH NN (k + 20) 3 [A.c (by8 b), A.c (C.slice 7 (List.map Evt.cs l)), A.c (C.slice 7 (List.map Evt.cs m))] [] = some ([Res.c (bo true)], []) := by
  exact rt (aa (alive24 k) <| aa ff <| aa (great8 l 60 (show (60 : Int) ≤ 1000000 from by decide) (k + 16)) <| xa2 g1 <| aa (great8 m 60 (show (60 : Int) ≤ 1000000 from by decide) (k + 16)) <| aa g1 <| aa g2 <| trivial) (gs := xc (G.call [Res.c (bo true)] []) <| xc gF <| xc (G.call [Res.c (bo (greatM l 60))] []) <| xg2 gF <| [G.call [Res.c (bo (greatM m 60))] [], gF, gT]) (rs := [Res.c (bo true)]) rfl
theorem great_len {l : List Evt} {m : Int} (h : greatM l m = false) : (l.length : Int) ≤ m := by
  unfold greatM at h
  cases hq : decide ((l.length : Int) > m) with
  | true => rw [hq] at h; cases h
  | false => simp at hq; exact hq
theorem great_data {l : List Evt} {m : Int} (h : greatM l m = false) : ∀ e ∈ l, e.data.size ≤ 300 := fun e he => by
  unfold greatM at h
  cases hq : decide ((l.length : Int) > m) with
  | true => rw [hq] at h; cases h
  | false =>
    rw [hq, cond_false] at h
    have := List.any_eq_false.1 h e he
    unfold evGreat at this
    simp at this
    omega
theorem tells (b : Int) (hb : 0 ≤ b) (l m : List Evt) (k : Nat) : orac PP GL XX HH NN (k + 20) 3 [.c (by8 b), .c (.slice 7 (l.map Evt.cs)), .c (.slice 7 (m.map Evt.cs))] [] = some ([.c (bo true)], []) := by
  cases g1 : greatM l 60 with
  | true => exact tellsG1 b l m g1 k
  | false =>
    cases g2 : greatM m 60 with
    | true => exact tellsG2 b l m g1 g2 k
    | false =>
      have e1 := great_len g1
      have e2 := great_len g2
      have d1 := great_data g1
      have d2 := great_data g2
      have hB := reach_b b hb l
      have hN := blocks_four b hb
      have hP := playM_b m hB
      have c1 := hB.mints
      have c2 := hP.mints
      exact tellsF b l m (reachM b l) (playM (reachM b l) m).1 _ g1 g2 (by omega) (by omega) (by rw [mintsM_len]; omega) (fun k => reach9F b (l.map Evt.cs) _ (fun k => reach16 b hb l (by omega) d1 k) (k + 1)) (fun k => play10F _ _ (m.map Evt.cs) _ (fun k => play16 (reachM b l) m hB (by omega) (by omega) (by omega) (by omega) (by omega) d2 k) (k + 2)) k
end Go.Dm
