/-
  A part of the proofs over this seat: what its functions make of data, in plain terms (the file in which the theorems stand says what is proved).
-/
import Derived.KernelRfl
import Derived.Test.YtafmihnhdodekaaGreatC1
namespace Go.Dm
open Go
abbrev xc (x : G) (l : List G) : List G := x :: l
abbrev xg2 (x : G) (l : List G) : List G := x :: x :: l
abbrev xg3 (x : G) (l : List G) : List G := x :: x :: x :: l
abbrev xg4 (x : G) (l : List G) : List G := x :: x :: x :: x :: l
abbrev xg5 (x : G) (l : List G) : List G := x :: x :: x :: x :: x :: l
abbrev xg6 (x : G) (l : List G) : List G := x :: x :: x :: x :: x :: x :: l
abbrev xg7 (x : G) (l : List G) : List G := x :: x :: x :: x :: x :: x :: x :: l
abbrev xg8 (x : G) (l : List G) : List G := x :: x :: x :: x :: x :: x :: x :: x :: l
abbrev xg9 (x : G) (l : List G) : List G := x :: x :: x :: x :: x :: x :: x :: x :: x :: l
abbrev xg10 (x : G) (l : List G) : List G := x :: x :: x :: x :: x :: x :: x :: x :: x :: x :: l
abbrev xg11 (x : G) (l : List G) : List G := x :: x :: x :: x :: x :: x :: x :: x :: x :: x :: x :: l
abbrev xg12 (x : G) (l : List G) : List G := x :: x :: x :: x :: x :: x :: x :: x :: x :: x :: x :: x :: l
theorem xa2 {p q : Prop} (a : p) (b : q) : p ∧ p ∧ q := ⟨a, a, b⟩
theorem xa3 {p q : Prop} (a : p) (b : q) : p ∧ p ∧ p ∧ q := ⟨a, a, a, b⟩
theorem xa4 {p q : Prop} (a : p) (b : q) : p ∧ p ∧ p ∧ p ∧ q := ⟨a, a, a, a, b⟩
theorem xa5 {p q : Prop} (a : p) (b : q) : p ∧ p ∧ p ∧ p ∧ p ∧ q := ⟨a, a, a, a, a, b⟩
theorem xa6 {p q : Prop} (a : p) (b : q) : p ∧ p ∧ p ∧ p ∧ p ∧ p ∧ q := ⟨a, a, a, a, a, a, b⟩
theorem xa7 {p q : Prop} (a : p) (b : q) : p ∧ p ∧ p ∧ p ∧ p ∧ p ∧ p ∧ q := ⟨a, a, a, a, a, a, a, b⟩
theorem xa8 {p q : Prop} (a : p) (b : q) : p ∧ p ∧ p ∧ p ∧ p ∧ p ∧ p ∧ p ∧ q := ⟨a, a, a, a, a, a, a, a, b⟩
theorem xa9 {p q : Prop} (a : p) (b : q) : p ∧ p ∧ p ∧ p ∧ p ∧ p ∧ p ∧ p ∧ p ∧ q := ⟨a, a, a, a, a, a, a, a, a, b⟩
theorem xa10 {p q : Prop} (a : p) (b : q) : p ∧ p ∧ p ∧ p ∧ p ∧ p ∧ p ∧ p ∧ p ∧ p ∧ q := ⟨a, a, a, a, a, a, a, a, a, a, b⟩
theorem xa11 {p q : Prop} (a : p) (b : q) : p ∧ p ∧ p ∧ p ∧ p ∧ p ∧ p ∧ p ∧ p ∧ p ∧ p ∧ q := ⟨a, a, a, a, a, a, a, a, a, a, a, b⟩
theorem xa12 {p q : Prop} (a : p) (b : q) : p ∧ p ∧ p ∧ p ∧ p ∧ p ∧ p ∧ p ∧ p ∧ p ∧ p ∧ p ∧ q := ⟨a, a, a, a, a, a, a, a, a, a, a, a, b⟩
theorem bft (b : Bool) : b = true ∨ b = false := Bool.eq_false_or_eq_true b
theorem cn {a b : Bool} (h : a = b) : not a = not b := congrArg not h
abbrev gT : G := .b true
abbrev gF : G := .b false
theorem vq1 {α : Type} (a b : α) : (bif true then a else b) = a := rfl
theorem vq2 {α : Type} (a b : α) : (bif false then a else b) = b := rfl
theorem vq3 (b : Bool) : (true && b) = b := Bool.true_and b
theorem vq4 (b : Bool) : (false && b) = false := Bool.false_and b
theorem vq5 (b : Bool) : (true || b) = true := Bool.true_or b
theorem vq6 (b : Bool) : (false || b) = b := Bool.false_or b
theorem vq7 : (!true) = false := rfl
theorem vq8 : (!false) = true := rfl
theorem vr1 {α : Type} {as bs : List α} : (as ++ bs).length = as.length + bs.length := List.length_append
theorem vr2 {α : Type} {a : α} {as : List α} : (a :: as).length = as.length + 1 := List.length_cons
theorem vr3 {α : Type} : ([] : List α).length = 0 := rfl
theorem vr4 {α : Type} {i : Nat} {l : List α} : (l.drop i).length = l.length - i := List.length_drop
theorem vr5 {α : Type} {i : Nat} {l : List α} : (l.take i).length = min i l.length := List.length_take
theorem vr6 {α β : Type} {f : α → β} {as : List α} : (as.map f).length = as.length := List.length_map f
theorem ro {P : Program} {gl : Nat → Option (List C)} {X : Tab} {H : FuncId → Nat → LoopHint} {n k : Nat} {g : FuncId} {fn : Func} {Q : Prop} {xs : List A} {gs : List G} {rs : List Res} (q : Q) (hg : P.funcs[g]? = some fn := by rfl) (hx : X g = none := by rfl)
    (h : (gFn ⟨P, orac P gl X H n k, gl, tpOf H, vsOf H⟩ (H g) n fn xs [] gs).map (fun r => (r.1, r.2.1, allP r.2.2)) = some (rs, [], Q) := by kernel_rfl) : orac P gl X H n (k + 1) g xs [] = some (rs, []) := run_of hg hx q h
theorem rt {P : Program} {gl : Nat → Option (List C)} {X : Tab} {H : FuncId → Nat → LoopHint} {n k : Nat} {g : FuncId} {fn : Func} {Q : Prop} {xs : List A} {gs : List G} {rs : List Res} {r : Option (List Res × List (List C))} (q : Q) (e : some (rs, ([] : List (List C))) = r) (hg : P.funcs[g]? = some fn := by rfl) (hx : X g = none := by rfl)
    (h : (gFn ⟨P, orac P gl X H n k, gl, tpOf H, vsOf H⟩ (H g) n fn xs [] gs).map (fun r => (r.1, r.2.1, allP r.2.2)) = some (rs, [], Q) := by kernel_rfl) : orac P gl X H n (k + 1) g xs [] = r := (run_of hg hx q h).trans e
end Go.Dm
namespace Go.Dm
open Go
abbrev mi (x : BitVec 32) : Int := (x.toNat : Int)
theorem wrap_u32_nat (n : Nat) : IntKind.wrap .u32 (n : Int) = ((n % 4294967296 : Nat) : Int) := by
  unfold IntKind.wrap
  simp [IntKind.signed, IntKind.bits]
theorem mi_bound (x : BitVec 32) : 0 ≤ mi x ∧ mi x < 4294967296 := by
  have := x.isLt
  simp only [mi]
  omega
def inM (m : Int) (i : Nat) : Bool := (IntKind.wrap .u32 (m.tdiv (2 ^ i))).tmod 2 == 1
theorem inM_bv (x : BitVec 32) (i : Nat) : inM (mi x) i = x.getLsbD i := by
  unfold inM mi
  have e : ((x.toNat : Int)).tdiv (2 ^ i) = ((x.toNat / 2 ^ i : Nat) : Int) := by
    rw [Int.tdiv_eq_ediv_of_nonneg (by omega)]; simp
  rw [e, wrap_u32_nat]
  have hl : x.toNat / 2 ^ i < 4294967296 := Nat.lt_of_le_of_lt (Nat.div_le_self _ _) x.isLt
  rw [Nat.mod_eq_of_lt hl, Int.tmod_eq_emod_of_nonneg (Int.natCast_nonneg _)]
  show _ = Nat.testBit x.toNat i
  rw [Nat.testBit_eq_decide_div_mod_eq, Bool.eq_iff_iff]
  generalize x.toNat / 2 ^ i = q
  simp only [beq_iff_eq, decide_eq_true_eq]
  omega
theorem tp_mi {i : Nat} (h : i < 32) : (2 : Int) ^ i = mi (BitVec.twoPow 32 i) := by
  simp only [mi, BitVec.toNat_twoPow]
  rw [Nat.mod_eq_of_lt (Nat.pow_lt_pow_right (by omega) h)]
  simp
theorem add_bit {x : BitVec 32} {i : Nat} (h : i < 32) (hx : x.getLsbD i = false) : IntKind.wrap .u32 (mi x + 2 ^ i) = mi (x ||| BitVec.twoPow 32 i) := by
  rw [tp_mi h]
  have e : x ||| BitVec.twoPow 32 i = x + BitVec.twoPow 32 i := by
    rw [BitVec.add_eq_or_of_and_eq_zero]
    apply BitVec.eq_of_getLsbD_eq
    intro j hj
    simp only [BitVec.getLsbD_and, BitVec.getLsbD_twoPow, hj, decide_true, Bool.true_and, BitVec.getLsbD_zero]
    by_cases hji : i = j
    · subst hji; simp [hx]
    · simp [hji]
  rw [e]
  simp only [mi]
  rw [← Int.natCast_add, wrap_u32_nat, BitVec.toNat_add]
theorem sub_bit {x : BitVec 32} {i : Nat} (h : i < 32) (hx : x.getLsbD i = true) : IntKind.wrap .u32 (mi x - 2 ^ i) = mi (x &&& ~~~BitVec.twoPow 32 i) := by
  have hb : (x &&& ~~~BitVec.twoPow 32 i).getLsbD i = false := by simp [h]
  have ha := add_bit h hb
  have e : (x &&& ~~~BitVec.twoPow 32 i) ||| BitVec.twoPow 32 i = x := by
    apply BitVec.eq_of_getLsbD_eq
    intro j hj
    simp only [BitVec.getLsbD_or, BitVec.getLsbD_and, BitVec.getLsbD_not, BitVec.getLsbD_twoPow, hj, decide_true, Bool.true_and]
    by_cases hji : i = j
    · subst hji; simp [hx]
    · simp [hji]
  rw [e] at ha
  rw [tp_mi h] at ha ⊢
  have h1 := mi_bound x
  have h2 := mi_bound (x &&& ~~~BitVec.twoPow 32 i)
  have h3 := mi_bound (BitVec.twoPow 32 i)
  have hle : mi (BitVec.twoPow 32 i) ≤ mi x := by
    simp only [mi, BitVec.toNat_twoPow]
    rw [Nat.mod_eq_of_lt (Nat.pow_lt_pow_right (by omega) h)]
    have : 2 ^ i ≤ x.toNat := Nat.ge_two_pow_of_testBit (by simpa [BitVec.getLsbD] using hx)
    omega
  have w1 : IntKind.wrap .u32 (mi x - mi (BitVec.twoPow 32 i)) = mi x - mi (BitVec.twoPow 32 i) := by
    unfold IntKind.wrap
    simp [IntKind.signed, IntKind.bits]
    omega
  rw [w1]
  unfold IntKind.wrap at ha
  simp [IntKind.signed, IntKind.bits] at ha
  omega
def listB (x : BitVec 32) : List Nat := (List.range 32).filter x.getLsbD
def setB (x : BitVec 32) (l : List Nat) : BitVec 32 := l.foldl (fun m i => m ||| BitVec.twoPow 32 i) x
theorem setB_get : ∀ (l : List Nat) (x : BitVec 32) (j : Nat), j < 32 → (setB x l).getLsbD j = (x.getLsbD j || l.contains j)
  | [], x, j, _ => by simp [setB]
  | i :: l, x, j, hj => by
    have := setB_get l (x ||| BitVec.twoPow 32 i) j hj
    unfold setB at this ⊢
    simp only [List.foldl_cons]
    rw [this]
    simp only [BitVec.getLsbD_or, BitVec.getLsbD_twoPow, List.contains_cons, hj, decide_true, Bool.true_and]
    rw [Bool.or_assoc]
    congr 2
    rw [Bool.eq_iff_iff]
    simp
    omega
theorem setB_listB (x y : BitVec 32) : setB x (listB y) = x ||| y := by
  apply BitVec.eq_of_getLsbD_eq
  intro j hj
  rw [setB_get _ _ _ hj, BitVec.getLsbD_or]
  congr 1
  unfold listB
  rw [Bool.eq_iff_iff]
  simp [hj]
abbrev is (l : List Int) : List (List C) := l.map eI
abbrev eW (x : BitVec 32) : List C := [w4 (mi x)]
abbrev ms (l : List (BitVec 32)) : List (List C) := l.map eW
theorem is_len (l : List Int) : (is l).length = l.length := by simp [is]
theorem two_pow_le {i : Nat} (h : i ≤ 31) : (2 : Int) ^ i ≤ 2147483648 ∧ 0 < (2 : Int) ^ i := by
  have h1 : (2 : Nat) ^ i ≤ 2 ^ 31 := Nat.pow_le_pow_right (by omega) h
  have h2 : 0 < (2 : Nat) ^ i := Nat.pow_pos (by omega)
  have e : ((2 ^ i : Nat) : Int) = (2 : Int) ^ i := by simp
  rw [← e]
  omega
def listI (x : BitVec 32) : List Int := (listB x).map fun (i : Nat) => (i : Int)
def lsI (x : BitVec 32) (n : Nat) : List Int := ((List.range n).filter x.getLsbD).map fun (i : Nat) => (i : Int)
theorem lsI_succ (x : BitVec 32) (n : Nat) : lsI x (n + 1) = if x.getLsbD n then lsI x n ++ [(n : Int)] else lsI x n := by
  unfold lsI
  rw [List.range_succ, List.filter_append]
  cases hb : x.getLsbD n <;> simp [hb]
theorem lsI_len (x : BitVec 32) (n : Nat) : (lsI x n).length ≤ n := by
  unfold lsI
  rw [List.length_map]
  exact Nat.le_trans (List.length_filter_le _ _) (by simp)
theorem lsI_32 (x : BitVec 32) : lsI x 32 = listI x := rfl
theorem listI_len (x : BitVec 32) : (listI x).length ≤ 32 := lsI_len x 32
def inB (i : Int) : Bool := decide (0 ≤ i) && decide (i < 32)
def hasI (x : BitVec 32) (i : Int) : Bool := inB i && x.getLsbD i.toNat
def bitI (i : Int) : BitVec 32 := if inB i then BitVec.twoPow 32 i.toNat else 0#32
def setI (m : BitVec 32) (l : List Int) : BitVec 32 := l.foldl (fun m x => m ||| bitI x) m
def clrI (m : BitVec 32) (l : List Int) : BitVec 32 := l.foldl (fun m x => m &&& ~~~bitI x) m
def orI (m : BitVec 32) (l : List (BitVec 32)) : BitVec 32 := l.foldl (fun m x => m ||| x) m
def allI (B : Int) : BitVec 32 := if 1 ≤ B ∧ B ≤ 32 then BitVec.ofNat 32 (2 ^ B.toNat - 1) else 0#32
def rightI (x : BitVec 32) (B : Int) : Bool := decide (1 ≤ B) && decide (B ≤ 32) && (x &&& ~~~allI B == 0#32)
def nextI (x : BitVec 32) (f : Int) : Option Int := (listI x).find? fun i => decide (f ≤ i)
theorem setB_eq (x : BitVec 32) : ∀ (l : List Nat), (∀ i ∈ l, i < 32) → ∀ (m : BitVec 32), setI m (l.map fun (i : Nat) => (i : Int)) = setB m l
  | [], _, m => rfl
  | i :: l, h, m => by
    have hi := h i (by simp)
    have hb : bitI (i : Int) = BitVec.twoPow 32 i := by
      unfold bitI inB
      rw [decide_eq_true (by omega : (0 : Int) ≤ i), decide_eq_true (by omega : (i : Int) < 32)]
      simp
    have := setB_eq x l (fun j hj => h j (by simp [hj])) (m ||| BitVec.twoPow 32 i)
    unfold setI setB at this ⊢
    simp only [List.map_cons, List.foldl_cons, hb]
    exact this
theorem setI_listI (x y : BitVec 32) : setI x (listI y) = x ||| y := by
  rw [← setB_listB x y]
  unfold listI
  refine setB_eq x _ (fun i hi => ?_) _
  unfold listB at hi
  simp at hi
  exact hi.1
end Go.Dm
namespace Go.Dm
open Go
structure Wr where
  sec : Int
  data : ByteArray
  deriving Inhabited, DecidableEq
abbrev Wr.cs (w : Wr) : List C := [ii w.sec, st w.data]
structure Dk where
  sure : List ByteArray
  cache : List Wr
  fuse : Int
  dead : Bool
  deriving Inhabited, DecidableEq
abbrev Dk.cs (d : Dk) : List C := [.slice 1 (d.sure.map eS), .slice 2 (d.cache.map Wr.cs), ii d.fuse, bo d.dead]
structure Ve where
  cur : Int
  bit : Int
  o0 : Int
  o1 : Int
  deriving Inhabited, DecidableEq
abbrev Ve.cs (v : Ve) : List C := [u v.cur, u v.bit, u v.o0, u v.o1]
structure Su where
  blocks : Int
  v : Ve
  inc : Bool
  pri : Bool
  dis : Bool
  deriving Inhabited, DecidableEq
abbrev Su.cs (s : Su) : List C := [ii s.blocks, u s.v.cur, u s.v.bit, u s.v.o0, u s.v.o1, bo s.inc, bo s.pri, bo s.dis]
structure He where
  blocks : Int
  v : Ve
  inc : Bool
  was : Bool
  dis : Bool
  pri : Bool
  mask : BitVec 32
  deriving Inhabited, DecidableEq
abbrev He.cs (h : He) : List C := [ii h.blocks, u h.v.cur, u h.v.bit, u h.v.o0, u h.v.o1, bo h.inc, bo h.was, bo h.dis, bo h.pri, w4 (mi h.mask)]
structure Vd where
  kind : Int
  src : Int
  deriving Inhabited, DecidableEq
abbrev Vd.cs (v : Vd) : List C := [ii v.kind, ii v.src]
structure Mi where
  g : Int
  p : Int
  n : Int
  deriving Inhabited, DecidableEq
abbrev Mi.cs (m : Mi) : List C := [u m.g, u m.p, ii m.n]
structure Pk where
  kind : Int
  ses : Int
  hello : He
  block : Int
  data : ByteArray
  deriving Inhabited, DecidableEq
abbrev Pk.cs (p : Pk) : List C := [ii p.kind, u p.ses, ii p.hello.blocks, u p.hello.v.cur, u p.hello.v.bit, u p.hello.v.o0, u p.hello.v.o1, bo p.hello.inc, bo p.hello.was, bo p.hello.dis, bo p.hello.pri, w4 (mi p.hello.mask), ii p.block, st p.data]
structure Lk where
  up : Bool
  ses : Int
  to0 : List ByteArray
  to1 : List ByteArray
  deriving Inhabited, DecidableEq
abbrev Lk.cs (l : Lk) : List C := [bo l.up, u l.ses, .slice 1 (l.to0.map eS), .slice 1 (l.to1.map eS)]
structure So where
  disk : Dk
  super : Su
  mask : BitVec 32
  deriving Inhabited, DecidableEq
abbrev So.cs (s : So) : List C := [.slice 1 (s.disk.sure.map eS), .slice 2 (s.disk.cache.map Wr.cs), ii s.disk.fuse, bo s.disk.dead,
  ii s.super.blocks, u s.super.v.cur, u s.super.v.bit, u s.super.v.o0, u s.super.v.o1, bo s.super.inc, bo s.super.pri, bo s.super.dis, w4 (mi s.mask)]
structure Rq where
  on : Bool
  id : Int
  block : Int
  data : ByteArray
  deriving Inhabited, DecidableEq
abbrev Rq.cs (r : Rq) : List C := [bo r.on, ii r.id, ii r.block, st r.data]
structure Nd where
  id : Int
  up : Bool
  store : So
  primary : Bool
  state : Int
  ses : Int
  peer : He
  peerPri : Bool
  req : Rq
  asking : Bool
  askId : Int
  wanted : Int
  minted : Bool
  draws : List Int
  mints : List Mi
  deriving Inhabited, DecidableEq
abbrev Nd.cs (n : Nd) : List C := [ii n.id, bo n.up, .slice 1 (n.store.disk.sure.map eS), .slice 2 (n.store.disk.cache.map Wr.cs), ii n.store.disk.fuse, bo n.store.disk.dead,
  ii n.store.super.blocks, u n.store.super.v.cur, u n.store.super.v.bit, u n.store.super.v.o0, u n.store.super.v.o1, bo n.store.super.inc, bo n.store.super.pri, bo n.store.super.dis, w4 (mi n.store.mask),
  bo n.primary, ii n.state, u n.ses, ii n.peer.blocks, u n.peer.v.cur, u n.peer.v.bit, u n.peer.v.o0, u n.peer.v.o1, bo n.peer.inc, bo n.peer.was, bo n.peer.dis, bo n.peer.pri, w4 (mi n.peer.mask), bo n.peerPri,
  bo n.req.on, ii n.req.id, ii n.req.block, st n.req.data, bo n.asking, ii n.askId, ii n.wanted, bo n.minted, .slice 1 (n.draws.map eU), .slice 3 (n.mints.map Mi.cs)]
structure Ou where
  kind : Int
  node : Int
  id : Int
  err : Int
  data : ByteArray
  deriving Inhabited, DecidableEq
abbrev Ou.cs (o : Ou) : List C := [ii o.kind, ii o.node, ii o.id, ii o.err, st o.data]
structure Cl where
  n0 : Nd
  n1 : Nd
  link : Lk
  w0 : Bool
  w1 : Bool
  deriving Inhabited, DecidableEq
abbrev Cl.cs (c : Cl) : List C := c.n0.cs ++ (c.n1.cs ++ [bo c.link.up, u c.link.ses, .slice 1 (c.link.to0.map eS), .slice 1 (c.link.to1.map eS), bo c.w0, bo c.w1])
structure Evt where
  kind : Int
  node : Int
  id : Int
  block : Int
  data : ByteArray
  n : Int
  keeps : List Bool
  deriving Inhabited, DecidableEq
abbrev Evt.cs (e : Evt) : List C := [ii e.kind, ii e.node, ii e.id, ii e.block, st e.data, u e.n, .slice 1 (e.keeps.map eB)]
end Go.Dm
namespace Go.Dm
open Go
def putM : Nat → Int → ByteArray → ByteArray
  | 0, _, s => s
  | k + 1, n, s => putM k (IntKind.wrap .u64 (n.tdiv 256)) (bstr [IntKind.wrap .u8 (n.tmod 256)] ++ s)
def put8 (n : Int) : ByteArray := putM 8 n ⟨#[]⟩
def put4 (n : Int) : ByteArray := putM 4 (IntKind.wrap .u64 n) ⟨#[]⟩
def getM (l : List UInt8) : Int := l.foldl (fun n b => IntKind.wrap .u64 (IntKind.wrap .u64 (n * 256) + IntKind.wrap .u64 (b.toNat : Int))) 0
def byteAt (s : ByteArray) (i : Nat) : UInt8 := s[i]?.getD 0
def fl (b : Bool) (n : Int) : Int := bif b then n else 0
def sumStep (n : Int) (b : UInt8) : Int := (IntKind.wrap .u64 (ixor .u64 n (IntKind.wrap .u64 (b.toNat : Int)) * 16777619)).tmod 4294967296
def sumM (s : ByteArray) : Int := IntKind.wrap .u32 (s.data.toList.foldl sumStep 2166136261)
def sealM (s : ByteArray) : ByteArray := s ++ put4 (sumM s)
def openB (s : ByteArray) : ByteArray × Int :=
  bif decide ((s.size : Int) < 4) then (⟨#[]⟩, 2) else bif sealM (s.extract 0 (s.size - 4)) == s then (s.extract 0 (s.size - 4), 0) else (⟨#[]⟩, 3)
theorem bstr_size (ns : List Int) : (bstr ns).size = ns.length := by
  have key : ∀ (l : List Int) (a : ByteArray), (l.foldl (fun r n => r.push (UInt8.ofNat n.toNat)) a).size = a.size + l.length := by
    intro l
    induction l with
    | nil => intro a; rfl
    | cons x l ih => intro a; rw [List.foldl_cons, ih, ByteArray.size_push, List.length_cons]; omega
  have := key ns ByteArray.empty
  simpa [bstr] using this
theorem putM_size : ∀ (k : Nat) (n : Int) (s : ByteArray), (putM k n s).size = k + s.size
  | 0, n, s => by simp [putM]
  | k + 1, n, s => by
    rw [putM, putM_size k, ByteArray.size_append, bstr_size]
    simp only [List.length_cons, List.length_nil]
    omega
theorem lit_size (a : Array UInt8) : (ByteArray.mk a).size = a.size := rfl
theorem nil_size : (⟨#[]⟩ : ByteArray).size = 0 := rfl
theorem put8_size (n : Int) : (put8 n).size = 8 := by unfold put8; rw [putM_size, nil_size]
theorem put4_size (n : Int) : (put4 n).size = 4 := by unfold put4; rw [putM_size, nil_size]
theorem sealM_size (s : ByteArray) : (sealM s).size = s.size + 4 := by unfold sealM; rw [ByteArray.size_append, put4_size]
theorem ba_get (s : ByteArray) (i : Nat) : s[i]? = s.data.toList[i]? := by
  by_cases h : i < s.size
  · rw [getElem?_pos s i h]
    have h2 : i < s.data.toList.length := by simpa using h
    rw [List.getElem?_eq_getElem h2]
    simp
    rfl
  · rw [getElem?_neg s i h, List.getElem?_eq_none (by simpa using h)]
theorem ba_len (s : ByteArray) : s.data.toList.length = s.size := by simp
theorem list8 {α : Type} {l : List α} (h : l.length = 8) : ∃ a b c d e f g i, l = [a, b, c, d, e, f, g, i] := by
  match l, h with
  | [a, b, c, d, e, f, g, i], _ => exact ⟨a, b, c, d, e, f, g, i, rfl⟩
theorem list4 {α : Type} {l : List α} (h : l.length = 4) : ∃ a b c d, l = [a, b, c, d] := by
  match l, h with
  | [a, b, c, d], _ => exact ⟨a, b, c, d, rfl⟩
theorem byteAt_get {s : ByteArray} {i : Nat} (h : i < s.size) : s[i]? = some (byteAt s i) := by
  unfold byteAt
  rw [getElem?_pos s i h]
  rfl
def holdsM (d : Dk) (i : Int) : ByteArray := d.cache.foldl (fun s w => bif w.sec == i then w.data else s) (d.sure.getD i.toNat ⟨#[]⟩)
def readM (d : Dk) (i : Int) : ByteArray × Int :=
  bif d.dead then (⟨#[]⟩, 6) else bif decide (i < 0) || decide (i ≥ (d.sure.length : Int)) then (⟨#[]⟩, 4) else (holdsM d i, 0)
def burnM (d : Dk) : Dk :=
  { d with dead := bif d.fuse == 1 then true else d.dead, fuse := bif decide (d.fuse > 0) then IntKind.wrap .i64 (d.fuse - 1) else d.fuse }
def dwriteM (d : Dk) (i : Int) (data : ByteArray) : Dk × Int :=
  bif d.dead then (d, 6) else bif decide (i < 0) || decide (i ≥ (d.sure.length : Int)) then (d, 4) else bif decide ((data.size : Int) > 64) then (d, 5) else
  bif (burnM d).dead then (burnM d, 6) else ({ burnM d with cache := (burnM d).cache ++ [⟨i, data⟩] }, 0)
def heldM (d : Dk) : List ByteArray := (List.range d.sure.length).map fun (i : Nat) => holdsM d (i : Int)
def flushM (d : Dk) : Dk × Int :=
  bif d.dead then (d, 6) else bif (burnM d).dead then (burnM d, 6) else
  ({ burnM d with sure := heldM (burnM d), cache := [] }, 0)
def armM (d : Dk) (n : Int) : Dk := { d with fuse := if 0 > n then 0 else n }
def crashM (d : Dk) : Dk := { d with dead := true, fuse := 0 }
def reviveM (d : Dk) (keeps : List Bool) : Dk :=
  ⟨(d.cache.zip keeps).foldl (fun s x => bif x.2 then s.set x.1.sec.toNat x.1.data else s) d.sure, [], 0, false⟩
def placeM (v : Ve) (g : Int) : Int := bif g == 0 then -1 else bif v.cur == g then 0 else bif v.bit == g then 1 else bif v.o0 == g then 2 else bif v.o1 == g then 3 else -1
def vmintM (v : Ve) (g : Int) : Ve := bif v.bit == 0 then ⟨g, v.cur, v.o0, v.o1⟩ else ⟨g, v.bit, v.cur, v.o0⟩
def retireM (v : Ve) : Ve := bif v.bit == 0 then v else ⟨v.cur, 0, v.bit, v.o0⟩
def fromM (v : Ve) (g : Int) : Ve := { v with bit := g }
def suRight (s : Su) : Bool := decide (s.blocks ≥ 1) && decide (s.blocks ≤ 32) && !(s.v.cur == 0)
def suBytes (s : Su) : ByteArray := (((((⟨#[71, 77, 1]⟩ ++ bstr [IntKind.wrap .u8 s.blocks, fl s.inc 1 + fl s.pri 2 + fl s.dis 4]) ++ put8 s.v.cur) ++ put8 s.v.bit) ++ put8 s.v.o0) ++ put8 s.v.o1)
theorem suBytes_size (s : Su) : (suBytes s).size = 37 := by
  unfold suBytes
  simp only [ByteArray.size_append, bstr_size, put8_size, List.length_cons, List.length_nil]
  rfl
def suEnc (s : Su) : ByteArray × Int := bif !suRight s then (⟨#[]⟩, 1) else (sealM (suBytes s), 0)
def su0 : Su := ⟨0, ⟨0, 0, 0, 0⟩, false, false, false⟩
def numAt (t : ByteArray) (at' : Nat) : Int := getM (t.extract at' (at' + 8)).data.toList
def bitOf (b : UInt8) (i : Nat) : Bool := ((b.toNat / 2 ^ i) % 2 == 1)
def suOf (t : ByteArray) : Su := ⟨IntKind.wrap .i64 ((byteAt t 3).toNat : Int), ⟨numAt t 5, numAt t 13, numAt t 21, numAt t 29⟩, bitOf (byteAt t 4) 0, bitOf (byteAt t 4) 1, bitOf (byteAt t 4) 2⟩
def suDec (b : ByteArray) : Su × Int :=
  bif !((openB b).2 == 0) then (su0, (openB b).2) else
  bif !(((openB b).1.size : Int) == 37) || decide (((byteAt (openB b).1 4).toNat : Int) > 7) then (su0, 2) else
  bif !suRight (suOf (openB b).1) || !(suBytes (suOf (openB b).1) == (openB b).1) then (su0, 2) else (suOf (openB b).1, 0)
def fitsM (d : Dk) (s : Su) : Bool := IntKind.wrap .i64 ((d.sure.length : Int) - 2) == s.blocks
def loadS (d : Dk) : Su × Int :=
  bif !((readM d 0).2 == 0) then (su0, (readM d 0).2) else bif !((suDec (readM d 0).1).2 == 0) then (su0, (suDec (readM d 0).1).2) else
  bif !fitsM d (suDec (readM d 0).1).1 then (su0, 2) else ((suDec (readM d 0).1).1, 0)
def commitD (d : Dk) (s : Su) : Dk × Int :=
  bif !((suEnc s).2 == 0) || !fitsM d s then (d, 1) else
  bif !((dwriteM d 0 (suEnc s).1).2 == 0) then dwriteM d 0 (suEnc s).1 else flushM (dwriteM d 0 (suEnc s).1).1
def loadB (d : Dk) : BitVec 32 × Int :=
  bif !((readM d 1).2 == 0) then (0#32, (readM d 1).2) else bif !((openB (readM d 1).1).2 == 0) then (0#32, (openB (readM d 1).1).2) else
  bif !(((openB (readM d 1).1).1.size : Int) == 4) then (0#32, 2) else
  bif !rightI (BitVec.ofInt 32 (getM (openB (readM d 1).1).1.data.toList)) (IntKind.wrap .i64 ((d.sure.length : Int) - 2)) then (0#32, 2) else (BitVec.ofInt 32 (getM (openB (readM d 1).1).1.data.toList), 0)
def noteD (d : Dk) (m : BitVec 32) : Dk × Int :=
  bif !rightI m (IntKind.wrap .i64 ((d.sure.length : Int) - 2)) then (d, 1) else dwriteM d 1 (sealM (put4 (mi m)))
def saveD (d : Dk) (m : BitVec 32) : Dk × Int :=
  bif !((noteD d m).2 == 0) then noteD d m else flushM (noteD d m).1
def thereM (d : Dk) (i : Int) : Bool := decide (i ≥ 0) && decide (i < IntKind.wrap .i64 ((d.sure.length : Int) - 2))
def areadM (d : Dk) (i : Int) : ByteArray × Int :=
  bif !thereM d i then (⟨#[]⟩, 4) else bif !((readM d (IntKind.wrap .i64 (i + 2))).2 == 0) then (⟨#[]⟩, (readM d (IntKind.wrap .i64 (i + 2))).2) else
  bif !(((readM d (IntKind.wrap .i64 (i + 2))).1.size : Int) == 8) then (⟨#[]⟩, 2) else ((readM d (IntKind.wrap .i64 (i + 2))).1, 0)
def aputM (d : Dk) (i : Int) (data : ByteArray) : Dk × Int :=
  bif !thereM d i then (d, 4) else bif !((data.size : Int) == 8) then (d, 5) else
  bif !((dwriteM d (IntKind.wrap .i64 (i + 2)) data).2 == 0) then dwriteM d (IntKind.wrap .i64 (i + 2)) data else flushM (dwriteM d (IntKind.wrap .i64 (i + 2)) data).1
def allM (d : Dk) : List ByteArray × Int :=
  match (List.range (d.sure.length - 2)).find? (fun (i : Nat) => !((areadM d (i : Int)).2 == 0)) with
  | some i => ([], (areadM d (i : Int)).2)
  | none => ((List.range (d.sure.length - 2)).map fun (i : Nat) => (areadM d (i : Int)).1, 0)
def heOf (s : Su) (pri : Bool) (m : BitVec 32) : He := ⟨s.blocks, s.v, s.inc, s.pri && !pri, s.dis, pri, m⟩
def heRight (h : He) : Bool := decide (h.blocks ≥ 1) && decide (h.blocks ≤ 32) && !(h.v.cur == 0) && rightI h.mask h.blocks && !(h.pri && h.was) && !(h.pri && h.inc)
def heBytes (h : He) : ByteArray := (((((bstr [IntKind.wrap .u8 h.blocks, fl h.inc 1 + fl h.was 2 + fl h.dis 4 + fl h.pri 8] ++ put8 h.v.cur) ++ put8 h.v.bit) ++ put8 h.v.o0) ++ put8 h.v.o1) ++ put4 (mi h.mask))
theorem heBytes_size (h : He) : (heBytes h).size = 38 := by
  unfold heBytes
  simp only [ByteArray.size_append, bstr_size, put8_size, put4_size, List.length_cons, List.length_nil]
def heEnc (h : He) : ByteArray × Int := bif !heRight h then (⟨#[]⟩, 1) else (heBytes h, 0)
def he0 : He := ⟨0, ⟨0, 0, 0, 0⟩, false, false, false, false, 0#32⟩
def heAt (b : ByteArray) : He := ⟨IntKind.wrap .i64 ((byteAt b 0).toNat : Int), ⟨numAt b 2, numAt b 10, numAt b 18, numAt b 26⟩, bitOf (byteAt b 1) 0, bitOf (byteAt b 1) 1, bitOf (byteAt b 1) 2, bitOf (byteAt b 1) 3, BitVec.ofInt 32 (getM (b.extract 34 b.size).data.toList)⟩
def heDec (b : ByteArray) : He × Int :=
  bif !((b.size : Int) == 38) || decide (((byteAt b 1).toNat : Int) > 15) then (he0, 2) else bif !heRight (heAt b) then (he0, 2) else (heAt b, 0)
end Go.Dm
namespace Go.Dm
open Go
def refuseM : Vd := ⟨4, -1⟩
def ontoM (kind src : Int) (t : He) : Vd := bif t.pri || kind == 4 then refuseM else ⟨kind, src⟩
def halfM (s t : He) : Int :=
  bif s.dis then 4 else bif decide (placeM s.v t.v.bit ≥ 0) then 2 else bif t.dis then 3 else
  bif decide (placeM s.v t.v.cur < 0) then 4 else bif decide (placeM s.v t.v.cur ≤ 1) then 2 else 3
def kindOf (p : Int) : Int := bif p == 0 then 4 else bif p == 1 then 2 else 3
def decideM (x y : He) : Vd :=
  bif !(x.blocks == y.blocks) || x.pri && y.pri || x.inc && y.inc || x.dis && y.dis then refuseM else
  bif x.inc then ontoM (halfM y x) 1 x else bif y.inc then ontoM (halfM x y) 0 y else
  bif x.dis then ontoM 3 1 x else bif y.dis then ontoM 3 0 y else
  bif x.v.cur == y.v.cur then
    (bif mi x.mask == 0 && mi y.mask == 0 then ⟨1, -1⟩ else bif y.pri || !x.pri && y.was && !x.was then ontoM 2 1 x else ontoM 2 0 y) else
  bif decide (placeM x.v y.v.cur > 0) && decide (placeM y.v x.v.cur < 0) then ontoM (kindOf (placeM x.v y.v.cur)) 0 y else
  bif decide (placeM y.v x.v.cur > 0) && decide (placeM x.v y.v.cur < 0) then ontoM (kindOf (placeM y.v x.v.cur)) 1 x else refuseM
def bitsM (v : Vd) (x y : He) : BitVec 32 := bif v.kind == 2 then x.mask ||| y.mask else bif v.kind == 3 then allI x.blocks else 0#32
def hasBlock (k : Int) : Bool := decide (k ≥ 2) && decide (k ≤ 7)
def hasData (k : Int) : Bool := k == 2 || k == 6
def heNone (h : He) : Bool := (h.blocks == 0 && ((h.v.cur == 0 && (h.v.bit == 0 && ((h.v.o0 == 0 && (h.v.o1 == 0 && true)) && true))) && (h.inc == false && (h.was == false && (h.dis == false && (h.pri == false && (mi h.mask == 0 && true)))))))
def pkRight (p : Pk) : Bool :=
  bif decide (p.kind < 1) || decide (p.kind > 13) then false else
  bif p.kind == 1 && !heRight p.hello || !(p.kind == 1) && !heNone p.hello then false else
  bif decide (p.block < 0) || decide (p.block > 31) || !hasBlock p.kind && !(p.block == 0) then false else
  bif hasData p.kind then (p.data.size : Int) == 8 else p.data == ⟨#[]⟩
def pkHead (p : Pk) : ByteArray :=
  bif hasBlock p.kind then
    (bif p.kind == 1 then (bstr [IntKind.wrap .u8 p.kind] ++ put8 p.ses) ++ (heEnc p.hello).1 else bstr [IntKind.wrap .u8 p.kind] ++ put8 p.ses) ++ bstr [IntKind.wrap .u8 p.block]
  else bif p.kind == 1 then (bstr [IntKind.wrap .u8 p.kind] ++ put8 p.ses) ++ (heEnc p.hello).1 else bstr [IntKind.wrap .u8 p.kind] ++ put8 p.ses
theorem heEnc_size (h : He) : (heEnc h).1.size ≤ 38 := by
  unfold heEnc
  cases heRight h with
  | false => exact Nat.zero_le _
  | true => exact Nat.le_of_eq (heBytes_size h)
def pkBytes (p : Pk) : ByteArray := pkHead p ++ p.data
def pkEnc (p : Pk) : ByteArray × Int := bif !pkRight p then (⟨#[]⟩, 1) else (sealM (pkBytes p), 0)
def pk0 : Pk := ⟨0, 0, he0, 0, ⟨#[]⟩⟩
abbrev kindAt (t : ByteArray) : Int := IntKind.wrap .i64 ((byteAt t 0).toNat : Int)
abbrev restAt (t : ByteArray) : ByteArray := t.extract 9 t.size
def hasRest (t : ByteArray) : Bool := decide (((restAt t).size : Int) > 0)
def pkOf (t : ByteArray) : Pk :=
  bif kindAt t == 1 then ⟨kindAt t, getM (t.extract 1 9).data.toList, (heDec (restAt t)).1, 0, ⟨#[]⟩⟩ else
  bif hasBlock (kindAt t) && hasRest t then ⟨kindAt t, getM (t.extract 1 9).data.toList, he0, IntKind.wrap .i64 ((byteAt (restAt t) 0).toNat : Int), (restAt t).extract 1 (restAt t).size⟩
  else ⟨kindAt t, getM (t.extract 1 9).data.toList, he0, 0, restAt t⟩
def pkDecT (t : ByteArray) : Pk × Int :=
  bif decide ((t.size : Int) < 9) then (pk0, 2) else
  bif kindAt t == 1 && !((heDec (restAt t)).2 == 0) then (pk0, 2) else
  bif !pkRight (pkOf t) || !(pkBytes (pkOf t) == t) then (pk0, 2) else (pkOf t, 0)
def pkDec (b : ByteArray) : Pk × Int :=
  bif !((openB b).2 == 0) then (pk0, (openB b).2) else pkDecT (openB b).1
def pkRead (b : ByteArray) (ses : Int) : Pk × Int :=
  bif !((pkDec b).2 == 0) then (pk0, (pkDec b).2) else bif !((pkDec b).1.ses == ses) then (pk0, 16) else ((pkDec b).1, 0)
def lopenM (l : Lk) : Lk := ⟨true, IntKind.wrap .u64 (l.ses + 1), [], []⟩
def lcloseM (l : Lk) : Lk := ⟨false, l.ses, [], []⟩
def lsendM (l : Lk) (to : Int) (ps : List ByteArray) : Lk × Int :=
  bif !(to == 0) && !(to == 1) then (l, 1) else bif !l.up then (l, 7) else
  bif to == 0 then ({ l with to0 := l.to0 ++ ps }, 0) else ({ l with to1 := l.to1 ++ ps }, 0)
def ltakeM (l : Lk) (to : Int) : ByteArray × Lk × Bool :=
  bif to == 0 then (match l.to0 with | [] => (⟨#[]⟩, l, false) | x :: r => (x, { l with to0 := r }, true)) else
  bif to == 1 then (match l.to1 with | [] => (⟨#[]⟩, l, false) | x :: r => (x, { l with to1 := r }, true)) else (⟨#[]⟩, l, false)
end Go.Dm
namespace Go.Dm
open Go
theorem dwrite_sure (d : Dk) (i : Int) (x : ByteArray) : (dwriteM d i x).1.sure = d.sure := by
  unfold dwriteM
  cases d.dead <;> cases (decide (i < 0) || decide (i ≥ (d.sure.length : Int))) <;> cases decide ((x.size : Int) > 64) <;> cases h : (burnM d).dead <;> simp [burnM]
theorem dwrite_cache (d : Dk) (i : Int) (x : ByteArray) : (dwriteM d i x).1.cache.length ≤ d.cache.length + 1 := by
  unfold dwriteM
  cases d.dead <;> cases (decide (i < 0) || decide (i ≥ (d.sure.length : Int))) <;> cases decide ((x.size : Int) > 64) <;> cases h : (burnM d).dead <;> simp [burnM]
theorem note_sure (d : Dk) (m : BitVec 32) : (noteD d m).1.sure = d.sure := by
  unfold noteD
  cases rightI m (IntKind.wrap .i64 ((d.sure.length : Int) - 2)) with
  | false => rfl
  | true => exact dwrite_sure _ _ _
theorem note_cache (d : Dk) (m : BitVec 32) : (noteD d m).1.cache.length ≤ d.cache.length + 1 := by
  unfold noteD
  cases rightI m (IntKind.wrap .i64 ((d.sure.length : Int) - 2)) with
  | false => exact Nat.le_succ _
  | true => exact dwrite_cache _ _ _
def suEq (a b : Su) : Bool := (a.blocks == b.blocks && ((a.v.cur == b.v.cur && (a.v.bit == b.v.bit && ((a.v.o0 == b.v.o0 && (a.v.o1 == b.v.o1 && true)) && true))) && (a.inc == b.inc && (a.pri == b.pri && (a.dis == b.dis && true)))))
def so0 : So := ⟨⟨[], [], 0, false⟩, su0, 0#32⟩
def attachM (d : Dk) : So × Int :=
  bif !((loadS d).2 == 0) then (so0, (loadS d).2) else bif !((loadB d).2 == 0) then (so0, (loadB d).2) else
  bif !((allM d).2 == 0) then (so0, (allM d).2) else (⟨d, (loadS d).1, (loadB d).1⟩, 0)
def commitM (s : So) (b : Su) : So × Int :=
  bif suEq b s.super then (s, 0) else
  bif (commitD s.disk b).2 == 0 then (⟨(commitD s.disk b).1, b, s.mask⟩, (commitD s.disk b).2) else (⟨(commitD s.disk b).1, s.super, s.mask⟩, (commitD s.disk b).2)
def saveM (s : So) (m : BitVec 32) : So × Int :=
  bif mi m == mi s.mask then (s, 0) else
  bif (saveD s.disk m).2 == 0 then (⟨(saveD s.disk m).1, s.super, m⟩, (saveD s.disk m).2) else (⟨(saveD s.disk m).1, s.super, s.mask⟩, (saveD s.disk m).2)
def outM (s : So) (i : Int) : Bool := decide (i < 0) || decide (i ≥ s.super.blocks)
def markM (s : So) (i : Int) : So × Int := bif outM s i then (s, 4) else saveM s (setI s.mask [i])
def wipeM (s : So) (i : Int) : So × Int :=
  bif outM s i then (s, 4) else bif mi (clrI s.mask [i]) == mi s.mask then (s, 0) else
  bif (noteD s.disk (clrI s.mask [i])).2 == 0 then (⟨(noteD s.disk (clrI s.mask [i])).1, s.super, clrI s.mask [i]⟩, (noteD s.disk (clrI s.mask [i])).2)
  else (⟨(noteD s.disk (clrI s.mask [i])).1, s.super, s.mask⟩, (noteD s.disk (clrI s.mask [i])).2)
def joinM (s : So) (m : BitVec 32) : So × Int := saveM s (s.mask ||| m)
def sputM (s : So) (i : Int) (data : ByteArray) : So × Int := (⟨(aputM s.disk i data).1, s.super, s.mask⟩, (aputM s.disk i data).2)
end Go.Dm
namespace Go.Dm
open Go
def rq0 : Rq := ⟨false, 0, 0, ⟨#[]⟩⟩
def downM (n : Nd) : Nd := ⟨n.id, false, ⟨crashM n.store.disk, su0, 0#32⟩, false, 0, 0, he0, false, rq0, false, 0, 0, false, n.draws, n.mints⟩
def replyM (n : Nd) (id e : Int) (data : ByteArray) : Ou := ⟨2, n.id, id, e, data⟩
def sendM (n : Nd) (p : Pk) : Ou := ⟨1, n.id, 0, 0, (pkEnc { p with ses := n.ses }).1⟩
def ncommitM (n : Nd) (b : Su) : Nd × Bool :=
  bif !((commitM n.store b).2 == 0) then (downM { n with store := (commitM n.store b).1 }, false) else ({ n with store := (commitM n.store b).1 }, true)
def linkedM (n : Nd) : Bool := n.state == 2 || n.state == 3
def pkk (kind : Int) : Pk := ⟨kind, 0, he0, 0, ⟨#[]⟩⟩
def promoteM (n : Nd) (id : Int) : Nd × List Ou :=
  bif !n.up then (n, [replyM n id 7 ⟨#[]⟩]) else bif n.primary then (n, [replyM n id 8 ⟨#[]⟩]) else
  bif n.store.super.inc then (n, [replyM n id 9 ⟨#[]⟩]) else bif n.store.super.dis then (n, [replyM n id 10 ⟨#[]⟩]) else
  bif n.state == 1 || n.state == 4 || n.asking then (n, [replyM n id 11 ⟨#[]⟩]) else bif n.peerPri then (n, [replyM n id 12 ⟨#[]⟩]) else
  bif linkedM n then ({ n with asking := true, askId := id }, [sendM { n with asking := true, askId := id } (pkk 10)]) else
  bif !(ncommitM n { n.store.super with pri := true }).2 then ((ncommitM n { n.store.super with pri := true }).1, []) else
  ({ (ncommitM n { n.store.super with pri := true }).1 with primary := true }, [replyM { (ncommitM n { n.store.super with pri := true }).1 with primary := true } id 0 ⟨#[]⟩])
def demoteM (n : Nd) (id : Int) : Nd × List Ou :=
  bif !n.up then (n, [replyM n id 7 ⟨#[]⟩]) else bif !n.primary then (n, [replyM n id 8 ⟨#[]⟩]) else
  bif n.req.on || n.state == 1 then (n, [replyM n id 11 ⟨#[]⟩]) else
  bif !(ncommitM n { n.store.super with pri := false }).2 then ((ncommitM n { n.store.super with pri := false }).1, []) else
  bif linkedM { (ncommitM n { n.store.super with pri := false }).1 with primary := false } then
    ({ (ncommitM n { n.store.super with pri := false }).1 with primary := false }, [sendM { (ncommitM n { n.store.super with pri := false }).1 with primary := false } (pkk 13), replyM { (ncommitM n { n.store.super with pri := false }).1 with primary := false } id 0 ⟨#[]⟩]) else
    ({ (ncommitM n { n.store.super with pri := false }).1 with primary := false }, [replyM { (ncommitM n { n.store.super with pri := false }).1 with primary := false } id 0 ⟨#[]⟩])
def discardM (n : Nd) (id : Int) : Nd × List Ou :=
  bif !n.up then (n, [replyM n id 7 ⟨#[]⟩]) else bif n.primary then (n, [replyM n id 8 ⟨#[]⟩]) else bif !(n.state == 0) then (n, [replyM n id 11 ⟨#[]⟩]) else
  bif !(ncommitM n { n.store.super with dis := true }).2 then ((ncommitM n { n.store.super with dis := true }).1, []) else
  ((ncommitM n { n.store.super with dis := true }).1, [replyM (ncommitM n { n.store.super with dis := true }).1 id 0 ⟨#[]⟩])
def nreadM (n : Nd) (id block : Int) : Nd × List Ou :=
  bif !n.up then (n, [replyM n id 7 ⟨#[]⟩]) else bif !n.primary then (n, [replyM n id 8 ⟨#[]⟩]) else
  (n, [replyM n id (areadM n.store.disk block).2 (areadM n.store.disk block).1])
def keepM (n : Nd) (s : So) (e : Int) : Nd × Bool := bif !(e == 0) then (downM { n with store := s }, false) else ({ n with store := s }, true)
end Go.Dm
namespace Go.Dm
open Go
theorem cond_p {α : Type} {p : α → Prop} {b : Bool} {x y : α} (hx : p x) (hy : p y) : p (bif b then x else y) := by
  cases b
  · exact hy
  · exact hx
def Fit (d e : Dk) : Prop := e.sure.length = d.sure.length ∧ e.cache.length ≤ d.cache.length + 1
theorem Fit.refl (d : Dk) : Fit d d := ⟨rfl, Nat.le_succ _⟩
theorem dwrite_fit (d : Dk) (i : Int) (x : ByteArray) : Fit d (dwriteM d i x).1 := ⟨by rw [dwrite_sure], dwrite_cache d i x⟩
theorem flush_fit (d e : Dk) (h : Fit d e) : Fit d (flushM e).1 := by
  unfold flushM
  refine cond_p (p := fun (x : Dk × Int) => Fit d x.1) h (cond_p (p := fun (x : Dk × Int) => Fit d x.1) h ?_)
  exact ⟨by simp [heldM, burnM, h.1], Nat.zero_le _⟩
theorem commitD_fit (d : Dk) (s : Su) : Fit d (commitD d s).1 := by
  unfold commitD
  exact cond_p (p := fun (x : Dk × Int) => Fit d x.1) (Fit.refl d) (cond_p (p := fun (x : Dk × Int) => Fit d x.1) (dwrite_fit _ _ _) (flush_fit _ _ (dwrite_fit _ _ _)))
theorem note_fit (d : Dk) (m : BitVec 32) : Fit d (noteD d m).1 := ⟨by rw [note_sure], note_cache d m⟩
theorem saveD_fit (d : Dk) (m : BitVec 32) : Fit d (saveD d m).1 := by
  unfold saveD
  exact cond_p (p := fun (x : Dk × Int) => Fit d x.1) (note_fit _ _) (flush_fit _ _ (note_fit _ _))
theorem aput_fit (d : Dk) (i : Int) (x : ByteArray) : Fit d (aputM d i x).1 := by
  unfold aputM
  exact cond_p (p := fun (x : Dk × Int) => Fit d x.1) (Fit.refl d) (cond_p (p := fun (x : Dk × Int) => Fit d x.1) (Fit.refl d) (cond_p (p := fun (x : Dk × Int) => Fit d x.1) (dwrite_fit _ _ _) (flush_fit _ _ (dwrite_fit _ _ _))))
theorem commitM_fit (s : So) (b : Su) : Fit s.disk (commitM s b).1.disk := by
  unfold commitM
  exact cond_p (p := fun (x : So × Int) => Fit s.disk x.1.disk) (Fit.refl _) (cond_p (p := fun (x : So × Int) => Fit s.disk x.1.disk) (commitD_fit _ _) (commitD_fit _ _))
theorem saveM_fit (s : So) (m : BitVec 32) : Fit s.disk (saveM s m).1.disk := by
  unfold saveM
  exact cond_p (p := fun (x : So × Int) => Fit s.disk x.1.disk) (Fit.refl _) (cond_p (p := fun (x : So × Int) => Fit s.disk x.1.disk) (saveD_fit _ _) (saveD_fit _ _))
theorem markM_fit (s : So) (i : Int) : Fit s.disk (markM s i).1.disk := by
  unfold markM
  exact cond_p (p := fun (x : So × Int) => Fit s.disk x.1.disk) (Fit.refl _) (saveM_fit _ _)
theorem wipeM_fit (s : So) (i : Int) : Fit s.disk (wipeM s i).1.disk := by
  unfold wipeM
  exact cond_p (p := fun (x : So × Int) => Fit s.disk x.1.disk) (Fit.refl _) (cond_p (p := fun (x : So × Int) => Fit s.disk x.1.disk) (Fit.refl _) (cond_p (p := fun (x : So × Int) => Fit s.disk x.1.disk) (note_fit _ _) (note_fit _ _)))
theorem joinM_fit (s : So) (m : BitVec 32) : Fit s.disk (joinM s m).1.disk := saveM_fit _ _
theorem sputM_fit (s : So) (i : Int) (x : ByteArray) : Fit s.disk (sputM s i x).1.disk := aput_fit _ _ _
theorem keepM_sure (n : Nd) (s : So) (e : Int) : (keepM n s e).1.store.disk.sure = s.disk.sure := by
  unfold keepM
  exact cond_p (p := fun (x : Nd × Bool) => x.1.store.disk.sure = s.disk.sure) rfl rfl
theorem keepM_cache (n : Nd) (s : So) (e : Int) : (keepM n s e).1.store.disk.cache = s.disk.cache := by
  unfold keepM
  exact cond_p (p := fun (x : Nd × Bool) => x.1.store.disk.cache = s.disk.cache) rfl rfl
def pkb (kind block : Int) : Pk := ⟨kind, 0, he0, block, ⟨#[]⟩⟩
def pkd (kind block : Int) (x : ByteArray) : Pk := ⟨kind, 0, he0, block, x⟩
def laidM (n : Nd) (block : Int) : Nd × Bool := keepM n (markM n.store block).1 (markM n.store block).2
def layM (n : Nd) (block : Int) (x : ByteArray) : Nd × Bool :=
  bif !(laidM n block).2 then ((laidM n block).1, false) else
  keepM (laidM n block).1 (sputM (laidM n block).1.store block x).1 (sputM (laidM n block).1.store block x).2
def nwipeM (n : Nd) (block : Int) : Nd × Bool := keepM n (wipeM n.store block).1 (wipeM n.store block).2
def ackedM (n : Nd) (block : Int) : Nd × List Ou :=
  bif !n.req.on || !(n.req.block == block) then (n, []) else
  bif !(nwipeM { n with req := rq0 } block).2 then ((nwipeM { n with req := rq0 } block).1, [replyM n n.req.id 0 ⟨#[]⟩]) else
  ((nwipeM { n with req := rq0 } block).1, [replyM n n.req.id 0 ⟨#[]⟩, sendM (nwipeM { n with req := rq0 } block).1 (pkb 4 block)])
def applyM (n : Nd) (block : Int) (x : ByteArray) : Nd × List Ou :=
  bif !(layM n block x).2 then ((layM n block x).1, []) else ((layM n block x).1, [sendM (layM n block x).1 (pkb 3 block)])
def copiedM (n : Nd) (block : Int) : Nd := bif n.req.on && n.req.block == block then n else (nwipeM n block).1
def giveM (n : Nd) (block : Int) : List Ou := [sendM n (pkd 6 block (areadM n.store.disk block).1)]
def endedB (n : Nd) : Su := { n.store.super with v := retireM n.store.super.v, pri := n.primary }
def endedM (n : Nd) : Nd × List Ou :=
  bif !(ncommitM n (endedB n)).2 then ((ncommitM n (endedB n)).1, []) else
  ({ (ncommitM n (endedB n)).1 with state := 2 }, [sendM { (ncommitM n (endedB n)).1 with state := 2 } (pkk 9)])
def ownM (n : Nd) : He := heOf n.store.super n.primary n.store.mask
def begunM (n : Nd) (ses : Int) : Nd := { n with state := 1, ses := ses, minted := false }
def beginM (n : Nd) (ses : Int) : Nd × List Ou := (begunM n ses, [sendM (begunM n ses) ⟨1, 0, ownM (begunM n ses), 0, ⟨#[]⟩⟩])
def verdictM (n : Nd) (h : He) : Vd × BitVec 32 :=
  bif n.id == 1 then (decideM h (ownM n), bitsM (decideM h (ownM n)) h (ownM n)) else (decideM (ownM n) h, bitsM (decideM (ownM n) h) (ownM n) h)
end Go.Dm
namespace Go.Dm
open Go
abbrev Nd.csd (n : Nd) (ds : List (List C)) : List C := [ii n.id, bo n.up, .slice 1 (n.store.disk.sure.map eS), .slice 2 (n.store.disk.cache.map Wr.cs), ii n.store.disk.fuse, bo n.store.disk.dead,
  ii n.store.super.blocks, u n.store.super.v.cur, u n.store.super.v.bit, u n.store.super.v.o0, u n.store.super.v.o1, bo n.store.super.inc, bo n.store.super.pri, bo n.store.super.dis, w4 (mi n.store.mask),
  bo n.primary, ii n.state, u n.ses, ii n.peer.blocks, u n.peer.v.cur, u n.peer.v.bit, u n.peer.v.o0, u n.peer.v.o1, bo n.peer.inc, bo n.peer.was, bo n.peer.dis, bo n.peer.pri, w4 (mi n.peer.mask), bo n.peerPri,
  bo n.req.on, ii n.req.id, ii n.req.block, st n.req.data, bo n.asking, ii n.askId, ii n.wanted, bo n.minted, .slice 1 ds, .slice 3 (n.mints.map Mi.cs)]
def drawnM (n : Nd) (r : List Int) : Nd := { n with draws := r }
def mintV (n : Nd) (g : Int) (r : List Int) : Nd := { n with draws := r, mints := n.mints ++ [⟨g, n.store.super.v.cur, n.id⟩] }
def mintB (n : Nd) (g : Int) : Su := { n.store.super with v := vmintM n.store.super.v g }
def mintG (n : Nd) (g : Int) (r : List Int) : Nd × Int :=
  bif g == 0 then (drawnM n r, 14) else
  bif !(ncommitM (mintV n g r) (mintB n g)).2 then ((ncommitM (mintV n g r) (mintB n g)).1, 6) else ({ (ncommitM (mintV n g r) (mintB n g)).1 with minted := true }, 0)
def mintM (n : Nd) : Nd × Int := match n.draws with
  | [] => (n, 14)
  | g :: r => mintG n g r
def askedM (n : Nd) : List Ou := bif n.asking then [replyM n n.askId 13 ⟨#[]⟩] else []
def lostM (n : Nd) : Nd := ⟨n.id, n.up, n.store, n.primary, 0, 0, he0, false, rq0, false, 0, 0, false, n.draws, n.mints⟩
def loseM (n : Nd) : Nd × List Ou :=
  bif n.state == 0 then (n, []) else bif !n.req.on then (lostM n, askedM n) else
  bif (mintM (lostM n)).2 == 6 then ((mintM (lostM n)).1, askedM n) else
  ((mintM (lostM n)).1, askedM n ++ [replyM (mintM (lostM n)).1 n.req.id (mintM (lostM n)).2 ⟨#[]⟩])
def writeBad (n : Nd) (block : Int) (x : ByteArray) : Int :=
  bif !n.up then 7 else bif !n.primary then 8 else bif decide (block < 0) || decide (block ≥ n.store.super.blocks) then 4 else
  bif !((x.size : Int) == 8) then 5 else bif n.req.on || n.state == 1 then 11 else 0
def write2 (n : Nd) (id block : Int) (x : ByteArray) : Nd × List Ou :=
  bif !(layM n block x).2 then ((layM n block x).1, []) else
  bif (layM n block x).1.state == 0 then ((layM n block x).1, [replyM (layM n block x).1 id 0 ⟨#[]⟩]) else
  ({ (layM n block x).1 with req := ⟨true, id, block, x⟩ }, [sendM { (layM n block x).1 with req := ⟨true, id, block, x⟩ } (pkd 2 block x)])
def writeM (n : Nd) (id block : Int) (x : ByteArray) : Nd × List Ou :=
  bif !(writeBad n block x == 0) then (n, [replyM n id (writeBad n block x) ⟨#[]⟩]) else
  bif n.state == 0 && !n.minted then
    (bif (mintM n).2 == 6 then ((mintM n).1, []) else bif !((mintM n).2 == 0) then ((mintM n).1, [replyM (mintM n).1 id (mintM n).2 ⟨#[]⟩]) else write2 (mintM n).1 id block x)
  else write2 n id block x
def seekS (n : Nd) : Su := ⟨n.store.super.blocks, retireM n.peer.v, false, false, false⟩
def seekM (n : Nd) : Nd × List Ou :=
  bif !n.store.super.inc || !(n.wanted == 0) then (n, []) else
  bif (nextI n.store.mask 0).isSome then
    ({ n with wanted := IntKind.wrap .i64 ((nextI n.store.mask 0).getD 0 + 1) }, [sendM { n with wanted := IntKind.wrap .i64 ((nextI n.store.mask 0).getD 0 + 1) } (pkb 5 ((nextI n.store.mask 0).getD 0))]) else
  bif !(ncommitM n (seekS n)).2 then ((ncommitM n (seekS n)).1, []) else ((ncommitM n (seekS n)).1, [sendM (ncommitM n (seekS n)).1 (pkk 8)])
def fitsP (n : Nd) (p : Pk) : Bool :=
  bif !n.up || decide (p.kind ≥ 2) && decide (p.kind ≤ 7) && decide (p.block ≥ n.store.super.blocks) then false else
  bif p.kind == 1 then n.state == 1 else
  bif p.kind == 2 then !n.primary && (n.state == 2 || n.state == 4) else
  bif p.kind == 3 then n.state == 2 || n.state == 3 else
  bif p.kind == 4 then n.state == 2 || n.state == 4 else
  bif p.kind == 5 || p.kind == 7 || p.kind == 8 then n.state == 3 else
  bif p.kind == 6 then n.state == 4 else
  bif p.kind == 9 then n.state == 4 && !n.store.super.inc else
  bif p.kind == 10 || p.kind == 13 then n.state == 2 || n.state == 3 || n.state == 4 else
  bif p.kind == 11 || p.kind == 12 then n.asking && (n.state == 2 || n.state == 3 || n.state == 4) else false
end Go.Dm
namespace Go.Dm
open Go
theorem ncommitM_fit (n : Nd) (b : Su) : Fit n.store.disk (ncommitM n b).1.store.disk := by
  unfold ncommitM
  exact cond_p (p := fun (x : Nd × Bool) => Fit n.store.disk x.1.store.disk) (commitM_fit _ _) (commitM_fit _ _)
theorem mintM_fit (n : Nd) : Fit n.store.disk (mintM n).1.store.disk := by
  unfold mintM
  cases n.draws with
  | nil => exact Fit.refl _
  | cons g r =>
    show Fit n.store.disk (mintG n g r).1.store.disk
    unfold mintG
    refine cond_p (p := fun (x : Nd × Int) => Fit n.store.disk x.1.store.disk) (Fit.refl _) ?_
    have := ncommitM_fit (mintV n g r) (mintB n g)
    exact cond_p (p := fun (x : Nd × Int) => Fit n.store.disk x.1.store.disk) this this
theorem keepM_fit2 (n : Nd) (s : So) (e : Int) (h : Fit n.store.disk s.disk) : Fit n.store.disk (keepM n s e).1.store.disk := by
  unfold keepM
  exact cond_p (p := fun (x : Nd × Bool) => Fit n.store.disk x.1.store.disk) h h
theorem nwipeM_fit (n : Nd) (i : Int) : Fit n.store.disk (nwipeM n i).1.store.disk := keepM_fit2 _ _ _ (wipeM_fit _ _)
def gotP (n : Nd) (block : Int) (x : ByteArray) : Nd × Bool := keepM n (sputM n.store block x).1 (sputM n.store block x).2
def gotW (n : Nd) (block : Int) (x : ByteArray) : Nd := { (nwipeM (gotP n block x).1 block).1 with wanted := 0 }
def gotM (n : Nd) (block : Int) (x : ByteArray) : Nd × List Ou :=
  bif !(n.wanted == IntKind.wrap .i64 (block + 1)) then (n, []) else
  bif !(gotP n block x).2 then ((gotP n block x).1, []) else
  bif !(nwipeM (gotP n block x).1 block).2 then ((nwipeM (gotP n block x).1 block).1, []) else
  ((seekM (gotW n block x)).1, [sendM (gotW n block x) (pkb 7 block)] ++ (seekM (gotW n block x)).2)
theorem gotP_fit (n : Nd) (i : Int) (x : ByteArray) : Fit n.store.disk (gotP n i x).1.store.disk := keepM_fit2 _ _ _ (sputM_fit _ _ _)
theorem seekM_len (n : Nd) : (seekM n).2.length ≤ 10 := by
  unfold seekM
  refine cond_p (p := fun (x : Nd × List Ou) => x.2.length ≤ 10) (by simp) (cond_p (p := fun (x : Nd × List Ou) => x.2.length ≤ 10) (by simp) (cond_p (p := fun (x : Nd × List Ou) => x.2.length ≤ 10) (by simp) (by simp)))
def grantB (n : Nd) : Su := { n.store.super with pri := true }
def rolesM (n : Nd) (kind : Int) : Nd × List Ou :=
  bif kind == 10 then (bif n.primary || n.asking then (n, [sendM n (pkk 12)]) else ({ n with peerPri := true }, [sendM { n with peerPri := true } (pkk 11)])) else
  bif kind == 12 then ({ n with asking := false, askId := 0 }, [replyM { n with asking := false, askId := 0 } n.askId 12 ⟨#[]⟩]) else
  bif kind == 13 then ({ n with peerPri := false }, []) else
  bif !(ncommitM n (grantB n)).2 then ((ncommitM n (grantB n)).1, []) else
  ({ (ncommitM n (grantB n)).1 with primary := true, asking := false, askId := 0 }, [replyM { (ncommitM n (grantB n)).1 with primary := true, asking := false, askId := 0 } n.askId 0 ⟨#[]⟩])
def closeM (n : Nd) : Ou := ⟨3, n.id, 0, 0, ⟨#[]⟩⟩
def metS (n : Nd) (h : He) (st : Int) : Nd := { n with state := st, peerPri := h.pri, peer := h }
def metB (n : Nd) (h : He) : Su := { n.store.super with inc := true, pri := false, v := fromM n.store.super.v h.v.cur }
def metJ (n : Nd) (m : BitVec 32) : Nd × Bool := keepM n (joinM n.store m).1 (joinM n.store m).2
theorem metJ_fit (n : Nd) (m : BitVec 32) : Fit n.store.disk (metJ n m).1.store.disk := keepM_fit2 _ _ _ (joinM_fit _ _)
def metK (n : Nd) (h : He) (v : Vd) (m : BitVec 32) : Nd × List Ou :=
  bif v.kind == 4 then (n, [closeM n]) else
  bif v.kind == 1 then (bif (ncommitM n (endedB n)).2 then (metS (ncommitM n (endedB n)).1 h 2, []) else ((ncommitM n (endedB n)).1, [])) else
  bif !(metJ n m).2 then ((metJ n m).1, []) else
  bif v.src == n.id then (metS (metJ n m).1 h 3, []) else
  bif !(ncommitM (metJ n m).1 (metB n h)).2 then ((ncommitM (metJ n m).1 (metB n h)).1, []) else
  seekM (metS (ncommitM (metJ n m).1 (metB n h)).1 h 4)
def metM (n : Nd) (h : He) : Nd × List Ou := metK n h (verdictM n h).1 (verdictM n h).2
end Go.Dm
namespace Go.Dm
open Go
theorem aread_size (d : Dk) (i : Int) : (areadM d i).1.size ≤ 8 := by
  unfold areadM
  refine cond_p (p := fun (x : ByteArray × Int) => x.1.size ≤ 8) (Nat.zero_le _) (cond_p (p := fun (x : ByteArray × Int) => x.1.size ≤ 8) (Nat.zero_le _) ?_)
  cases h : (((readM d (IntKind.wrap .i64 (i + 2))).1.size : Int) == 8) with
  | false => exact Nat.zero_le _
  | true =>
    have := eq_of_beq h
    show (readM d (IntKind.wrap .i64 (i + 2))).1.size ≤ 8
    omega
def takeM (n : Nd) (p : Pk) : Nd × List Ou :=
  bif p.kind == 1 then metM n p.hello else
  bif p.kind == 2 then applyM n p.block p.data else
  bif p.kind == 3 then ackedM n p.block else
  bif p.kind == 4 then ((nwipeM n p.block).1, []) else
  bif p.kind == 5 then (n, giveM n p.block) else
  bif p.kind == 6 then gotM n p.block p.data else
  bif p.kind == 7 then (copiedM n p.block, []) else
  bif p.kind == 8 then endedM n else
  bif p.kind == 9 then ({ n with state := 2 }, []) else rolesM n p.kind
def receiveM (n : Nd) (b : ByteArray) : Nd × List Ou :=
  bif !n.up || n.state == 0 then (n, []) else
  bif (pkRead b n.ses).2 == 16 then (n, []) else
  bif !((pkRead b n.ses).2 == 0) || !fitsP n (pkRead b n.ses).1 then (n, [closeM n]) else takeM n (pkRead b n.ses).1
end Go.Dm
namespace Go.Dm
open Go
def evGreat (e : Evt) : Bool := decide ((e.data.size : Int) > 300) || decide ((e.keeps.length : Int) > 100)
def greatM (l : List Evt) (most : Int) : Bool := bif decide ((l.length : Int) > most) then true else l.any evGreat
def freshS (blocks g : Int) : Su := ⟨blocks, ⟨g, 0, 0, 0⟩, false, false, false⟩
def formatM (n : Nat) (g : Int) : Dk := ⟨[(suEnc (freshS n g)).1, sealM (put4 (mi 0#32))] ++ List.replicate n ⟨#[0, 0, 0, 0, 0, 0, 0, 0]⟩, [], 0, false⟩
def nodeAt (c : Cl) (i : Int) : Nd := bif i == 0 then c.n0 else c.n1
def putNode (c : Cl) (i : Int) (n : Nd) : Cl := bif i == 0 then { c with n0 := n } else { c with n1 := n }
def wantAt (c : Cl) (i : Int) : Bool := bif i == 0 then c.w0 else c.w1
def putWant (c : Cl) (i : Int) (w : Bool) : Cl := bif i == 0 then { c with w0 := w } else { c with w1 := w }
def nattachM (n : Nd) (keeps : List Bool) : Nd × Int :=
  bif n.up then (n, 7) else
  bif !((attachM (reviveM n.store.disk keeps)).2 == 0) then ({ n with store := { n.store with disk := reviveM n.store.disk keeps } }, (attachM (reviveM n.store.disk keeps)).2) else
  (⟨n.id, true, (attachM (reviveM n.store.disk keeps)).1, false, 0, 0, he0, false, rq0, false, 0, 0, false, n.draws, n.mints⟩, 0)
def lose1 (n : Nd) (w : Bool) : (Nd × Bool) × List Ou :=
  bif !n.up then ((n, w), []) else bif !(loseM n).1.up then (((loseM n).1, false), (loseM n).2) else (((loseM n).1, w), (loseM n).2)
def endM (c : Cl) : Cl × List Ou :=
  (⟨(lose1 c.n0 c.w0).1.1, (lose1 c.n1 c.w1).1.1, lcloseM c.link, (lose1 c.n0 c.w0).1.2, (lose1 c.n1 c.w1).1.2⟩, (lose1 c.n0 c.w0).2 ++ (lose1 c.n1 c.w1).2)
def sendAll (i : Int) (k : Lk) (l : List Ou) : Lk :=
  l.foldl (fun k o => bif o.kind == 1 && k.up then (lsendM k (IntKind.wrap .i64 (1 - i)) [o.data]).1 else k) k
def keptOuts (l : List Ou) : List Ou := l.filter fun o => !(o.kind == 1)
def closesM (l : List Ou) : Bool := l.any fun o => !(o.kind == 1) && o.kind == 3
def after1 (c : Cl) (i : Int) (n : Nd) (l : List Ou) : Cl :=
  bif !n.up then putWant { putNode c i n with link := sendAll i c.link l } i false else { putNode c i n with link := sendAll i c.link l }
def afterM (c : Cl) (i : Int) (n : Nd) (l : List Ou) : Cl × List Ou :=
  bif !(after1 c i n l).link.up || n.up && !closesM l then (after1 c i n l, keptOuts l) else
  bif closesM l then ((endM { after1 c i n l with w0 := false, w1 := false }).1, keptOuts l ++ (endM { after1 c i n l with w0 := false, w1 := false }).2) else
  ((endM (after1 c i n l)).1, keptOuts l ++ (endM (after1 c i n l)).2)
def begin0 (c : Cl) : Cl × List Ou := afterM c 0 (beginM c.n0 c.link.ses).1 (beginM c.n0 c.link.ses).2
def begin1 (c : Cl) : Cl × List Ou := afterM c 1 (beginM c.n1 c.link.ses).1 (beginM c.n1 c.link.ses).2
def connectM (c : Cl) (i : Int) : Cl × List Ou :=
  bif !(nodeAt c i).up then (c, []) else
  bif !wantAt (putWant c i true) (1 - i) || !(nodeAt c (1 - i)).up || c.link.up then (putWant c i true, []) else
  ((begin1 (begin0 { putWant c i true with link := lopenM c.link }).1).1,
    (begin0 { putWant c i true with link := lopenM c.link }).2 ++ (begin1 (begin0 { putWant c i true with link := lopenM c.link }).1).2)
def drawM (n : Nd) (g : Int) : Nd := bif decide ((n.draws.length : Int) < 1000) then { n with draws := n.draws ++ [g] } else n
def takenM (c : Cl) (i : Int) : Cl × List Ou :=
  bif !(ltakeM c.link i).2.2 then (c, []) else
  afterM { c with link := (ltakeM c.link i).2.1 } i (receiveM (nodeAt c i) (ltakeM c.link i).1).1 (receiveM (nodeAt c i) (ltakeM c.link i).1).2
def cutM (c : Cl) : Cl × List Ou := bif !c.link.up then (c, []) else endM c
def fusedM (n : Nd) (k : Int) : Nd := bif n.up then { n with store := { n.store with disk := armM n.store.disk (IntKind.wrap .i64 (if 1000 < k then 1000 else k)) } } else n
def doAt (c : Cl) (e : Evt) (i : Int) (n : Nd) : Cl × List Ou :=
  bif e.kind == 1 then afterM c i (promoteM n e.id).1 (promoteM n e.id).2 else
  bif e.kind == 2 then afterM c i (demoteM n e.id).1 (demoteM n e.id).2 else
  bif e.kind == 3 then afterM c i (discardM n e.id).1 (discardM n e.id).2 else
  bif e.kind == 4 then afterM c i (nreadM n e.id e.block).1 (nreadM n e.id e.block).2 else
  bif e.kind == 5 then afterM c i (writeM n e.id e.block e.data).1 (writeM n e.id e.block e.data).2 else
  bif e.kind == 6 then connectM c i else
  bif e.kind == 7 then cutM (putWant c i false) else
  bif e.kind == 8 then cutM c else
  bif e.kind == 9 then takenM c i else
  bif e.kind == 10 then (bif !n.up then (c, []) else afterM c i (downM n) []) else
  bif e.kind == 11 then (putNode c i (nattachM n e.keeps).1, [replyM (nattachM n e.keeps).1 e.id (nattachM n e.keeps).2 ⟨#[]⟩]) else
  bif e.kind == 12 then afterM c i (fusedM n e.n) [] else
  bif e.kind == 13 then (putNode c i (drawM n e.n), []) else
  bif e.kind == 14 then (bif (pkRead e.data c.link.ses).2 == 0 then (c, []) else afterM c i (receiveM n e.data).1 (receiveM n e.data).2) else (c, [])
def doM (c : Cl) (e : Evt) : Cl × List Ou := bif !(e.node == 0) && !(e.node == 1) then (c, []) else doAt c e e.node (nodeAt c e.node)
def playM (c : Cl) (l : List Evt) : Cl × List Ou := l.foldl (fun x e => ((doM x.1 e).1, x.2 ++ (doM x.1 e).2)) (c, [])
end Go.Dm
namespace Go.Dm
open Go
def aStep (j : Int) (s : Cl × List Ou × Bool) (x : Ou) : Cl × List Ou × Bool :=
  bif x.kind == 1 then (bif s.1.link.up then ({ s.1 with link := (lsendM s.1.link j [x.data]).1 }, s.2) else s) else (s.1, s.2.1 ++ [x], s.2.2 || x.kind == 3)
theorem aStep_send (j : Int) (c : Cl) (out : List Ou) (q : Bool) (x : Ou) (h1 : (x.kind == 1) = true) (h2 : c.link.up = true) : aStep j (c, out, q) x = ({ c with link := (lsendM c.link j [x.data]).1 }, out, q) := by
  unfold aStep; rw [h1, cond_true]; simp only [h2, cond_true]
theorem aStep_drop (j : Int) (c : Cl) (out : List Ou) (q : Bool) (x : Ou) (h1 : (x.kind == 1) = true) (h2 : c.link.up = false) : aStep j (c, out, q) x = (c, out, q) := by
  unfold aStep; rw [h1, cond_true]; simp only [h2, cond_false]
theorem aStep_keep (j : Int) (c : Cl) (out : List Ou) (q : Bool) (x : Ou) (h1 : (x.kind == 1) = false) : aStep j (c, out, q) x = (c, out ++ [x], q || x.kind == 3) := by
  unfold aStep; rw [h1, cond_false]
theorem aFold (i j : Int) (hj : IntKind.wrap .i64 (1 - i) = j) : ∀ (l : List Ou) (c : Cl) (out : List Ou) (q : Bool), l.foldl (aStep j) (c, out, q) = ({ c with link := sendAll i c.link l }, out ++ keptOuts l, q || closesM l)
  | [], c, out, q => by simp [sendAll, keptOuts, closesM]
  | x :: l, c, out, q => by
    rw [List.foldl_cons]
    cases h1 : x.kind == 1 with
    | true =>
      cases h2 : c.link.up with
      | true =>
        rw [aStep_send j c out q x h1 h2, aFold i j hj l]
        simp [sendAll, keptOuts, closesM, h1, h2, hj]
      | false =>
        rw [aStep_drop j c out q x h1 h2, aFold i j hj l]
        simp [sendAll, keptOuts, closesM, h1, h2]
    | false =>
      rw [aStep_keep j c out q x h1, aFold i j hj l]
      simp [sendAll, keptOuts, closesM, h1, Bool.or_assoc]
def afterK (i : Int) (c : Cl) (n : Nd) (out : List Ou) (q : Bool) : Cl × List Ou :=
  bif !c.link.up || n.up && !q then (bif !n.up then putWant c i false else c, out) else
  bif q then ((endM { c with w0 := false, w1 := false }).1, out ++ (endM { c with w0 := false, w1 := false }).2) else
  ((endM (bif !n.up then putWant c i false else c)).1, out ++ (endM (bif !n.up then putWant c i false else c)).2)
theorem putWant_link (c : Cl) (i : Int) (w : Bool) : (putWant c i w).link = c.link := by unfold putWant; cases i == 0 <;> rfl
theorem putWant_n0 (c : Cl) (i : Int) (w : Bool) : (putWant c i w).n0 = c.n0 := by unfold putWant; cases i == 0 <;> rfl
theorem putWant_n1 (c : Cl) (i : Int) (w : Bool) : (putWant c i w).n1 = c.n1 := by unfold putWant; cases i == 0 <;> rfl
theorem putWant_none (c : Cl) (i : Int) (w : Bool) : ({ putWant c i w with w0 := false, w1 := false } : Cl) = { c with w0 := false, w1 := false } := by unfold putWant; cases i == 0 <;> rfl
theorem afterK_eq (c : Cl) (i : Int) (n : Nd) (l : List Ou) : afterK i { putNode c i n with link := sendAll i c.link l } n (keptOuts l) (closesM l) = afterM c i n l := by
  unfold afterK afterM after1
  cases n.up with
  | true =>
    cases closesM l <;> cases h : (sendAll i c.link l).up <;> simp [h]
  | false =>
    cases closesM l <;> cases h : (sendAll i c.link l).up <;> simp [h, putWant_link, putWant_none, putWant_n0, putWant_n1]
theorem putNode_link (c : Cl) (i : Int) (n : Nd) : (putNode c i n).link = c.link := by unfold putNode; cases i == 0 <;> rfl
theorem lsend_len (l : Lk) (to : Int) (ps : List ByteArray) : (lsendM l to ps).1.to0.length ≤ l.to0.length + ps.length ∧ (lsendM l to ps).1.to1.length ≤ l.to1.length + ps.length := by
  unfold lsendM
  cases !(to == 0) && !(to == 1) with
  | true => exact ⟨Nat.le_add_right _ _, Nat.le_add_right _ _⟩
  | false =>
    cases l.up with
    | false => exact ⟨Nat.le_add_right _ _, Nat.le_add_right _ _⟩
    | true => cases to == 0 <;> simp
theorem kept_len (l : List Ou) : (keptOuts l).length ≤ l.length := List.length_filter_le _ _
end Go.Dm
namespace Go.Dm
open Go
def DkOk (N : Nat) (d : Dk) : Prop := d.sure.length = N ∧ (∀ s ∈ d.sure, s.size ≤ 64) ∧ ∀ w ∈ d.cache, 0 ≤ w.sec ∧ w.sec.toNat < N ∧ w.data.size ≤ 64
def Fw (a : Nat) (d e : Dk) : Prop := (∀ N, DkOk N d → DkOk N e) ∧ e.cache.length ≤ d.cache.length + a
theorem Fw.refl (a : Nat) (d : Dk) : Fw a d d := ⟨fun _ h => h, Nat.le_add_right _ _⟩
theorem Fw.trans {a b : Nat} {d e f : Dk} (h : Fw a d e) (k : Fw b e f) : Fw (a + b) d f := ⟨fun N x => k.1 N (h.1 N x), by have := h.2; have := k.2; omega⟩
theorem Fw.le {a b : Nat} {d e : Dk} (h : Fw a d e) (hab : a ≤ b) : Fw b d e := ⟨h.1, by have := h.2; omega⟩
theorem Fw.of_eq {a : Nat} {d e : Dk} (h1 : e.sure = d.sure) (h2 : e.cache = d.cache) : Fw a d e := ⟨fun N h => by unfold DkOk at h ⊢; rw [h1, h2]; exact h, by rw [h2]; omega⟩
theorem burn_fw (d : Dk) : Fw 0 d (burnM d) := Fw.of_eq rfl rfl
theorem crash_fw (d : Dk) : Fw 0 d (crashM d) := Fw.of_eq rfl rfl
theorem arm_fw (d : Dk) (n : Int) : Fw 0 d (armM d n) := Fw.of_eq rfl rfl
theorem dwrite_fw (d : Dk) (i : Int) (x : ByteArray) : Fw 1 d (dwriteM d i x).1 := by
  refine ⟨fun N h => ?_, dwrite_cache d i x⟩
  unfold dwriteM
  cases d.dead with
  | true => exact h
  | false =>
    cases hr : (decide (i < 0) || decide (i ≥ (d.sure.length : Int))) with
    | true => exact h
    | false =>
      cases hl : decide ((x.size : Int) > 64) with
      | true => exact h
      | false =>
        cases (burnM d).dead with
        | true => exact (burn_fw d).1 N h
        | false =>
          simp only [Bool.or_eq_false_iff, decide_eq_false_iff_not] at hr hl
          refine ⟨h.1, h.2.1, fun w hw => ?_⟩
          have hw' : w ∈ d.cache ++ [⟨i, x⟩] := hw
          rcases List.mem_append.1 hw' with hw | hw
          · exact h.2.2 w hw
          · simp only [List.mem_singleton] at hw
            subst hw
            have := h.1
            exact ⟨by show 0 ≤ i; omega, by show i.toNat < N; omega, by show x.size ≤ 64; omega⟩
theorem hold_size {N : Nat} {d : Dk} (h : DkOk N d) (i : Int) : (holdsM d i).size ≤ 64 := by
  unfold holdsM
  have key : ∀ (l : List Wr) (s : ByteArray), (∀ w ∈ l, w.data.size ≤ 64) → s.size ≤ 64 → (l.foldl (fun s w => bif w.sec == i then w.data else s) s).size ≤ 64 := by
    intro l
    induction l with
    | nil => intro s _ hs; exact hs
    | cons w l ih =>
      intro s hl hs
      rw [List.foldl_cons]
      refine ih _ (fun w hw => hl w (List.mem_cons_of_mem _ hw)) ?_
      cases w.sec == i with
      | true => exact hl w (List.mem_cons_self ..)
      | false => exact hs
  refine key _ _ (fun w hw => (h.2.2 w hw).2.2) ?_
  rw [List.getD_eq_getElem?_getD]
  cases hg : d.sure[i.toNat]? with
  | none => exact Nat.zero_le _
  | some s => exact h.2.1 s (List.mem_of_getElem? hg)
theorem dkread_size {N : Nat} {d : Dk} (h : DkOk N d) (i : Int) : (readM d i).1.size ≤ 64 := by
  unfold readM
  exact cond_p (p := fun (x : ByteArray × Int) => x.1.size ≤ 64) (Nat.zero_le _) (cond_p (p := fun (x : ByteArray × Int) => x.1.size ≤ 64) (Nat.zero_le _) (hold_size h i))
theorem flush_fw (d : Dk) : Fw 0 d (flushM d).1 := by
  unfold flushM
  refine cond_p (p := fun (x : Dk × Int) => Fw 0 d x.1) (Fw.refl _ _) (cond_p (p := fun (x : Dk × Int) => Fw 0 d x.1) (burn_fw d) ?_)
  refine ⟨fun N h => ⟨?_, fun s hs => ?_, fun w hw => by cases hw⟩, Nat.zero_le _⟩
  · show (heldM (burnM d)).length = N
    rw [← h.1]
    simp [heldM, burnM]
  · have hs' : s ∈ heldM (burnM d) := hs
    simp only [heldM, List.mem_map] at hs'
    obtain ⟨i, _, rfl⟩ := hs'
    exact hold_size ((burn_fw d).1 N h) _
theorem revive_fw (d : Dk) (keeps : List Bool) : Fw 0 d (reviveM d keeps) := by
  refine ⟨fun N h => ?_, Nat.zero_le _⟩
  have key : ∀ (l : List (Wr × Bool)) (s : List ByteArray), (∀ x ∈ l, x.1.data.size ≤ 64) → (s.length = N ∧ ∀ y ∈ s, y.size ≤ 64) → (l.foldl (fun s x => bif x.2 then s.set x.1.sec.toNat x.1.data else s) s).length = N ∧ ∀ y ∈ l.foldl (fun s x => bif x.2 then s.set x.1.sec.toNat x.1.data else s) s, y.size ≤ 64 := by
    intro l
    induction l with
    | nil => intro s _ hs; exact hs
    | cons x l ih =>
      intro s hl hs
      rw [List.foldl_cons]
      refine ih _ (fun w hw => hl w (List.mem_cons_of_mem _ hw)) ?_
      cases x.2 with
      | false => exact hs
      | true =>
        refine ⟨by rw [cond_true, List.length_set]; exact hs.1, fun y hy => ?_⟩
        rw [cond_true] at hy
        rcases List.mem_or_eq_of_mem_set hy with hy | rfl
        · exact hs.2 y hy
        · exact hl x (List.mem_cons_self ..)
  obtain ⟨k1, k2⟩ := key (d.cache.zip keeps) d.sure (fun x hx => (h.2.2 x.1 (List.of_mem_zip hx).1).2.2) ⟨h.1, h.2.1⟩
  exact ⟨k1, k2, fun w hw => by cases hw⟩
theorem commitD_fw (d : Dk) (s : Su) : Fw 1 d (commitD d s).1 := by
  unfold commitD
  exact cond_p (p := fun (x : Dk × Int) => Fw 1 d x.1) (Fw.refl _ d) (cond_p (p := fun (x : Dk × Int) => Fw 1 d x.1) (dwrite_fw _ _ _) ((dwrite_fw _ _ _).trans (flush_fw _)))
theorem note_fw (d : Dk) (m : BitVec 32) : Fw 1 d (noteD d m).1 := by
  unfold noteD
  exact cond_p (p := fun (x : Dk × Int) => Fw 1 d x.1) (Fw.refl _ d) (dwrite_fw _ _ _)
theorem saveD_fw (d : Dk) (m : BitVec 32) : Fw 1 d (saveD d m).1 := by
  unfold saveD
  exact cond_p (p := fun (x : Dk × Int) => Fw 1 d x.1) (note_fw _ _) ((note_fw _ _).trans (flush_fw _))
theorem aput_fw (d : Dk) (i : Int) (x : ByteArray) : Fw 1 d (aputM d i x).1 := by
  unfold aputM
  exact cond_p (p := fun (x : Dk × Int) => Fw 1 d x.1) (Fw.refl _ d) (cond_p (p := fun (x : Dk × Int) => Fw 1 d x.1) (Fw.refl _ d) (cond_p (p := fun (x : Dk × Int) => Fw 1 d x.1) (dwrite_fw _ _ _) ((dwrite_fw _ _ _).trans (flush_fw _))))
theorem commitM_fw (s : So) (b : Su) : Fw 1 s.disk (commitM s b).1.disk := by
  unfold commitM
  exact cond_p (p := fun (x : So × Int) => Fw 1 s.disk x.1.disk) (Fw.refl _ _) (cond_p (p := fun (x : So × Int) => Fw 1 s.disk x.1.disk) (commitD_fw _ _) (commitD_fw _ _))
theorem saveM_fw (s : So) (m : BitVec 32) : Fw 1 s.disk (saveM s m).1.disk := by
  unfold saveM
  exact cond_p (p := fun (x : So × Int) => Fw 1 s.disk x.1.disk) (Fw.refl _ _) (cond_p (p := fun (x : So × Int) => Fw 1 s.disk x.1.disk) (saveD_fw _ _) (saveD_fw _ _))
theorem markM_fw (s : So) (i : Int) : Fw 1 s.disk (markM s i).1.disk := by
  unfold markM
  exact cond_p (p := fun (x : So × Int) => Fw 1 s.disk x.1.disk) (Fw.refl _ _) (saveM_fw _ _)
theorem wipeM_fw (s : So) (i : Int) : Fw 1 s.disk (wipeM s i).1.disk := by
  unfold wipeM
  exact cond_p (p := fun (x : So × Int) => Fw 1 s.disk x.1.disk) (Fw.refl _ _) (cond_p (p := fun (x : So × Int) => Fw 1 s.disk x.1.disk) (Fw.refl _ _) (cond_p (p := fun (x : So × Int) => Fw 1 s.disk x.1.disk) (note_fw _ _) (note_fw _ _)))
def Nw (a : Nat) (n m : Nd) : Prop := Fw a n.store.disk m.store.disk ∧ m.draws.length + m.mints.length ≤ n.draws.length + n.mints.length ∧ m.id = n.id
theorem Nw.refl (a : Nat) (n : Nd) : Nw a n n := ⟨Fw.refl _ _, Nat.le_refl _, rfl⟩
theorem Nw.trans {a b : Nat} {n m o : Nd} (h : Nw a n m) (k : Nw b m o) : Nw (a + b) n o := ⟨h.1.trans k.1, Nat.le_trans k.2.1 h.2.1, k.2.2.trans h.2.2⟩
theorem Nw.le {a b : Nat} {n m : Nd} (h : Nw a n m) (hab : a ≤ b) : Nw b n m := ⟨h.1.le hab, h.2⟩
theorem Nw.same {a : Nat} {n m : Nd} (h1 : m.store.disk = n.store.disk) (h2 : m.draws = n.draws) (h3 : m.mints = n.mints) (h4 : m.id = n.id) : Nw a n m := ⟨by rw [h1]; exact Fw.refl _ _, by rw [h2, h3]; exact Nat.le_refl _, h4⟩
theorem Nw.down {a : Nat} {n m : Nd} (h : Nw a n m) : Nw a n (downM m) := ⟨h.1.trans (crash_fw _), h.2⟩
theorem keepM_nw {a : Nat} (n : Nd) (s : So) (e : Int) (h : Fw a n.store.disk s.disk) : Nw a n (keepM n s e).1 := by
  unfold keepM
  have h1 : Nw a n { n with store := s } := ⟨h, Nat.le_refl _, rfl⟩
  exact cond_p (p := fun (x : Nd × Bool) => Nw a n x.1) h1.down h1
theorem ncommitM_nw (n : Nd) (b : Su) : Nw 1 n (ncommitM n b).1 := by
  unfold ncommitM
  have h1 : Nw 1 n { n with store := (commitM n.store b).1 } := ⟨commitM_fw _ _, Nat.le_refl _, rfl⟩
  exact cond_p (p := fun (x : Nd × Bool) => Nw 1 n x.1) h1.down h1
theorem mintM_nw (n : Nd) : Nw 1 n (mintM n).1 := by
  unfold mintM
  cases hd : n.draws with
  | nil => exact Nw.refl _ _
  | cons g r =>
    show Nw 1 n (mintG n g r).1
    unfold mintG
    refine cond_p (p := fun (x : Nd × Int) => Nw 1 n x.1) ⟨Fw.refl _ _, ?_, rfl⟩ ?_
    · show r.length + n.mints.length ≤ _
      rw [hd, List.length_cons]; omega
    · have h1 : Nw 0 n (mintV n g r) := ⟨Fw.refl _ _, by show r.length + (n.mints ++ [_]).length ≤ _; rw [hd, List.length_append, List.length_cons, List.length_cons, List.length_nil]; omega, rfl⟩
      have h2 : Nw 1 n (ncommitM (mintV n g r) (mintB n g)).1 := (h1.trans (ncommitM_nw _ _)).le (by omega)
      exact cond_p (p := fun (x : Nd × Int) => Nw 1 n x.1) h2 h2
theorem laidM_nw (n : Nd) (i : Int) : Nw 1 n (laidM n i).1 := keepM_nw _ _ _ (markM_fw _ _)
theorem sputM_fw (s : So) (i : Int) (x : ByteArray) : Fw 1 s.disk (sputM s i x).1.disk := aput_fw _ _ _
theorem layM_nw (n : Nd) (i : Int) (x : ByteArray) : Nw 2 n (layM n i x).1 := by
  unfold layM
  exact cond_p (p := fun (x : Nd × Bool) => Nw 2 n x.1) ((laidM_nw n i).le (by omega)) ((laidM_nw n i).trans (keepM_nw _ _ _ (sputM_fw _ _ _)))
theorem nwipeM_nw (n : Nd) (i : Int) : Nw 1 n (nwipeM n i).1 := keepM_nw _ _ _ (wipeM_fw _ _)
def OutOk (k : Nat) (l : List Ou) : Prop := l.length ≤ k ∧ ∀ o ∈ l, o.data.size ≤ 64
theorem OutOk.nil (k : Nat) : OutOk k [] := ⟨Nat.zero_le _, by simp⟩
theorem OutOk.one {k : Nat} {o : Ou} (h : o.data.size ≤ 64) : OutOk (k + 1) [o] := ⟨by simp, by simpa using h⟩
theorem OutOk.two {k : Nat} {o p : Ou} (h : o.data.size ≤ 64) (h2 : p.data.size ≤ 64) : OutOk (k + 2) [o, p] := ⟨by simp, by simpa using ⟨h, h2⟩⟩
theorem OutOk.append {j k : Nat} {l m : List Ou} (h : OutOk j l) (h2 : OutOk k m) : OutOk (j + k) (l ++ m) := ⟨by rw [List.length_append]; have := h.1; have := h2.1; omega, fun o ho => (List.mem_append.1 ho).elim (h.2 o) (h2.2 o)⟩
theorem OutOk.le {j k : Nat} {l : List Ou} (h : OutOk j l) (hjk : j ≤ k) : OutOk k l := ⟨Nat.le_trans h.1 hjk, h.2⟩
theorem pkEnc_size (p : Pk) : (pkEnc p).1.size ≤ 64 := by
  unfold pkEnc
  cases hr : pkRight p with
  | false => exact Nat.zero_le _
  | true =>
    show (sealM (pkBytes p)).size ≤ 64
    rw [sealM_size]
    unfold pkBytes
    rw [ByteArray.size_append]
    have hd : p.data.size ≤ 8 := by
      unfold pkRight at hr
      cases hh : hasData p.kind with
      | true => simp [hh] at hr; omega
      | false => simp [hh] at hr; rw [hr.2.2.2]; decide
    have hh : (pkHead p).size ≤ 48 := by
      unfold pkHead
      have := heEnc_size p.hello
      cases hasBlock p.kind <;> cases p.kind == 1 <;> simp only [cond_true, cond_false, ByteArray.size_append, bstr_size, put8_size, List.length_cons, List.length_nil] <;> omega
    omega
theorem send_out (n : Nd) (p : Pk) : (sendM n p).data.size ≤ 64 := pkEnc_size _
theorem reply_out (n : Nd) (id e : Int) : (replyM n id e ⟨#[]⟩).data.size ≤ 64 := Nat.zero_le _
def Ro (a : Nat) (n : Nd) (x : Nd × List Ou) : Prop := Nw a n x.1 ∧ OutOk 3 x.2
end Go.Dm
namespace Go.Dm
open Go
theorem promoteM_ro (n : Nd) (id : Int) : Ro 3 n (promoteM n id) := by
  have hc := (ncommitM_nw n { n.store.super with pri := true }).le (show 1 ≤ 3 by omega)
  unfold promoteM
  repeat' (first | exact ⟨Nw.refl _ _, OutOk.one (reply_out _ _ _)⟩ | with_reducible apply cond_p (p := Ro 3 n))
  · exact ⟨Nw.same rfl rfl rfl rfl, OutOk.one (send_out _ _)⟩
  · exact ⟨hc, OutOk.nil _⟩
  · exact ⟨hc, OutOk.one (reply_out _ _ _)⟩
theorem demoteM_ro (n : Nd) (id : Int) : Ro 3 n (demoteM n id) := by
  have hc := (ncommitM_nw n { n.store.super with pri := false }).le (show 1 ≤ 3 by omega)
  unfold demoteM
  repeat' (first | exact ⟨Nw.refl _ _, OutOk.one (reply_out _ _ _)⟩ | with_reducible apply cond_p (p := Ro 3 n))
  · exact ⟨hc, OutOk.nil _⟩
  · exact ⟨hc, OutOk.two (send_out _ _) (reply_out _ _ _)⟩
  · exact ⟨hc, OutOk.one (reply_out _ _ _)⟩
theorem discardM_ro (n : Nd) (id : Int) : Ro 3 n (discardM n id) := by
  have hc := (ncommitM_nw n { n.store.super with dis := true }).le (show 1 ≤ 3 by omega)
  unfold discardM
  repeat' (first | exact ⟨Nw.refl _ _, OutOk.one (reply_out _ _ _)⟩ | with_reducible apply cond_p (p := Ro 3 n))
  · exact ⟨hc, OutOk.nil _⟩
  · exact ⟨hc, OutOk.one (reply_out _ _ _)⟩
theorem nreadM_ro (n : Nd) (id block : Int) : Ro 3 n (nreadM n id block) := by
  unfold nreadM
  repeat' (first | exact ⟨Nw.refl _ _, OutOk.one (reply_out _ _ _)⟩ | with_reducible apply cond_p (p := Ro 3 n))
  exact ⟨Nw.refl _ _, OutOk.one (Nat.le_trans (aread_size _ _) (by decide))⟩
theorem write2_ro (n : Nd) (id block : Int) (x : ByteArray) : Ro 2 n (write2 n id block x) := by
  have hl := layM_nw n block x
  unfold write2
  repeat' (with_reducible apply cond_p (p := Ro 2 n))
  · exact ⟨hl, OutOk.nil _⟩
  · exact ⟨hl, OutOk.one (reply_out _ _ _)⟩
  · exact ⟨hl, OutOk.one (send_out _ _)⟩
theorem writeM_ro (n : Nd) (id block : Int) (x : ByteArray) : Ro 3 n (writeM n id block x) := by
  have hm := mintM_nw n
  have h2 := write2_ro (mintM n).1 id block x
  have h3 := write2_ro n id block x
  unfold writeM
  repeat' (first | exact ⟨Nw.refl _ _, OutOk.one (reply_out _ _ _)⟩ | with_reducible apply cond_p (p := Ro 3 n))
  · exact ⟨hm.le (by omega), OutOk.nil _⟩
  · exact ⟨hm.le (by omega), OutOk.one (reply_out _ _ _)⟩
  · exact ⟨(hm.trans h2.1).le (by omega), h2.2⟩
  · exact ⟨h3.1.le (by omega), h3.2⟩
theorem askedM_out (n : Nd) : OutOk 1 (askedM n) := by
  unfold askedM
  exact cond_p (p := OutOk 1) (OutOk.one (reply_out _ _ _)) (OutOk.nil _)
theorem lostM_nw (a : Nat) (n : Nd) : Nw a n (lostM n) := Nw.same rfl rfl rfl rfl
theorem loseM_ro (n : Nd) : Ro 1 n (loseM n) := by
  have hm := ((lostM_nw 0 n).trans (mintM_nw (lostM n))).le (show 0 + 1 ≤ 1 by omega)
  unfold loseM
  repeat' (with_reducible apply cond_p (p := Ro 1 n))
  · exact ⟨Nw.refl _ _, OutOk.nil _⟩
  · exact ⟨lostM_nw _ _, (askedM_out n).le (by omega)⟩
  · exact ⟨hm, (askedM_out n).le (by omega)⟩
  · exact ⟨hm, ((askedM_out n).append (OutOk.one (k := 0) (reply_out _ _ _))).le (by omega)⟩
theorem seekM_ro (n : Nd) : Nw 1 n (seekM n).1 ∧ OutOk 1 (seekM n).2 := by
  have hc := ncommitM_nw n (seekS n)
  unfold seekM
  repeat' (with_reducible apply cond_p (p := fun (x : Nd × List Ou) => Nw 1 n x.1 ∧ OutOk 1 x.2))
  · exact ⟨Nw.refl _ _, OutOk.nil _⟩
  · exact ⟨Nw.same rfl rfl rfl rfl, OutOk.one (send_out _ _)⟩
  · exact ⟨hc, OutOk.nil _⟩
  · exact ⟨hc, OutOk.one (send_out _ _)⟩
theorem ackedM_ro (n : Nd) (b : Int) : Ro 3 n (ackedM n b) := by
  have h0 : Nw 0 n { n with req := rq0 } := Nw.same rfl rfl rfl rfl
  have hc := (h0.trans (nwipeM_nw { n with req := rq0 } b)).le (show 0 + 1 ≤ 3 by omega)
  unfold ackedM
  repeat' (with_reducible apply cond_p (p := Ro 3 n))
  · exact ⟨Nw.refl _ _, OutOk.nil _⟩
  · exact ⟨hc, OutOk.one (reply_out _ _ _)⟩
  · exact ⟨hc, OutOk.two (reply_out _ _ _) (send_out _ _)⟩
theorem applyM_ro (n : Nd) (b : Int) (x : ByteArray) : Ro 3 n (applyM n b x) := by
  have hl := (layM_nw n b x).le (show 2 ≤ 3 by omega)
  unfold applyM
  exact cond_p (p := Ro 3 n) ⟨hl, OutOk.nil _⟩ ⟨hl, OutOk.one (send_out _ _)⟩
theorem copiedM_nw (n : Nd) (b : Int) : Nw 3 n (copiedM n b) := by
  unfold copiedM
  exact cond_p (p := Nw 3 n) (Nw.refl _ _) ((nwipeM_nw n b).le (by omega))
theorem gotM_ro (n : Nd) (b : Int) (x : ByteArray) : Ro 3 n (gotM n b x) := by
  have h1 : Nw 1 n (gotP n b x).1 := keepM_nw _ _ _ (sputM_fw _ _ _)
  have h2 := h1.trans (nwipeM_nw (gotP n b x).1 b)
  have h3 : Nw 2 n (gotW n b x) := h2.trans (b := 0) (Nw.same rfl rfl rfl rfl)
  have h4 := seekM_ro (gotW n b x)
  unfold gotM
  repeat' (with_reducible apply cond_p (p := Ro 3 n))
  · exact ⟨Nw.refl _ _, OutOk.nil _⟩
  · exact ⟨h1.le (by omega), OutOk.nil _⟩
  · exact ⟨h2.le (by omega), OutOk.nil _⟩
  · exact ⟨(h3.trans h4.1).le (by omega), ((OutOk.one (k := 0) (send_out _ _)).append h4.2).le (by omega)⟩
theorem endedM_ro (n : Nd) : Ro 3 n (endedM n) := by
  have hc := (ncommitM_nw n (endedB n)).le (show 1 ≤ 3 by omega)
  unfold endedM
  exact cond_p (p := Ro 3 n) ⟨hc, OutOk.nil _⟩ ⟨hc, OutOk.one (send_out _ _)⟩
theorem rolesM_ro (n : Nd) (kind : Int) : Ro 3 n (rolesM n kind) := by
  have hc := (ncommitM_nw n (grantB n)).le (show 1 ≤ 3 by omega)
  unfold rolesM
  repeat' (with_reducible apply cond_p (p := Ro 3 n))
  · exact ⟨Nw.refl _ _, OutOk.one (send_out _ _)⟩
  · exact ⟨Nw.same rfl rfl rfl rfl, OutOk.one (send_out _ _)⟩
  · exact ⟨Nw.same rfl rfl rfl rfl, OutOk.one (reply_out _ _ _)⟩
  · exact ⟨Nw.same rfl rfl rfl rfl, OutOk.nil _⟩
  · exact ⟨hc, OutOk.nil _⟩
  · exact ⟨hc, OutOk.one (reply_out _ _ _)⟩
theorem metM_ro (n : Nd) (h : He) : Ro 3 n (metM n h) := by
  have hj : Nw 1 n (metJ n (verdictM n h).2).1 := keepM_nw _ _ _ (saveM_fw _ _)
  have hc := (ncommitM_nw n (endedB n)).le (show 1 ≤ 3 by omega)
  have hc2 := hj.trans (ncommitM_nw (metJ n (verdictM n h).2).1 (metB n h))
  have hs : Nw 2 n (metS (ncommitM (metJ n (verdictM n h).2).1 (metB n h)).1 h 4) := hc2.trans (b := 0) (Nw.same rfl rfl rfl rfl)
  have h4 := seekM_ro (metS (ncommitM (metJ n (verdictM n h).2).1 (metB n h)).1 h 4)
  unfold metM metK
  repeat' (with_reducible apply cond_p (p := Ro 3 n))
  · exact ⟨Nw.refl _ _, OutOk.one (Nat.zero_le _)⟩
  · exact ⟨hc, OutOk.nil _⟩
  · exact ⟨hc, OutOk.nil _⟩
  · exact ⟨hj.le (by omega), OutOk.nil _⟩
  · exact ⟨hj.le (by omega), OutOk.nil _⟩
  · exact ⟨hc2.le (by omega), OutOk.nil _⟩
  · exact ⟨(hs.trans h4.1).le (by omega), h4.2.le (by omega)⟩
theorem takeM_ro (n : Nd) (p : Pk) : Ro 3 n (takeM n p) := by
  unfold takeM
  repeat' (with_reducible apply cond_p (p := Ro 3 n))
  · exact metM_ro _ _
  · exact applyM_ro _ _ _
  · exact ackedM_ro _ _
  · exact ⟨(nwipeM_nw _ _).le (by omega), OutOk.nil _⟩
  · exact ⟨Nw.refl _ _, OutOk.one (send_out _ _)⟩
  · exact gotM_ro _ _ _
  · exact ⟨copiedM_nw _ _, OutOk.nil _⟩
  · exact endedM_ro _
  · exact ⟨Nw.same rfl rfl rfl rfl, OutOk.nil _⟩
  · exact rolesM_ro _ _
theorem receiveM_ro (n : Nd) (b : ByteArray) : Ro 3 n (receiveM n b) := by
  unfold receiveM
  repeat' (with_reducible apply cond_p (p := Ro 3 n))
  · exact ⟨Nw.refl _ _, OutOk.nil _⟩
  · exact ⟨Nw.refl _ _, OutOk.nil _⟩
  · exact ⟨Nw.refl _ _, OutOk.one (Nat.zero_le _)⟩
  · exact takeM_ro _ _
theorem beginM_ro (n : Nd) (s : Int) : Ro 0 n (beginM n s) := ⟨Nw.same rfl rfl rfl rfl, OutOk.one (send_out _ _)⟩
theorem attachM_fw (d : Dk) (h : (attachM d).2 = 0) : (attachM d).1.disk = d := by
  unfold attachM at h ⊢
  cases h1 : (loadS d).2 == 0 with
  | false => rw [h1] at h; simp only [Bool.not_false, cond_true] at h; simp [h] at h1
  | true =>
    cases h2 : (loadB d).2 == 0 with
    | false => rw [h1, h2] at h; simp only [Bool.not_false, Bool.not_true, cond_true, cond_false] at h; simp [h] at h2
    | true =>
      cases h3 : (allM d).2 == 0 with
      | false => rw [h1, h2, h3] at h; simp only [Bool.not_false, Bool.not_true, cond_true, cond_false] at h; simp [h] at h3
      | true => rfl
theorem nattachM_nw (n : Nd) (ks : List Bool) : Nw 0 n (nattachM n ks).1 := by
  unfold nattachM
  have hr : Nw 0 n { n with store := { n.store with disk := reviveM n.store.disk ks } } := ⟨revive_fw _ _, Nat.le_refl _, rfl⟩
  refine cond_p (p := fun (x : Nd × Int) => Nw 0 n x.1) (Nw.refl _ _) ?_
  cases h : ((attachM (reviveM n.store.disk ks)).2 == 0) with
  | false => exact hr
  | true =>
    have := attachM_fw _ (eq_of_beq h)
    refine ⟨?_, Nat.le_refl _, rfl⟩
    show Fw 0 n.store.disk (attachM (reviveM n.store.disk ks)).1.disk
    rw [this]
    exact revive_fw _ _
end Go.Dm
namespace Go.Dm
open Go
def NdB (N a m : Nat) (n : Nd) : Prop := DkOk N n.store.disk ∧ n.store.disk.cache.length ≤ a ∧ n.draws.length + n.mints.length ≤ m
theorem NdB.nw {N a b m : Nat} {n n' : Nd} (h : NdB N a m n) (k : Nw b n n') : NdB N (a + b) m n' := ⟨k.1.1 N h.1, by have := k.1.2; have := h.2.1; omega, Nat.le_trans k.2.1 h.2.2⟩
theorem NdB.le {N a a' m m' : Nat} {n : Nd} (h : NdB N a m n) (ha : a ≤ a') (hm : m ≤ m') : NdB N a' m' n := ⟨h.1, Nat.le_trans h.2.1 ha, Nat.le_trans h.2.2 hm⟩
def LkB (s : Nat) (l : Lk) : Prop := l.to0.length ≤ s ∧ l.to1.length ≤ s ∧ (∀ x ∈ l.to0, x.size ≤ 64) ∧ ∀ x ∈ l.to1, x.size ≤ 64
theorem LkB.le {s t : Nat} {l : Lk} (h : LkB s l) (hst : s ≤ t) : LkB t l := ⟨Nat.le_trans h.1 hst, Nat.le_trans h.2.1 hst, h.2.2⟩
theorem LkB.none (s : Nat) (up : Bool) (ses : Int) : LkB s ⟨up, ses, [], []⟩ := ⟨Nat.zero_le _, Nat.zero_le _, by simp, by simp⟩
theorem lsend_b {s : Nat} {l : Lk} (h : LkB s l) (to : Int) {x : ByteArray} (hx : x.size ≤ 64) : LkB (s + 1) (lsendM l to [x]).1 := by
  have h0 : LkB (s + 1) l := h.le (by omega)
  have app : ∀ {y : List ByteArray}, (∀ z ∈ y, z.size ≤ 64) → ∀ z ∈ y ++ [x], z.size ≤ 64 := fun hy z hz => by
    rcases List.mem_append.1 hz with hz | hz
    · exact hy z hz
    · simp only [List.mem_singleton] at hz; rw [hz]; exact hx
  unfold lsendM
  refine cond_p (p := fun (x : Lk × Int) => LkB (s + 1) x.1) h0 (cond_p (p := fun (x : Lk × Int) => LkB (s + 1) x.1) h0 (cond_p (p := fun (x : Lk × Int) => LkB (s + 1) x.1) ?_ ?_))
  · exact ⟨by simp only [List.length_append, List.length_cons, List.length_nil]; have := h.1; omega, h0.2.1, app h.2.2.1, h.2.2.2⟩
  · exact ⟨h0.1, by simp only [List.length_append, List.length_cons, List.length_nil]; have := h.2.1; omega, h.2.2.1, app h.2.2.2⟩
theorem sendAll_b (i : Int) : ∀ (l : List Ou) {s : Nat} {k : Lk}, LkB s k → (∀ o ∈ l, o.data.size ≤ 64) → LkB (s + l.length) (sendAll i k l)
  | [], s, k, h, _ => h
  | o :: l, s, k, h, ho => by
    have h1 : LkB (s + 1) (bif o.kind == 1 && k.up then (lsendM k (IntKind.wrap .i64 (1 - i)) [o.data]).1 else k) := by
      cases o.kind == 1 && k.up with
      | true => exact lsend_b h _ (ho o (List.mem_cons_self ..))
      | false => exact h.le (by omega)
    have := sendAll_b i l h1 (fun o ho' => ho o (List.mem_cons_of_mem _ ho'))
    rw [List.length_cons, show s + (l.length + 1) = s + 1 + l.length by omega]
    exact this
structure ClB (N a m s : Nat) (c : Cl) : Prop where
  n0 : NdB N a m c.n0
  n1 : NdB N a m c.n1
  link : LkB s c.link
theorem ClB.le {N a a' m m' s s' : Nat} {c : Cl} (h : ClB N a m s c) (ha : a ≤ a') (hm : m ≤ m') (hs : s ≤ s') : ClB N a' m' s' c := ⟨h.n0.le ha hm, h.n1.le ha hm, h.link.le hs⟩
theorem lose1_b {N a m : Nat} {n : Nd} (w : Bool) (h : NdB N a m n) : NdB N (a + 1) m (lose1 n w).1.1 ∧ OutOk 3 (lose1 n w).2 := by
  have hr := loseM_ro n
  unfold lose1
  refine cond_p (p := fun (x : (Nd × Bool) × List Ou) => NdB N (a + 1) m x.1.1 ∧ OutOk 3 x.2) ⟨h.le (by omega) (Nat.le_refl _), OutOk.nil _⟩ (cond_p (p := fun (x : (Nd × Bool) × List Ou) => NdB N (a + 1) m x.1.1 ∧ OutOk 3 x.2) ?_ ?_)
  · exact ⟨h.nw hr.1, hr.2⟩
  · exact ⟨h.nw hr.1, hr.2⟩
theorem endM_b {N a m s : Nat} {c : Cl} (h : ClB N a m s c) : ClB N (a + 1) m 0 (endM c).1 ∧ OutOk 6 (endM c).2 := by
  have h0 := lose1_b c.w0 h.n0
  have h1 := lose1_b c.w1 h.n1
  exact ⟨⟨h0.1, h1.1, LkB.none _ _ _⟩, h0.2.append h1.2⟩
theorem putNode_b {N a m s : Nat} {c : Cl} (h : ClB N a m s c) (i : Int) {n : Nd} (hn : NdB N a m n) : ClB N a m s (putNode c i n) := by
  unfold putNode
  exact cond_p (p := ClB N a m s) ⟨hn, h.n1, h.link⟩ ⟨h.n0, hn, h.link⟩
theorem putWant_b {N a m s : Nat} {c : Cl} (h : ClB N a m s c) (i : Int) (w : Bool) : ClB N a m s (putWant c i w) := by
  unfold putWant
  exact cond_p (p := ClB N a m s) ⟨h.n0, h.n1, h.link⟩ ⟨h.n0, h.n1, h.link⟩
theorem nodeAt_b {N a m s : Nat} {c : Cl} (h : ClB N a m s c) (i : Int) : NdB N a m (nodeAt c i) := by
  unfold nodeAt
  exact cond_p (p := NdB N a m) h.n0 h.n1
theorem kept_out {k : Nat} {l : List Ou} (h : OutOk k l) : OutOk k (keptOuts l) := ⟨Nat.le_trans (kept_len l) h.1, fun o ho => h.2 o (List.mem_filter.1 ho).1⟩
theorem afterM_b {N a m s : Nat} {c : Cl} (h : ClB N a m s c) (i : Int) {n : Nd} (hn : NdB N a m n) {l : List Ou} (hl : OutOk 3 l) : ClB N (a + 1) m (s + 3) (afterM c i n l).1 ∧ OutOk 9 (afterM c i n l).2 := by
  have hp := putNode_b h i hn
  have hk : ClB N a m (s + 3) { putNode c i n with link := sendAll i c.link l } := ⟨hp.n0, hp.n1, (sendAll_b i l h.link hl.2).le (by have := hl.1; omega)⟩
  have h1 : ClB N a m (s + 3) (after1 c i n l) := by
    unfold after1
    exact cond_p (p := ClB N a m (s + 3)) (putWant_b hk i false) hk
  have h2 : ClB N a m (s + 3) { after1 c i n l with w0 := false, w1 := false } := ⟨h1.n0, h1.n1, h1.link⟩
  have e1 := endM_b h1
  have e2 := endM_b h2
  have hK := kept_out hl
  unfold afterM
  refine cond_p (p := fun (x : Cl × List Ou) => ClB N (a + 1) m (s + 3) x.1 ∧ OutOk 9 x.2) ⟨h1.le (by omega) (Nat.le_refl _) (Nat.le_refl _), hK.le (by omega)⟩ (cond_p (p := fun (x : Cl × List Ou) => ClB N (a + 1) m (s + 3) x.1 ∧ OutOk 9 x.2) ⟨e2.1.le (Nat.le_refl _) (Nat.le_refl _) (by omega), hK.append e2.2⟩ ⟨e1.1.le (Nat.le_refl _) (Nat.le_refl _) (by omega), hK.append e1.2⟩)
theorem beginM_nb {N a m : Nat} {n : Nd} (h : NdB N a m n) (s : Int) : NdB N a m (beginM n s).1 := h.nw (b := 0) (beginM_ro n s).1
theorem begin0_b {N a m s : Nat} {c : Cl} (h : ClB N a m s c) : ClB N (a + 1) m (s + 3) (begin0 c).1 ∧ OutOk 9 (begin0 c).2 := afterM_b h 0 (beginM_nb h.n0 _) (beginM_ro _ _).2
theorem begin1_b {N a m s : Nat} {c : Cl} (h : ClB N a m s c) : ClB N (a + 1) m (s + 3) (begin1 c).1 ∧ OutOk 9 (begin1 c).2 := afterM_b h 1 (beginM_nb h.n1 _) (beginM_ro _ _).2
theorem openC_b {N a m s : Nat} {c : Cl} (h : ClB N a m s c) (i : Int) : ClB N a m 0 { putWant c i true with link := lopenM c.link } := by
  have hw := putWant_b h i true
  exact ⟨hw.n0, hw.n1, LkB.none _ _ _⟩
theorem connectM_b {N a m s : Nat} {c : Cl} (h : ClB N a m s c) (i : Int) : ClB N (a + 2) m (s + 6) (connectM c i).1 ∧ OutOk 18 (connectM c i).2 := by
  have hw := putWant_b h i true
  have ho := openC_b h i
  have b0 := begin0_b ho
  have b1 := begin1_b b0.1
  unfold connectM
  refine cond_p (p := fun (x : Cl × List Ou) => ClB N (a + 2) m (s + 6) x.1 ∧ OutOk 18 x.2) ⟨h.le (by omega) (Nat.le_refl _) (by omega), OutOk.nil _⟩ (cond_p (p := fun (x : Cl × List Ou) => ClB N (a + 2) m (s + 6) x.1 ∧ OutOk 18 x.2) ⟨hw.le (by omega) (Nat.le_refl _) (by omega), OutOk.nil _⟩ ?_)
  exact ⟨b1.1.le (Nat.le_refl _) (Nat.le_refl _) (by omega), b0.2.append b1.2⟩
theorem ltake_b {s : Nat} {l : Lk} (h : LkB s l) (i : Int) : LkB s (ltakeM l i).2.1 ∧ (ltakeM l i).1.size ≤ 64 := by
  unfold ltakeM
  refine cond_p (p := fun (x : ByteArray × Lk × Bool) => LkB s x.2.1 ∧ x.1.size ≤ 64) ?_ (cond_p (p := fun (x : ByteArray × Lk × Bool) => LkB s x.2.1 ∧ x.1.size ≤ 64) ?_ ⟨h, Nat.zero_le _⟩)
  · cases ht : l.to0 with
    | nil => exact ⟨h, Nat.zero_le _⟩
    | cons x r =>
      have h1 := h.1
      have h2 := h.2.2.1
      rw [ht] at h1 h2
      exact ⟨⟨by simp at h1; show r.length ≤ s; omega, h.2.1, fun y hy => h2 y (List.mem_cons_of_mem _ hy), h.2.2.2⟩, h2 x (List.mem_cons_self ..)⟩
  · cases ht : l.to1 with
    | nil => exact ⟨h, Nat.zero_le _⟩
    | cons x r =>
      have h1 := h.2.1
      have h2 := h.2.2.2
      rw [ht] at h1 h2
      exact ⟨⟨h.1, by simp at h1; show r.length ≤ s; omega, h.2.2.1, fun y hy => h2 y (List.mem_cons_of_mem _ hy)⟩, h2 x (List.mem_cons_self ..)⟩
def Ev1 (N a m s : Nat) (x : Cl × List Ou) : Prop := ClB N (a + 4) (m + 1) (s + 6) x.1 ∧ OutOk 18 x.2
theorem ev1_stay {N a m s : Nat} {c : Cl} (h : ClB N a m s c) : Ev1 N a m s (c, []) := ⟨h.le (by omega) (by omega) (by omega), OutOk.nil _⟩
theorem ev1_after {N a m s : Nat} {c : Cl} (h : ClB N a m s c) (i : Int) {n : Nd} {l : List Ou} (hn : NdB N (a + 3) m n) (hl : OutOk 3 l) : Ev1 N a m s (afterM c i n l) := by
  have := afterM_b (h.le (show a ≤ a + 3 by omega) (Nat.le_refl _) (Nat.le_refl _)) i hn hl
  exact ⟨this.1.le (by omega) (by omega) (by omega), this.2.le (by omega)⟩
theorem ev1_ro {N a m s : Nat} {c : Cl} (h : ClB N a m s c) (i : Int) {n : Nd} {x : Nd × List Ou} (hn : NdB N a m n) (hr : Ro 3 n x) : Ev1 N a m s (afterM c i x.1 x.2) := ev1_after h i (hn.nw hr.1) hr.2
theorem cutM_b {N a m s : Nat} {c : Cl} (h : ClB N a m s c) : Ev1 N a m s (cutM c) := by
  unfold cutM
  have := endM_b h
  exact cond_p (p := Ev1 N a m s) (ev1_stay h) ⟨this.1.le (by omega) (by omega) (by omega), this.2.le (by omega)⟩
theorem doAt_b {N a m s : Nat} {c : Cl} (h : ClB N a m s c) (e : Evt) (i : Int) {n : Nd} (hn : NdB N a m n) : Ev1 N a m s (doAt c e i n) := by
  unfold doAt
  repeat' (with_reducible apply cond_p (p := Ev1 N a m s))
  · exact ev1_ro h i hn (promoteM_ro _ _)
  · exact ev1_ro h i hn (demoteM_ro _ _)
  · exact ev1_ro h i hn (discardM_ro _ _)
  · exact ev1_ro h i hn (nreadM_ro _ _ _)
  · exact ev1_ro h i hn (writeM_ro _ _ _ _)
  · have := connectM_b h i
    exact ⟨this.1.le (by omega) (by omega) (by omega), this.2⟩
  · exact cutM_b (putWant_b h i false)
  · exact cutM_b h
  · unfold takenM
    have ht := ltake_b h.link i
    refine cond_p (p := Ev1 N a m s) (ev1_stay h) ?_
    exact ev1_ro (c := { c with link := (ltakeM c.link i).2.1 }) ⟨h.n0, h.n1, ht.1⟩ i (nodeAt_b h i) (receiveM_ro _ _)
  · exact ev1_stay h
  · exact ev1_after h i (hn.nw (Nw.down (a := 3) (Nw.refl _ _))) (OutOk.nil _)
  · have := hn.nw (nattachM_nw n e.keeps)
    have hp := putNode_b h i this
    exact ⟨hp.le (by omega) (by omega) (by omega), OutOk.one (reply_out _ _ _)⟩
  · refine ev1_after h i ?_ (OutOk.nil _)
    unfold fusedM
    refine cond_p (p := NdB N (a + 3) m) ?_ (hn.le (by omega) (Nat.le_refl _))
    exact hn.nw (b := 3) ⟨(arm_fw _ _).le (by omega), Nat.le_refl _, rfl⟩
  · have hd : NdB N a (m + 1) (drawM n e.n) := by
      unfold drawM
      refine cond_p (p := NdB N a (m + 1)) ⟨hn.1, hn.2.1, ?_⟩ (hn.le (Nat.le_refl _) (by omega))
      simp only [List.length_append, List.length_cons, List.length_nil]
      have := hn.2.2
      omega
    have hp := putNode_b (h.le (Nat.le_refl _) (show m ≤ m + 1 by omega) (Nat.le_refl _)) i hd
    exact ⟨hp.le (by omega) (by omega) (by omega), OutOk.nil _⟩
  · exact ev1_stay h
  · exact ev1_ro h i hn (receiveM_ro _ _)
  · exact ev1_stay h
theorem doM_b {N a m s : Nat} {c : Cl} (h : ClB N a m s c) (e : Evt) : Ev1 N a m s (doM c e) := by
  unfold doM
  exact cond_p (p := Ev1 N a m s) (ev1_stay h) (doAt_b h e _ (nodeAt_b h _))
theorem playM_b {N : Nat} : ∀ (l : List Evt) {a m s : Nat} {c : Cl}, ClB N a m s c → ClB N (a + 4 * l.length) (m + l.length) (s + 6 * l.length) (playM c l).1
  | l, a, m, s, c, h => by
    have key : ∀ (l : List Evt) {a m s : Nat} (x : Cl × List Ou), ClB N a m s x.1 → ClB N (a + 4 * l.length) (m + l.length) (s + 6 * l.length) (l.foldl (fun x e => ((doM x.1 e).1, x.2 ++ (doM x.1 e).2)) x).1 := by
      intro l
      induction l with
      | nil => intro a m s x h; exact h
      | cons e l ih =>
        intro a m s x h
        rw [List.foldl_cons]
        have := ih ((doM x.1 e).1, x.2 ++ (doM x.1 e).2) (doM_b h e).1
        rw [List.length_cons]
        exact this.le (by omega) (by omega) (by omega)
    exact key l (c, []) h
end Go.Dm
namespace Go.Dm
open Go
abbrev mints (l : List Mi) : List (List C) := l.map Mi.cs
def miOf : List C → Option Mi
  | [.raw (.int .u64 g), .raw (.int .u64 p), .raw (.int .i64 n)] => some ⟨g, p, n⟩
  | _ => none
def upd (g p : Int) : List (Int × Int) → List (Int × Int)
  | [] => [(g, p)]
  | (a, b) :: r => if g == a then (a, p) :: r else (a, b) :: upd g p r
def par (l : List Mi) : List (Int × Int) := l.foldr (fun x m => upd x.g x.p m) []
abbrev encM (m : List (Int × Int)) : List (Value × Value) := m.map fun x => (.int .u64 x.1, .int .u64 x.2)
def parTab (xs : List A) (ims : List (List C)) : Option (List Res × List (List C)) :=
  match xs, ims with
  | [.c (.slice sz es)], [] => if (sz = 3 ∨ es = []) ∧ es.length ≤ 1000000 then (es.mapM miOf).map fun l => ([.c (.map (encM (par l)))], []) else none
  | _, _ => none
def growTab (sz : Nat) (xs : List A) (ims : List (List C)) : Option (List Res × List (List C)) :=
  match xs, ims with
  | [.nil, .c (.raw (.int .i64 n))], [] => if 0 ≤ n ∧ n ≤ 1000000 then some ([.top sz []], []) else none
  | _, _ => none
end Go.Dm
namespace Go.Dm
open Go
def luk : List (Int × Int) → Int → Int × Bool
  | [], _ => (0, false)
  | (a, b) :: r, g => if g == a then (b, true) else luk r g
theorem look_encM (m : List (Int × Int)) (g : Int) : lookV .u64 g .u64 (encM m) = some (luk m g) := by
  induction m with
  | nil => rfl
  | cons x m ih =>
    obtain ⟨a, b⟩ := x
    simp only [encM, List.map_cons, lookV, luk, and_self, if_true]
    cases g == a with
    | true => rfl
    | false => simpa [encM] using ih
theorem look_pair (m : List (Int × Int)) (g : Int) : lookV .u64 g .u64 (encM m) = some ((luk m g).1, (luk m g).2) := look_encM m g
theorem mapM_mints (l : List Mi) : (mints l).mapM miOf = some l := by
  induction l with
  | nil => rfl
  | cons x l ih =>
    simp only [mints, List.map_cons, List.mapM_cons]
    have : miOf x.cs = some x := rfl
    rw [this]
    simp only [mints] at ih
    rw [ih]
    rfl
def parL (l : List Mi) (g : Int) : Int := match l.find? (·.g == g) with | some x => x.p | none => 0
def gI (f : Int → Int) (g : Int) : Nat → Int
  | 0 => g
  | i + 1 => f (gI f g i)
def acc (f : Int → Int) (g : Int) (i : Nat) : List Int := (List.range i).map (gI f g)
def stopAt (f : Int → Int) (g : Int) (i : Nat) : Bool := gI f g i == 0 || (acc f g i).contains (gI f g i)
def lenL (f : Int → Int) (g : Int) (B : Nat) : Nat := (List.range (B + 1)).findIdx (stopAt f g)
def lineL (f : Int → Int) (g : Int) (B : Nat) : List Int := acc f g (lenL f g B)
theorem acc_succ (f : Int → Int) (g : Int) (i : Nat) : acc f g (i + 1) = acc f g i ++ [gI f g i] := by
  unfold acc; rw [List.range_succ]; simp
theorem acc_len (f : Int → Int) (g : Int) (i : Nat) : (acc f g i).length = i := by unfold acc; simp
theorem nodup_len {l1 : List Int} : ∀ {l2 : List Int}, l1.Nodup → (∀ x ∈ l1, x ∈ l2) → l1.length ≤ l2.length := by
  induction l1 with
  | nil => intro l2 _ _; simp
  | cons a l1 ih =>
    intro l2 hn hs
    have ha := hs a (by simp)
    have hn' := List.nodup_cons.1 hn
    have := ih (l2 := l2.erase a) hn'.2 (fun x hx => by
      have hx2 := hs x (by simp [hx])
      have hne : x ≠ a := fun h => hn'.1 (h ▸ hx)
      exact (List.mem_erase_of_ne hne).2 hx2)
    rw [List.length_erase_of_mem ha] at this
    have : 0 < l2.length := List.length_pos_of_mem ha
    simp only [List.length_cons]
    omega
theorem acc_nodup {f : Int → Int} {g : Int} : ∀ {i : Nat}, (∀ j, j < i → stopAt f g j = false) → (acc f g i).Nodup
  | 0, _ => by simp [acc]
  | i + 1, h => by
    rw [acc_succ, List.nodup_append]
    have hs := h i (by omega)
    unfold stopAt at hs
    simp only [Bool.or_eq_false_iff] at hs
    refine ⟨acc_nodup (fun j hj => h j (by omega)), by simp, fun a ha b hb => ?_⟩
    simp at hb
    subst hb
    intro he
    subst he
    have : (acc f g i).contains (gI f g i) = true := by simpa using ha
    rw [this] at hs
    exact absurd hs.2 (by simp)
theorem line_ends {f : Int → Int} {K : List Int} (hK : ∀ x, f x ≠ 0 → x ∈ K) {B : Nat} (hB : K.length + 1 ≤ B) (g : Int) : (List.range (B + 1)).any (stopAt f g) = true := by
  cases hb : (List.range (B + 1)).any (stopAt f g) with
  | true => rfl
  | false =>
    have hall : ∀ j, j ≤ B → stopAt f g j = false := fun j hj => by
      have := List.all_eq_true.1 (all_of_any hb) j (by simp; omega)
      simpa using this
    have hn := acc_nodup (f := f) (g := g) (i := B) (fun j hj => hall j (by omega))
    have hs : ∀ x ∈ acc f g B, x ∈ K := fun x hx => by
      unfold acc at hx
      simp at hx
      obtain ⟨j, hj, rfl⟩ := hx
      apply hK
      intro h0
      have := hall (j + 1) (by omega)
      unfold stopAt at this
      simp only [Bool.or_eq_false_iff] at this
      have h1 : gI f g (j + 1) = 0 := h0
      rw [h1] at this
      exact absurd this.1 (by simp)
    have := nodup_len hn hs
    rw [acc_len] at this
    omega
theorem lenL_spec {f : Int → Int} {g : Int} {B : Nat} (h : (List.range (B + 1)).any (stopAt f g) = true) : lenL f g B ≤ B ∧ stopAt f g (lenL f g B) = true ∧ ∀ j, j < lenL f g B → stopAt f g j = false := by
  have hl := findIdx_lt_of_any h
  have h1 : lenL f g B < B + 1 := by simpa [lenL] using hl
  refine ⟨by omega, ?_, fun j hj => ?_⟩
  · have := List.findIdx_getElem (w := hl)
    simpa [lenL] using this
  · have := List.not_of_lt_findIdx (xs := List.range (B + 1)) (p := stopAt f g) (i := j) hj
    simpa using this
theorem luk_upd (a b : Int) : ∀ (m : List (Int × Int)) (g : Int), luk (upd a b m) g = if g == a then (b, true) else luk m g
  | [], g => rfl
  | (c, d) :: r, g => by
    unfold upd
    cases hac : a == c with
    | true =>
      obtain rfl := eq_of_beq hac
      simp only [if_true, luk]
      cases g == a <;> rfl
    | false =>
      simp only [Bool.false_eq_true, if_false, luk]
      cases hgc : g == c with
      | true =>
        obtain rfl := eq_of_beq hgc
        have : (g == a) = false := by rw [Bool.beq_comm]; exact hac
        rw [this]; rfl
      | false => simpa using luk_upd a b r g
theorem luk_par : ∀ (l : List Mi) (g : Int), luk (par l) g = (parL l g, l.any (·.g == g))
  | [], g => rfl
  | x :: l, g => by
    have ih := luk_par l g
    show luk (upd x.g x.p (par l)) g = _
    rw [luk_upd, ih]
    unfold parL
    rw [List.find?_cons, List.any_cons, Bool.beq_comm (a := g)]
    cases x.g == g <;> rfl
theorem luk1 (l : List Mi) (g : Int) : (luk (par l) g).1 = parL l g := by rw [luk_par]
theorem parL_key (l : List Mi) (x : Int) (h : parL l x ≠ 0) : x ∈ l.map (·.g) := by
  unfold parL at h
  cases hf : l.find? (·.g == x) with
  | none => rw [hf] at h; exact absurd rfl h
  | some y =>
    have h1 := List.mem_of_find?_eq_some hf
    have h2 := List.find?_some hf
    rw [List.mem_map]
    exact ⟨y, h1, by simpa using h2⟩
abbrev stepsL (l : List Mi) : Nat := l.length + 1
abbrev lenM (l : List Mi) (g : Int) : Nat := lenL (parL l) g (stepsL l)
def lineM (l : List Mi) (g : Int) : List Int := lineL (parL l) g (stepsL l)
abbrev lastM (l : List Mi) (g : Int) : Int := gI (parL l) g (lenM l g)
theorem lineM_spec (l : List Mi) (g : Int) : lenM l g ≤ l.length + 1 ∧ stopAt (parL l) g (lenM l g) = true ∧ ∀ j, j < lenM l g → stopAt (parL l) g j = false :=
  lenL_spec (line_ends (K := l.map (·.g)) (parL_key l) (by simp) g)
theorem lineM_len (l : List Mi) (g : Int) : (lineM l g).length ≤ l.length + 1 := by
  unfold lineM lineL
  rw [acc_len]
  exact (lineM_spec l g).1
theorem lineM_le {l : List Mi} (hl : l.length ≤ 100000) (g : Int) : (lineM l g).length ≤ 1000000 := by have := lineM_len l g; omega
theorem any_contains (l : List Int) (g : Int) : l.any (g == ·) = l.contains g := by
  rw [List.contains_eq_any_beq]
theorem any_contains' (l : List Int) (g : Int) : l.any (· == g) = l.contains g := by
  rw [List.contains_eq_any_beq]
  congr 1
  funext x
  exact Bool.beq_comm
def idxM (l : List Int) (g : Int) : Int := bif l.any (g == ·) then (l.findIdx (g == ·) : Int) else -1
theorem idx_hit {α : Type} {l : List α} {p : α → Bool} {i : Nat} {x : α} (hx : l[i]? = some x) (hp : p x = true) (hb : ∀ j y, j < i → l[j]? = some y → p y = false) : l.findIdx p = i := by
  obtain ⟨hi, rfl⟩ := List.getElem?_eq_some_iff.1 hx
  rw [List.findIdx_eq hi]
  refine ⟨hp, fun j hj => ?_⟩
  have hj2 : j < l.length := by omega
  have := hb j l[j] hj (List.getElem?_eq_getElem hj2)
  simpa using this
def mintsM (c : Cl) : List Mi := c.n0.mints ++ c.n1.mints
def headM (c : Cl) (i : Int) : Int := bif i == 0 then c.n0.store.super.v.cur else c.n1.store.super.v.cur
def inL (l : List Mi) (old g : Int) : Bool := (lineM l g).contains old
def relM (c : Cl) : Int :=
  bif !c.n0.up || !c.n1.up then -1 else bif headM c 0 == headM c 1 then 0 else
  bif inL (mintsM c) (headM c 1) (headM c 0) then 1 else bif inL (mintsM c) (headM c 0) (headM c 1) then 2 else 3
def backM (c : Cl) (old g : Int) : Int := idxM (lineM (mintsM c) g) old
def startM (c d : Cl) : Int := bif d.n0.state == 4 && !(c.n0.state == 4) then 0 else bif d.n1.state == 4 && !(c.n1.state == 4) then 1 else -1
def superM (c : Cl) (i : Int) : Su := bif i == 0 then c.n0.store.super else c.n1.store.super
def fairM (c d : Cl) : Bool :=
  bif decide (startM c d < 0) then true else
  (c.n0.up && c.n1.up) && ((superM c (startM c d)).inc || (superM c (startM c d)).dis || inL (mintsM c) (headM c (startM c d)) (headM c (1 - startM c d)))
theorem idx_neg (l : List Int) (g : Int) : decide (idxM l g ≥ 0) = l.contains g := by
  unfold idxM
  rw [← any_contains]
  cases l.any (g == ·) with
  | true => simp
  | false => simp
end Go.Dm
