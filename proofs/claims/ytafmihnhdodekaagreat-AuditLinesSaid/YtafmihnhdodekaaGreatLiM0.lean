/-
  A part of the proofs over this seat: what its functions make of data, in plain terms (the file in which the theorems stand says what is proved).
-/
import Derived.KernelRfl
import Derived.Test.YtafmihnhdodekaaGreatLiC1
namespace Go.Dm
open Go
abbrev xc (x : G) (l : List G) : List G := x :: l
abbrev xg2 (x : G) (l : List G) : List G := x :: x :: l
abbrev xg3 (x : G) (l : List G) : List G := x :: x :: x :: l
abbrev xg4 (x : G) (l : List G) : List G := x :: x :: x :: x :: l
abbrev xg5 (x : G) (l : List G) : List G := x :: x :: x :: x :: x :: l
abbrev xg6 (x : G) (l : List G) : List G := x :: x :: x :: x :: x :: x :: l
abbrev xg7 (x : G) (l : List G) : List G := x :: x :: x :: x :: x :: x :: x :: l
abbrev xg8 (x : G) (l : List G) : List G := x :: x :: x :: x :: x :: x :: x :: x :: l
abbrev xg9 (x : G) (l : List G) : List G := x :: x :: x :: x :: x :: x :: x :: x :: x :: l
abbrev mC (x : G) (l : List G) : List G := x :: x :: x :: x :: x :: x :: x :: x :: x :: x :: l
abbrev gu (x : G) (l : List G) : List G := x :: x :: x :: x :: x :: x :: x :: x :: x :: x :: x :: l
abbrev bv (x : G) (l : List G) : List G := x :: x :: x :: x :: x :: x :: x :: x :: x :: x :: x :: x :: l
theorem xa2 {p q : Prop} (a : p) (b : q) : p ∧ p ∧ q := ⟨a, a, b⟩
theorem xa3 {p q : Prop} (a : p) (b : q) : p ∧ p ∧ p ∧ q := ⟨a, a, a, b⟩
theorem xa4 {p q : Prop} (a : p) (b : q) : p ∧ p ∧ p ∧ p ∧ q := ⟨a, a, a, a, b⟩
theorem xa5 {p q : Prop} (a : p) (b : q) : p ∧ p ∧ p ∧ p ∧ p ∧ q := ⟨a, a, a, a, a, b⟩
theorem xa6 {p q : Prop} (a : p) (b : q) : p ∧ p ∧ p ∧ p ∧ p ∧ p ∧ q := ⟨a, a, a, a, a, a, b⟩
theorem xa7 {p q : Prop} (a : p) (b : q) : p ∧ p ∧ p ∧ p ∧ p ∧ p ∧ p ∧ q := ⟨a, a, a, a, a, a, a, b⟩
theorem xa8 {p q : Prop} (a : p) (b : q) : p ∧ p ∧ p ∧ p ∧ p ∧ p ∧ p ∧ p ∧ q := ⟨a, a, a, a, a, a, a, a, b⟩
theorem xa9 {p q : Prop} (a : p) (b : q) : p ∧ p ∧ p ∧ p ∧ p ∧ p ∧ p ∧ p ∧ p ∧ q := ⟨a, a, a, a, a, a, a, a, a, b⟩
theorem Co {p q : Prop} (a : p) (b : q) : p ∧ p ∧ p ∧ p ∧ p ∧ p ∧ p ∧ p ∧ p ∧ p ∧ q := ⟨a, a, a, a, a, a, a, a, a, a, b⟩
theorem ud {p q : Prop} (a : p) (b : q) : p ∧ p ∧ p ∧ p ∧ p ∧ p ∧ p ∧ p ∧ p ∧ p ∧ p ∧ q := ⟨a, a, a, a, a, a, a, a, a, a, a, b⟩
theorem m6 {p q : Prop} (a : p) (b : q) : p ∧ p ∧ p ∧ p ∧ p ∧ p ∧ p ∧ p ∧ p ∧ p ∧ p ∧ p ∧ q := ⟨a, a, a, a, a, a, a, a, a, a, a, a, b⟩
theorem bft (b : Bool) : b = true ∨ b = false := Bool.eq_false_or_eq_true b
theorem cn {a b : Bool} (h : a = b) : not a = not b := congrArg not h
abbrev gT : G := .b true
abbrev gF : G := .b false
theorem vq : (∀ {α : Type} (a b : α), (bif true then a else b) = a) ∧ (∀ {α : Type} (a b : α), (bif false then a else b) = b) ∧ (∀ b, (true && b) = b) ∧ (∀ b, (false && b) = false) ∧ (∀ b, (true || b) = true) ∧ (∀ b, (false || b) = b) ∧ (!true) = false ∧ (!false) = true := ⟨fun _ _ => rfl, fun _ _ => rfl, fun _ => rfl, fun _ => rfl, fun _ => rfl, fun _ => rfl, rfl, rfl⟩
theorem vr : (∀ {α : Type} (p q : List α), (p ++ q).length = p.length + q.length) ∧ (∀ {α : Type} (a : α) (p : List α), (a :: p).length = p.length + 1) ∧ (∀ {α : Type}, ([] : List α).length = 0) ∧ (∀ {α : Type} (i : Nat) (l : List α), (l.drop i).length = l.length - i) ∧ (∀ {α : Type} (i : Nat) (l : List α), (l.take i).length = min i l.length) ∧ (∀ {α β : Type} (f : α → β) (p : List α), (p.map f).length = p.length) := ⟨fun _ _ => List.length_append, fun _ _ => List.length_cons, rfl, fun _ _ => List.length_drop, fun _ _ => List.length_take, fun f _ => List.length_map f⟩
theorem ro {P : Program} {gl : Nat → Option (List C)} {X : Tab} {H : FuncId → Nat → LoopHint} {n k : Nat} {g : FuncId} {fn : Func} {Q : Prop} {xs : List A} {gs : List G} {rs : List Res} (q : Q) (hg : P.funcs[g]? = some fn := by rfl) (hx : X g = none := by rfl)
    (h : (gFn ⟨P, ak P gl X H n k, gl, zD H, zu H⟩ (H g) n fn xs [] gs).map (fun r => (r.1, r.2.1, hH r.2.2)) = some (rs, [], Q) := by kernel_rfl) : ak P gl X H n (k + 1) g xs [] = some (rs, []) := zE hg hx q h
theorem rt {P : Program} {gl : Nat → Option (List C)} {X : Tab} {H : FuncId → Nat → LoopHint} {n k : Nat} {g : FuncId} {fn : Func} {Q : Prop} {xs : List A} {gs : List G} {rs : List Res} {r : Option (List Res × List (List C))} (q : Q) (e : some (rs, ([] : List (List C))) = r) (hg : P.funcs[g]? = some fn := by rfl) (hx : X g = none := by rfl)
    (h : (gFn ⟨P, ak P gl X H n k, gl, zD H, zu H⟩ (H g) n fn xs [] gs).map (fun r => (r.1, r.2.1, hH r.2.2)) = some (rs, [], Q) := by kernel_rfl) : ak P gl X H n (k + 1) g xs [] = r := (zE hg hx q h).trans e
end Go.Dm
namespace Go.Dm
open Go
abbrev mi (x : BitVec 32) : Int := (x.toNat : Int)
theorem ku (n : Nat) : IntKind.wrap .u32 (n : Int) = ((n % 4294967296 : Nat) : Int) := by
  unfold IntKind.wrap
  simp [IntKind.signed, IntKind.bits]
theorem jr (x : BitVec 32) : 0 ≤ mi x ∧ mi x < 4294967296 := by
  have := x.isLt
  simp only [mi]
  omega
theorem CO {x y : BitVec 32} (h : mi x = mi y) : x = y := by
  apply BitVec.eq_of_toNat_eq
  simp only [mi] at h
  omega
def inM (m : Int) (i : Nat) : Bool := (IntKind.wrap .u32 (m.tdiv (2 ^ i))).tmod 2 == 1
theorem CZ (x : BitVec 32) (i : Nat) : inM (mi x) i = x.getLsbD i := by
  unfold inM mi
  have e : ((x.toNat : Int)).tdiv (2 ^ i) = ((x.toNat / 2 ^ i : Nat) : Int) := by
    rw [Int.tdiv_eq_ediv_of_nonneg (by omega)]; simp
  rw [e, ku]
  have hl : x.toNat / 2 ^ i < 4294967296 := Nat.lt_of_le_of_lt (Nat.div_le_self _ _) x.isLt
  rw [Nat.mod_eq_of_lt hl, Int.tmod_eq_emod_of_nonneg (Int.natCast_nonneg _)]
  show _ = Nat.testBit x.toNat i
  rw [Nat.testBit_eq_decide_div_mod_eq, Bool.eq_iff_iff]
  generalize x.toNat / 2 ^ i = q
  simp only [beq_iff_eq, decide_eq_true_eq]
  omega
theorem xB {i : Nat} (h : i < 32) : (2 : Int) ^ i = mi (BitVec.twoPow 32 i) := by
  simp only [mi, BitVec.toNat_twoPow]
  rw [Nat.mod_eq_of_lt (Nat.pow_lt_pow_right (by omega) h)]
  simp
theorem vm {x : BitVec 32} {i : Nat} (h : i < 32) (hx : x.getLsbD i = false) : IntKind.wrap .u32 (mi x + 2 ^ i) = mi (x ||| BitVec.twoPow 32 i) := by
  rw [xB h]
  have e : x ||| BitVec.twoPow 32 i = x + BitVec.twoPow 32 i := by
    rw [BitVec.add_eq_or_of_and_eq_zero]
    apply BitVec.eq_of_getLsbD_eq
    intro j hj
    simp only [BitVec.getLsbD_and, BitVec.getLsbD_twoPow, hj, decide_true, Bool.true_and, BitVec.getLsbD_zero]
    by_cases hji : i = j
    · subst hji; simp [hx]
    · simp [hji]
  rw [e]
  simp only [mi]
  rw [← Int.natCast_add, ku, BitVec.toNat_add]
theorem AW {x : BitVec 32} {i : Nat} (h : i < 32) (hx : x.getLsbD i = true) : IntKind.wrap .u32 (mi x - 2 ^ i) = mi (x &&& ~~~BitVec.twoPow 32 i) := by
  have hb : (x &&& ~~~BitVec.twoPow 32 i).getLsbD i = false := by simp [h]
  have ha := vm h hb
  have e : (x &&& ~~~BitVec.twoPow 32 i) ||| BitVec.twoPow 32 i = x := by
    apply BitVec.eq_of_getLsbD_eq
    intro j hj
    simp only [BitVec.getLsbD_or, BitVec.getLsbD_and, BitVec.getLsbD_not, BitVec.getLsbD_twoPow, hj, decide_true, Bool.true_and]
    by_cases hji : i = j
    · subst hji; simp [hx]
    · simp [hji]
  rw [e] at ha
  rw [xB h] at ha ⊢
  have h1 := jr x
  have h2 := jr (x &&& ~~~BitVec.twoPow 32 i)
  have h3 := jr (BitVec.twoPow 32 i)
  have hle : mi (BitVec.twoPow 32 i) ≤ mi x := by
    simp only [mi, BitVec.toNat_twoPow]
    rw [Nat.mod_eq_of_lt (Nat.pow_lt_pow_right (by omega) h)]
    have : 2 ^ i ≤ x.toNat := Nat.ge_two_pow_of_testBit (by simpa [BitVec.getLsbD] using hx)
    omega
  have w1 : IntKind.wrap .u32 (mi x - mi (BitVec.twoPow 32 i)) = mi x - mi (BitVec.twoPow 32 i) := by
    unfold IntKind.wrap
    simp [IntKind.signed, IntKind.bits]
    omega
  rw [w1]
  unfold IntKind.wrap at ha
  simp [IntKind.signed, IntKind.bits] at ha
  omega
def vh (x : BitVec 32) : List Nat := (List.range 32).filter x.getLsbD
def Br (x : BitVec 32) (l : List Nat) : BitVec 32 := l.foldl (fun m i => m ||| BitVec.twoPow 32 i) x
theorem sQ : ∀ (l : List Nat) (x : BitVec 32) (j : Nat), j < 32 → (Br x l).getLsbD j = (x.getLsbD j || l.contains j)
  | [], x, j, _ => by simp [Br]
  | i :: l, x, j, hj => by
    have := sQ l (x ||| BitVec.twoPow 32 i) j hj
    unfold Br at this ⊢
    simp only [List.foldl_cons]
    rw [this]
    simp only [BitVec.getLsbD_or, BitVec.getLsbD_twoPow, List.contains_cons, hj, decide_true, Bool.true_and]
    rw [Bool.or_assoc]
    congr 2
    rw [Bool.eq_iff_iff]
    simp
    omega
theorem uh (x y : BitVec 32) : Br x (vh y) = x ||| y := by
  apply BitVec.eq_of_getLsbD_eq
  intro j hj
  rw [sQ _ _ _ hj, BitVec.getLsbD_or]
  congr 1
  unfold vh
  rw [Bool.eq_iff_iff]
  simp [hj]
abbrev is (l : List Int) : List (List C) := l.map eI
abbrev eW (x : BitVec 32) : List C := [w4 (mi x)]
abbrev ms (l : List (BitVec 32)) : List (List C) := l.map eW
theorem BZ (l : List Int) : (is l).length = l.length := by simp [is]
theorem ki {i : Nat} (h : i ≤ 31) : (2 : Int) ^ i ≤ 2147483648 ∧ 0 < (2 : Int) ^ i := by
  have h1 : (2 : Nat) ^ i ≤ 2 ^ 31 := Nat.pow_le_pow_right (by omega) h
  have h2 : 0 < (2 : Nat) ^ i := Nat.pow_pos (by omega)
  have e : ((2 ^ i : Nat) : Int) = (2 : Int) ^ i := by simp
  rw [← e]
  omega
def jh (x : BitVec 32) : List Int := (vh x).map fun (i : Nat) => (i : Int)
def lsI (x : BitVec 32) (n : Nat) : List Int := ((List.range n).filter x.getLsbD).map fun (i : Nat) => (i : Int)
theorem yK (x : BitVec 32) (n : Nat) : lsI x (n + 1) = if x.getLsbD n then lsI x n ++ [(n : Int)] else lsI x n := by
  unfold lsI
  rw [List.range_succ, List.filter_append]
  cases hb : x.getLsbD n <;> simp [hb]
theorem vC (x : BitVec 32) (n : Nat) : (lsI x n).length ≤ n := by
  unfold lsI
  rw [List.length_map]
  exact Nat.le_trans (List.length_filter_le _ _) (by simp)
theorem C5 (x : BitVec 32) : lsI x 32 = jh x := rfl
theorem xk (x : BitVec 32) : (jh x).length ≤ 32 := vC x 32
def inB (i : Int) : Bool := decide (0 ≤ i) && decide (i < 32)
def gM (x : BitVec 32) (i : Int) : Bool := inB i && x.getLsbD i.toNat
def mF (i : Int) : BitVec 32 := if inB i then BitVec.twoPow 32 i.toNat else 0#32
def uK (m : BitVec 32) (l : List Int) : BitVec 32 := l.foldl (fun m x => m ||| mF x) m
def mB (m : BitVec 32) (l : List Int) : BitVec 32 := l.foldl (fun m x => m &&& ~~~mF x) m
def orI (m : BitVec 32) (l : List (BitVec 32)) : BitVec 32 := l.foldl (fun m x => m ||| x) m
def zZ (B : Int) : BitVec 32 := if 1 ≤ B ∧ B ≤ 32 then BitVec.ofNat 32 (2 ^ B.toNat - 1) else 0#32
def d4 (x : BitVec 32) (B : Int) : Bool := decide (1 ≤ B) && decide (B ≤ 32) && (x &&& ~~~zZ B == 0#32)
def fQ (x : BitVec 32) (f : Int) : Option Int := (jh x).find? fun i => decide (f ≤ i)
theorem vO (x : BitVec 32) : ∀ (l : List Nat), (∀ i ∈ l, i < 32) → ∀ (m : BitVec 32), uK m (l.map fun (i : Nat) => (i : Int)) = Br m l
  | [], _, m => rfl
  | i :: l, h, m => by
    have hi := h i (by simp)
    have hb : mF (i : Int) = BitVec.twoPow 32 i := by
      unfold mF inB
      rw [decide_eq_true (by omega : (0 : Int) ≤ i), decide_eq_true (by omega : (i : Int) < 32)]
      simp
    have := vO x l (fun j hj => h j (by simp [hj])) (m ||| BitVec.twoPow 32 i)
    unfold uK Br at this ⊢
    simp only [List.map_cons, List.foldl_cons, hb]
    exact this
theorem tT (x y : BitVec 32) : uK x (jh y) = x ||| y := by
  rw [← uh x y]
  unfold jh
  refine vO x _ (fun i hi => ?_) _
  unfold vh at hi
  simp at hi
  exact hi.1
end Go.Dm
namespace Go.Dm
open Go
structure Wr where
  sec : Int
  data : ByteArray
  deriving Inhabited, DecidableEq
abbrev Wr.cs (w : Wr) : List C := [ii w.sec, st w.data]
structure Dk where
  sure : List ByteArray
  cache : List Wr
  fuse : Int
  dead : Bool
  deriving Inhabited, DecidableEq
abbrev Dk.cs (d : Dk) : List C := [.slice 1 (d.sure.map eS), .slice 2 (d.cache.map Wr.cs), ii d.fuse, bo d.dead]
structure Ve where
  cur : Int
  bit : Int
  o0 : Int
  o1 : Int
  deriving Inhabited, DecidableEq
abbrev Ve.cs (v : Ve) : List C := [u v.cur, u v.bit, u v.o0, u v.o1]
structure Su where
  blocks : Int
  v : Ve
  inc : Bool
  pri : Bool
  dis : Bool
  deriving Inhabited, DecidableEq
abbrev Su.cs (s : Su) : List C := [ii s.blocks, u s.v.cur, u s.v.bit, u s.v.o0, u s.v.o1, bo s.inc, bo s.pri, bo s.dis]
structure He where
  blocks : Int
  v : Ve
  inc : Bool
  was : Bool
  dis : Bool
  pri : Bool
  mask : BitVec 32
  deriving Inhabited, DecidableEq
abbrev He.cs (h : He) : List C := [ii h.blocks, u h.v.cur, u h.v.bit, u h.v.o0, u h.v.o1, bo h.inc, bo h.was, bo h.dis, bo h.pri, w4 (mi h.mask)]
structure Vd where
  kind : Int
  src : Int
  deriving Inhabited, DecidableEq
abbrev Vd.cs (v : Vd) : List C := [ii v.kind, ii v.src]
structure Mi where
  g : Int
  p : Int
  n : Int
  deriving Inhabited, DecidableEq
abbrev Mi.cs (m : Mi) : List C := [u m.g, u m.p, ii m.n]
structure Pk where
  kind : Int
  ses : Int
  hello : He
  block : Int
  data : ByteArray
  deriving Inhabited, DecidableEq
abbrev Pk.cs (p : Pk) : List C := [ii p.kind, u p.ses, ii p.hello.blocks, u p.hello.v.cur, u p.hello.v.bit, u p.hello.v.o0, u p.hello.v.o1, bo p.hello.inc, bo p.hello.was, bo p.hello.dis, bo p.hello.pri, w4 (mi p.hello.mask), ii p.block, st p.data]
structure Lk where
  up : Bool
  ses : Int
  to0 : List ByteArray
  to1 : List ByteArray
  deriving Inhabited, DecidableEq
abbrev Lk.cs (l : Lk) : List C := [bo l.up, u l.ses, .slice 1 (l.to0.map eS), .slice 1 (l.to1.map eS)]
structure So where
  disk : Dk
  super : Su
  mask : BitVec 32
  deriving Inhabited, DecidableEq
abbrev So.cs (s : So) : List C := [.slice 1 (s.disk.sure.map eS), .slice 2 (s.disk.cache.map Wr.cs), ii s.disk.fuse, bo s.disk.dead,
  ii s.super.blocks, u s.super.v.cur, u s.super.v.bit, u s.super.v.o0, u s.super.v.o1, bo s.super.inc, bo s.super.pri, bo s.super.dis, w4 (mi s.mask)]
structure Rq where
  on : Bool
  id : Int
  block : Int
  data : ByteArray
  deriving Inhabited, DecidableEq
abbrev Rq.cs (r : Rq) : List C := [bo r.on, ii r.id, ii r.block, st r.data]
structure Nd where
  id : Int
  up : Bool
  store : So
  primary : Bool
  state : Int
  ses : Int
  peer : He
  peerPri : Bool
  req : Rq
  asking : Bool
  askId : Int
  wanted : Int
  minted : Bool
  draws : List Int
  mints : List Mi
  deriving Inhabited, DecidableEq
abbrev Nd.cs (n : Nd) : List C := [ii n.id, bo n.up, .slice 1 (n.store.disk.sure.map eS), .slice 2 (n.store.disk.cache.map Wr.cs), ii n.store.disk.fuse, bo n.store.disk.dead,
  ii n.store.super.blocks, u n.store.super.v.cur, u n.store.super.v.bit, u n.store.super.v.o0, u n.store.super.v.o1, bo n.store.super.inc, bo n.store.super.pri, bo n.store.super.dis, w4 (mi n.store.mask),
  bo n.primary, ii n.state, u n.ses, ii n.peer.blocks, u n.peer.v.cur, u n.peer.v.bit, u n.peer.v.o0, u n.peer.v.o1, bo n.peer.inc, bo n.peer.was, bo n.peer.dis, bo n.peer.pri, w4 (mi n.peer.mask), bo n.peerPri,
  bo n.req.on, ii n.req.id, ii n.req.block, st n.req.data, bo n.asking, ii n.askId, ii n.wanted, bo n.minted, .slice 1 (n.draws.map eU), .slice 3 (n.mints.map Mi.cs)]
structure Ou where
  kind : Int
  node : Int
  id : Int
  err : Int
  data : ByteArray
  deriving Inhabited, DecidableEq
abbrev Ou.cs (o : Ou) : List C := [ii o.kind, ii o.node, ii o.id, ii o.err, st o.data]
structure Cl where
  n0 : Nd
  n1 : Nd
  link : Lk
  w0 : Bool
  w1 : Bool
  deriving Inhabited, DecidableEq
abbrev Cl.cs (c : Cl) : List C := c.n0.cs ++ (c.n1.cs ++ [bo c.link.up, u c.link.ses, .slice 1 (c.link.to0.map eS), .slice 1 (c.link.to1.map eS), bo c.w0, bo c.w1])
structure Evt where
  kind : Int
  node : Int
  id : Int
  block : Int
  data : ByteArray
  n : Int
  keeps : List Bool
  deriving Inhabited, DecidableEq
abbrev Evt.cs (e : Evt) : List C := [ii e.kind, ii e.node, ii e.id, ii e.block, st e.data, u e.n, .slice 1 (e.keeps.map eB)]
end Go.Dm
namespace Go.Dm
open Go
def uL : Nat → Int → ByteArray → ByteArray
  | 0, _, s => s
  | k + 1, n, s => uL k (IntKind.wrap .u64 (n.tdiv 256)) (ck [IntKind.wrap .u8 (n.tmod 256)] ++ s)
def dw (n : Int) : ByteArray := uL 8 n ⟨#[]⟩
def cI (n : Int) : ByteArray := uL 4 (IntKind.wrap .u64 n) ⟨#[]⟩
def cl (l : List UInt8) : Int := l.foldl (fun n b => IntKind.wrap .u64 (IntKind.wrap .u64 (n * 256) + IntKind.wrap .u64 (b.toNat : Int))) 0
def af (s : ByteArray) (i : Nat) : UInt8 := s[i]?.getD 0
def fl (b : Bool) (n : Int) : Int := bif b then n else 0
def nV (n : Int) (b : UInt8) : Int := (IntKind.wrap .u64 (Fn .u64 n (IntKind.wrap .u64 (b.toNat : Int)) * 16777619)).tmod 4294967296
def AV (s : ByteArray) : Int := IntKind.wrap .u32 (s.data.toList.foldl nV 2166136261)
def bG (s : ByteArray) : ByteArray := s ++ cI (AV s)
def ac (s : ByteArray) : ByteArray × Int :=
  bif decide ((s.size : Int) < 4) then (⟨#[]⟩, 2) else bif bG (s.extract 0 (s.size - 4)) == s then (s.extract 0 (s.size - 4), 0) else (⟨#[]⟩, 3)
theorem ax (ns : List Int) : (ck ns).size = ns.length := by
  have key : ∀ (l : List Int) (a : ByteArray), (l.foldl (fun r n => r.push (UInt8.ofNat n.toNat)) a).size = a.size + l.length := by
    intro l
    induction l with
    | nil => intro a; rfl
    | cons x l ih => intro a; rw [List.foldl_cons, ih, ByteArray.size_push, List.length_cons]; omega
  have := key ns ByteArray.empty
  simpa [ck] using this
theorem mz : ∀ (k : Nat) (n : Int) (s : ByteArray), (uL k n s).size = k + s.size
  | 0, n, s => by simp [uL]
  | k + 1, n, s => by
    rw [uL, mz k, ByteArray.size_append, ax]
    simp only [List.length_cons, List.length_nil]
    omega
theorem aU (a : Array UInt8) : (ByteArray.mk a).size = a.size := rfl
theorem aO : (⟨#[]⟩ : ByteArray).size = 0 := rfl
theorem aq (n : Int) : (dw n).size = 8 := by unfold dw; rw [mz, aO]
theorem aA (n : Int) : (cI n).size = 4 := by unfold cI; rw [mz, aO]
theorem aw (s : ByteArray) : (bG s).size = s.size + 4 := by unfold bG; rw [ByteArray.size_append, aA]
theorem fX (s : ByteArray) (i : Nat) : s[i]? = s.data.toList[i]? := by
  by_cases h : i < s.size
  · rw [getElem?_pos s i h]
    have h2 : i < s.data.toList.length := by simpa using h
    rw [List.getElem?_eq_getElem h2]
    simp
    rfl
  · rw [getElem?_neg s i h, List.getElem?_eq_none (by simpa using h)]
theorem sH (s : ByteArray) : s.data.toList.length = s.size := by simp
theorem DL {α : Type} {l : List α} (h : l.length = 8) : ∃ a b c d e f g i, l = [a, b, c, d, e, f, g, i] := by
  match l, h with
  | [a, b, c, d, e, f, g, i], _ => exact ⟨a, b, c, d, e, f, g, i, rfl⟩
theorem E8 {α : Type} {l : List α} (h : l.length = 4) : ∃ a b c d, l = [a, b, c, d] := by
  match l, h with
  | [a, b, c, d], _ => exact ⟨a, b, c, d, rfl⟩
theorem eZ {s : ByteArray} {i : Nat} (h : i < s.size) : s[i]? = some (af s i) := by
  unfold af
  rw [getElem?_pos s i h]
  rfl
def eA (d : Dk) (i : Int) : ByteArray := d.cache.foldl (fun s w => bif w.sec == i then w.data else s) (d.sure.getD i.toNat ⟨#[]⟩)
def aR (d : Dk) (i : Int) : ByteArray × Int :=
  bif d.dead then (⟨#[]⟩, 6) else bif decide (i < 0) || decide (i ≥ (d.sure.length : Int)) then (⟨#[]⟩, 4) else (eA d i, 0)
def bm (d : Dk) : Dk :=
  { d with dead := bif d.fuse == 1 then true else d.dead, fuse := bif decide (d.fuse > 0) then IntKind.wrap .i64 (d.fuse - 1) else d.fuse }
def bi (d : Dk) (i : Int) (data : ByteArray) : Dk × Int :=
  bif d.dead then (d, 6) else bif decide (i < 0) || decide (i ≥ (d.sure.length : Int)) then (d, 4) else bif decide ((data.size : Int) > 64) then (d, 5) else
  bif (bm d).dead then (bm d, 6) else ({ bm d with cache := (bm d).cache ++ [⟨i, data⟩] }, 0)
def l3 (d : Dk) : List ByteArray := (List.range d.sure.length).map fun (i : Nat) => eA d (i : Int)
def dL (d : Dk) : Dk × Int :=
  bif d.dead then (d, 6) else bif (bm d).dead then (bm d, 6) else
  ({ bm d with sure := l3 (bm d), cache := [] }, 0)
def Bm (d : Dk) (n : Int) : Dk := { d with fuse := if 0 > n then 0 else n }
def mU (d : Dk) : Dk := { d with dead := true, fuse := 0 }
def cL (d : Dk) (keeps : List Bool) : Dk :=
  ⟨(d.cache.zip keeps).foldl (fun s x => bif x.2 then s.set x.1.sec.toNat x.1.data else s) d.sure, [], 0, false⟩
def az (v : Ve) (g : Int) : Int := bif g == 0 then -1 else bif v.cur == g then 0 else bif v.bit == g then 1 else bif v.o0 == g then 2 else bif v.o1 == g then 3 else -1
def eo (v : Ve) (g : Int) : Ve := bif v.bit == 0 then ⟨g, v.cur, v.o0, v.o1⟩ else ⟨g, v.bit, v.cur, v.o0⟩
def bu (v : Ve) : Ve := bif v.bit == 0 then v else ⟨v.cur, 0, v.bit, v.o0⟩
def mE (v : Ve) (g : Int) : Ve := { v with bit := g }
def ce (s : Su) : Bool := decide (s.blocks ≥ 1) && decide (s.blocks ≤ 32) && !(s.v.cur == 0)
def cH (s : Su) : ByteArray := (((((⟨#[71, 77, 1]⟩ ++ ck [IntKind.wrap .u8 s.blocks, fl s.inc 1 + fl s.pri 2 + fl s.dis 4]) ++ dw s.v.cur) ++ dw s.v.bit) ++ dw s.v.o0) ++ dw s.v.o1)
theorem an (s : Su) : (cH s).size = 37 := by
  unfold cH
  simp only [ByteArray.size_append, ax, aq, List.length_cons, List.length_nil]
  rfl
def bd (s : Su) : ByteArray × Int := bif !ce s then (⟨#[]⟩, 1) else (bG (cH s), 0)
def su0 : Su := ⟨0, ⟨0, 0, 0, 0⟩, false, false, false⟩
def a9 (t : ByteArray) (at' : Nat) : Int := cl (t.extract at' (at' + 8)).data.toList
def aK (b : UInt8) (i : Nat) : Bool := ((b.toNat / 2 ^ i) % 2 == 1)
def zt (t : ByteArray) : Su := ⟨IntKind.wrap .i64 ((af t 3).toNat : Int), ⟨a9 t 5, a9 t 13, a9 t 21, a9 t 29⟩, aK (af t 4) 0, aK (af t 4) 1, aK (af t 4) 2⟩
def cp (b : ByteArray) : Su × Int :=
  bif !((ac b).2 == 0) then (su0, (ac b).2) else
  bif !(((ac b).1.size : Int) == 37) || decide (((af (ac b).1 4).toNat : Int) > 7) then (su0, 2) else
  bif !ce (zt (ac b).1) || !(cH (zt (ac b).1) == (ac b).1) then (su0, 2) else (zt (ac b).1, 0)
def kY (d : Dk) (s : Su) : Bool := IntKind.wrap .i64 ((d.sure.length : Int) - 2) == s.blocks
def eT (d : Dk) : Su × Int :=
  bif !((aR d 0).2 == 0) then (su0, (aR d 0).2) else bif !((cp (aR d 0).1).2 == 0) then (su0, (cp (aR d 0).1).2) else
  bif !kY d (cp (aR d 0).1).1 then (su0, 2) else ((cp (aR d 0).1).1, 0)
def cd (d : Dk) (s : Su) : Dk × Int :=
  bif !((bd s).2 == 0) || !kY d s then (d, 1) else
  bif !((bi d 0 (bd s).1).2 == 0) then bi d 0 (bd s).1 else dL (bi d 0 (bd s).1).1
def d3 (d : Dk) : BitVec 32 × Int :=
  bif !((aR d 1).2 == 0) then (0#32, (aR d 1).2) else bif !((ac (aR d 1).1).2 == 0) then (0#32, (ac (aR d 1).1).2) else
  bif !(((ac (aR d 1).1).1.size : Int) == 4) then (0#32, 2) else
  bif !d4 (BitVec.ofInt 32 (cl (ac (aR d 1).1).1.data.toList)) (IntKind.wrap .i64 ((d.sure.length : Int) - 2)) then (0#32, 2) else (BitVec.ofInt 32 (cl (ac (aR d 1).1).1.data.toList), 0)
def cV (d : Dk) (m : BitVec 32) : Dk × Int :=
  bif !d4 m (IntKind.wrap .i64 ((d.sure.length : Int) - 2)) then (d, 1) else bi d 1 (bG (cI (mi m)))
def fu (d : Dk) (m : BitVec 32) : Dk × Int :=
  bif !((cV d m).2 == 0) then cV d m else dL (cV d m).1
def et (d : Dk) (i : Int) : Bool := decide (i ≥ 0) && decide (i < IntKind.wrap .i64 ((d.sure.length : Int) - 2))
def bj (d : Dk) (i : Int) : ByteArray × Int :=
  bif !et d i then (⟨#[]⟩, 4) else bif !((aR d (IntKind.wrap .i64 (i + 2))).2 == 0) then (⟨#[]⟩, (aR d (IntKind.wrap .i64 (i + 2))).2) else
  bif !(((aR d (IntKind.wrap .i64 (i + 2))).1.size : Int) == 8) then (⟨#[]⟩, 2) else ((aR d (IntKind.wrap .i64 (i + 2))).1, 0)
def gN (d : Dk) (i : Int) (data : ByteArray) : Dk × Int :=
  bif !et d i then (d, 4) else bif !((data.size : Int) == 8) then (d, 5) else
  bif !((bi d (IntKind.wrap .i64 (i + 2)) data).2 == 0) then bi d (IntKind.wrap .i64 (i + 2)) data else dL (bi d (IntKind.wrap .i64 (i + 2)) data).1
def qK (d : Dk) : List ByteArray × Int :=
  match (List.range (d.sure.length - 2)).find? (fun (i : Nat) => !((bj d (i : Int)).2 == 0)) with
  | some i => ([], (bj d (i : Int)).2)
  | none => ((List.range (d.sure.length - 2)).map fun (i : Nat) => (bj d (i : Int)).1, 0)
def Bz (s : Su) (pri : Bool) (m : BitVec 32) : He := ⟨s.blocks, s.v, s.inc, s.pri && !pri, s.dis, pri, m⟩
def bK (h : He) : Bool := decide (h.blocks ≥ 1) && decide (h.blocks ≤ 32) && !(h.v.cur == 0) && d4 h.mask h.blocks && !(h.pri && h.was) && !(h.pri && h.inc)
def fM (h : He) : ByteArray := (((((ck [IntKind.wrap .u8 h.blocks, fl h.inc 1 + fl h.was 2 + fl h.dis 4 + fl h.pri 8] ++ dw h.v.cur) ++ dw h.v.bit) ++ dw h.v.o0) ++ dw h.v.o1) ++ cI (mi h.mask))
theorem al (h : He) : (fM h).size = 38 := by
  unfold fM
  simp only [ByteArray.size_append, ax, aq, aA, List.length_cons, List.length_nil]
def fh (h : He) : ByteArray × Int := bif !bK h then (⟨#[]⟩, 1) else (fM h, 0)
def he0 : He := ⟨0, ⟨0, 0, 0, 0⟩, false, false, false, false, 0#32⟩
def Df (b : ByteArray) : He := ⟨IntKind.wrap .i64 ((af b 0).toNat : Int), ⟨a9 b 2, a9 b 10, a9 b 18, a9 b 26⟩, aK (af b 1) 0, aK (af b 1) 1, aK (af b 1) 2, aK (af b 1) 3, BitVec.ofInt 32 (cl (b.extract 34 b.size).data.toList)⟩
def cY (b : ByteArray) : He × Int :=
  bif !((b.size : Int) == 38) || decide (((af b 1).toNat : Int) > 15) then (he0, 2) else bif !bK (Df b) then (he0, 2) else (Df b, 0)
end Go.Dm
namespace Go.Dm
open Go
def ar : Vd := ⟨4, -1⟩
def aB (kind src : Int) (t : He) : Vd := bif t.pri || kind == 4 then ar else ⟨kind, src⟩
def cD (s t : He) : Int :=
  bif s.dis then 4 else bif decide (az s.v t.v.bit ≥ 0) then 2 else bif t.dis then 3 else
  bif decide (az s.v t.v.cur < 0) then 4 else bif decide (az s.v t.v.cur ≤ 1) then 2 else 3
def cJ (p : Int) : Int := bif p == 0 then 4 else bif p == 1 then 2 else 3
def aj (x y : He) : Vd :=
  bif !(x.blocks == y.blocks) || x.pri && y.pri || x.inc && y.inc || x.dis && y.dis then ar else
  bif x.inc then aB (cD y x) 1 x else bif y.inc then aB (cD x y) 0 y else
  bif x.dis then aB 3 1 x else bif y.dis then aB 3 0 y else
  bif x.v.cur == y.v.cur then
    (bif mi x.mask == 0 && mi y.mask == 0 then ⟨1, -1⟩ else bif y.pri || !x.pri && y.was && !x.was then aB 2 1 x else aB 2 0 y) else
  bif decide (az x.v y.v.cur > 0) && decide (az y.v x.v.cur < 0) then aB (cJ (az x.v y.v.cur)) 0 y else
  bif decide (az y.v x.v.cur > 0) && decide (az x.v y.v.cur < 0) then aB (cJ (az y.v x.v.cur)) 1 x else ar
def qy (v : Vd) (x y : He) : BitVec 32 := bif v.kind == 2 then x.mask ||| y.mask else bif v.kind == 3 then zZ x.blocks else 0#32
def aP (k : Int) : Bool := decide (k ≥ 2) && decide (k ≤ 7)
def cK (k : Int) : Bool := k == 2 || k == 6
def dz (h : He) : Bool := (h.blocks == 0 && ((h.v.cur == 0 && (h.v.bit == 0 && ((h.v.o0 == 0 && (h.v.o1 == 0 && true)) && true))) && (h.inc == false && (h.was == false && (h.dis == false && (h.pri == false && (mi h.mask == 0 && true)))))))
theorem tN (h : He) : dz h = true ↔ h = he0 := by
  obtain ⟨b, ⟨c, d, e, f⟩, g, i, j, k, m⟩ := h
  have hm : ((m.toNat : Int) = 0) ↔ m = 0#32 := by
    constructor
    · intro h; apply BitVec.eq_of_toNat_eq; simp; omega
    · rintro rfl; rfl
  have hm2 : m.toNat = 0 ↔ m = 0#32 := by rw [← hm]; omega
  simp [dz, he0, hm2]
def bg (p : Pk) : Bool :=
  bif decide (p.kind < 1) || decide (p.kind > 13) then false else
  bif p.kind == 1 && !bK p.hello || !(p.kind == 1) && !dz p.hello then false else
  bif decide (p.block < 0) || decide (p.block > 31) || !aP p.kind && !(p.block == 0) then false else
  bif cK p.kind then (p.data.size : Int) == 8 else p.data == ⟨#[]⟩
def iE (p : Pk) : ByteArray :=
  bif aP p.kind then
    (bif p.kind == 1 then (ck [IntKind.wrap .u8 p.kind] ++ dw p.ses) ++ (fh p.hello).1 else ck [IntKind.wrap .u8 p.kind] ++ dw p.ses) ++ ck [IntKind.wrap .u8 p.block]
  else bif p.kind == 1 then (ck [IntKind.wrap .u8 p.kind] ++ dw p.ses) ++ (fh p.hello).1 else ck [IntKind.wrap .u8 p.kind] ++ dw p.ses
theorem kk (h : He) : (fh h).1.size ≤ 38 := by
  unfold fh
  cases bK h with
  | false => exact Nat.zero_le _
  | true => exact Nat.le_of_eq (al h)
def bH (p : Pk) : ByteArray := iE p ++ p.data
def dQ (p : Pk) : ByteArray × Int := bif !bg p then (⟨#[]⟩, 1) else (bG (bH p), 0)
def pk0 : Pk := ⟨0, 0, he0, 0, ⟨#[]⟩⟩
abbrev jc (t : ByteArray) : Int := IntKind.wrap .i64 ((af t 0).toNat : Int)
abbrev kv (t : ByteArray) : ByteArray := t.extract 9 t.size
def od (t : ByteArray) : Bool := decide (((kv t).size : Int) > 0)
def mI (t : ByteArray) : Pk :=
  bif jc t == 1 then ⟨jc t, cl (t.extract 1 9).data.toList, (cY (kv t)).1, 0, ⟨#[]⟩⟩ else
  bif aP (jc t) && od t then ⟨jc t, cl (t.extract 1 9).data.toList, he0, IntKind.wrap .i64 ((af (kv t) 0).toNat : Int), (kv t).extract 1 (kv t).size⟩
  else ⟨jc t, cl (t.extract 1 9).data.toList, he0, 0, kv t⟩
def eG (t : ByteArray) : Pk × Int :=
  bif decide ((t.size : Int) < 9) then (pk0, 2) else
  bif jc t == 1 && !((cY (kv t)).2 == 0) then (pk0, 2) else
  bif !bg (mI t) || !(bH (mI t) == t) then (pk0, 2) else (mI t, 0)
def bB (b : ByteArray) : Pk × Int :=
  bif !((ac b).2 == 0) then (pk0, (ac b).2) else eG (ac b).1
def ap (b : ByteArray) (ses : Int) : Pk × Int :=
  bif !((bB b).2 == 0) then (pk0, (bB b).2) else bif !((bB b).1.ses == ses) then (pk0, 16) else ((bB b).1, 0)
def ch (l : Lk) : Lk := ⟨true, IntKind.wrap .u64 (l.ses + 1), [], []⟩
def aT (l : Lk) : Lk := ⟨false, l.ses, [], []⟩
def bU (l : Lk) (to : Int) (ps : List ByteArray) : Lk × Int :=
  bif !(to == 0) && !(to == 1) then (l, 1) else bif !l.up then (l, 7) else
  bif to == 0 then ({ l with to0 := l.to0 ++ ps }, 0) else ({ l with to1 := l.to1 ++ ps }, 0)
def df (l : Lk) (to : Int) : ByteArray × Lk × Bool :=
  bif to == 0 then (match l.to0 with | [] => (⟨#[]⟩, l, false) | x :: r => (x, { l with to0 := r }, true)) else
  bif to == 1 then (match l.to1 with | [] => (⟨#[]⟩, l, false) | x :: r => (x, { l with to1 := r }, true)) else (⟨#[]⟩, l, false)
end Go.Dm
namespace Go.Dm
open Go
theorem gA (d : Dk) (i : Int) (x : ByteArray) : (bi d i x).1.sure = d.sure := by
  unfold bi
  cases d.dead <;> cases (decide (i < 0) || decide (i ≥ (d.sure.length : Int))) <;> cases decide ((x.size : Int) > 64) <;> cases h : (bm d).dead <;> simp [bm]
theorem en (d : Dk) (i : Int) (x : ByteArray) : (bi d i x).1.cache.length ≤ d.cache.length + 1 := by
  unfold bi
  cases d.dead <;> cases (decide (i < 0) || decide (i ≥ (d.sure.length : Int))) <;> cases decide ((x.size : Int) > 64) <;> cases h : (bm d).dead <;> simp [bm]
theorem qw (d : Dk) (m : BitVec 32) : (cV d m).1.sure = d.sure := by
  unfold cV
  cases d4 m (IntKind.wrap .i64 ((d.sure.length : Int) - 2)) with
  | false => rfl
  | true => exact gA _ _ _
theorem nN (d : Dk) (m : BitVec 32) : (cV d m).1.cache.length ≤ d.cache.length + 1 := by
  unfold cV
  cases d4 m (IntKind.wrap .i64 ((d.sure.length : Int) - 2)) with
  | false => exact Nat.le_succ _
  | true => exact en _ _ _
def A7 (a b : Su) : Bool := (a.blocks == b.blocks && ((a.v.cur == b.v.cur && (a.v.bit == b.v.bit && ((a.v.o0 == b.v.o0 && (a.v.o1 == b.v.o1 && true)) && true))) && (a.inc == b.inc && (a.pri == b.pri && (a.dis == b.dis && true)))))
theorem yj (a b : Su) : A7 a b = true ↔ a = b := by
  obtain ⟨a1, ⟨a2, a3, a4, a5⟩, a6, a7, a8⟩ := a
  obtain ⟨b1, ⟨b2, b3, b4, b5⟩, b6, b7, b8⟩ := b
  simp [A7, and_assoc]
def so0 : So := ⟨⟨[], [], 0, false⟩, su0, 0#32⟩
def bE (d : Dk) : So × Int :=
  bif !((eT d).2 == 0) then (so0, (eT d).2) else bif !((d3 d).2 == 0) then (so0, (d3 d).2) else
  bif !((qK d).2 == 0) then (so0, (qK d).2) else (⟨d, (eT d).1, (d3 d).1⟩, 0)
def bZ (s : So) (b : Su) : So × Int :=
  bif A7 b s.super then (s, 0) else
  bif (cd s.disk b).2 == 0 then (⟨(cd s.disk b).1, b, s.mask⟩, (cd s.disk b).2) else (⟨(cd s.disk b).1, s.super, s.mask⟩, (cd s.disk b).2)
def g9 (s : So) (m : BitVec 32) : So × Int :=
  bif mi m == mi s.mask then (s, 0) else
  bif (fu s.disk m).2 == 0 then (⟨(fu s.disk m).1, s.super, m⟩, (fu s.disk m).2) else (⟨(fu s.disk m).1, s.super, s.mask⟩, (fu s.disk m).2)
def xv (s : So) (i : Int) : Bool := decide (i < 0) || decide (i ≥ s.super.blocks)
def fw (s : So) (i : Int) : So × Int := bif xv s i then (s, 4) else g9 s (uK s.mask [i])
def dF (s : So) (i : Int) : So × Int :=
  bif xv s i then (s, 4) else bif mi (mB s.mask [i]) == mi s.mask then (s, 0) else
  bif (cV s.disk (mB s.mask [i])).2 == 0 then (⟨(cV s.disk (mB s.mask [i])).1, s.super, mB s.mask [i]⟩, (cV s.disk (mB s.mask [i])).2)
  else (⟨(cV s.disk (mB s.mask [i])).1, s.super, s.mask⟩, (cV s.disk (mB s.mask [i])).2)
def eq (s : So) (m : BitVec 32) : So × Int := g9 s (s.mask ||| m)
def dB (s : So) (i : Int) (data : ByteArray) : So × Int := (⟨(gN s.disk i data).1, s.super, s.mask⟩, (gN s.disk i data).2)
end Go.Dm
namespace Go.Dm
open Go
def rq0 : Rq := ⟨false, 0, 0, ⟨#[]⟩⟩
def dv (n : Nd) : Nd := ⟨n.id, false, ⟨mU n.store.disk, su0, 0#32⟩, false, 0, 0, he0, false, rq0, false, 0, 0, false, n.draws, n.mints⟩
def ag (n : Nd) (id e : Int) (data : ByteArray) : Ou := ⟨2, n.id, id, e, data⟩
def aQ (n : Nd) (p : Pk) : Ou := ⟨1, n.id, 0, 0, (dQ { p with ses := n.ses }).1⟩
def ae (n : Nd) (b : Su) : Nd × Bool :=
  bif !((bZ n.store b).2 == 0) then (dv { n with store := (bZ n.store b).1 }, false) else ({ n with store := (bZ n.store b).1 }, true)
def eD (n : Nd) : Bool := n.state == 2 || n.state == 3
def pkk (kind : Int) : Pk := ⟨kind, 0, he0, 0, ⟨#[]⟩⟩
def cb (n : Nd) (id : Int) : Nd × List Ou :=
  bif !n.up then (n, [ag n id 7 ⟨#[]⟩]) else bif n.primary then (n, [ag n id 8 ⟨#[]⟩]) else
  bif n.store.super.inc then (n, [ag n id 9 ⟨#[]⟩]) else bif n.store.super.dis then (n, [ag n id 10 ⟨#[]⟩]) else
  bif n.state == 1 || n.state == 4 || n.asking then (n, [ag n id 11 ⟨#[]⟩]) else bif n.peerPri then (n, [ag n id 12 ⟨#[]⟩]) else
  bif eD n then ({ n with asking := true, askId := id }, [aQ { n with asking := true, askId := id } (pkk 10)]) else
  bif !(ae n { n.store.super with pri := true }).2 then ((ae n { n.store.super with pri := true }).1, []) else
  ({ (ae n { n.store.super with pri := true }).1 with primary := true }, [ag { (ae n { n.store.super with pri := true }).1 with primary := true } id 0 ⟨#[]⟩])
def dj (n : Nd) (id : Int) : Nd × List Ou :=
  bif !n.up then (n, [ag n id 7 ⟨#[]⟩]) else bif !n.primary then (n, [ag n id 8 ⟨#[]⟩]) else
  bif n.req.on || n.state == 1 then (n, [ag n id 11 ⟨#[]⟩]) else
  bif !(ae n { n.store.super with pri := false }).2 then ((ae n { n.store.super with pri := false }).1, []) else
  bif eD { (ae n { n.store.super with pri := false }).1 with primary := false } then
    ({ (ae n { n.store.super with pri := false }).1 with primary := false }, [aQ { (ae n { n.store.super with pri := false }).1 with primary := false } (pkk 13), ag { (ae n { n.store.super with pri := false }).1 with primary := false } id 0 ⟨#[]⟩]) else
    ({ (ae n { n.store.super with pri := false }).1 with primary := false }, [ag { (ae n { n.store.super with pri := false }).1 with primary := false } id 0 ⟨#[]⟩])
def cQ (n : Nd) (id : Int) : Nd × List Ou :=
  bif !n.up then (n, [ag n id 7 ⟨#[]⟩]) else bif n.primary then (n, [ag n id 8 ⟨#[]⟩]) else bif !(n.state == 0) then (n, [ag n id 11 ⟨#[]⟩]) else
  bif !(ae n { n.store.super with dis := true }).2 then ((ae n { n.store.super with dis := true }).1, []) else
  ((ae n { n.store.super with dis := true }).1, [ag (ae n { n.store.super with dis := true }).1 id 0 ⟨#[]⟩])
def fU (n : Nd) (id block : Int) : Nd × List Ou :=
  bif !n.up then (n, [ag n id 7 ⟨#[]⟩]) else bif !n.primary then (n, [ag n id 8 ⟨#[]⟩]) else
  (n, [ag n id (bj n.store.disk block).2 (bj n.store.disk block).1])
def dI (n : Nd) (s : So) (e : Int) : Nd × Bool := bif !(e == 0) then (dv { n with store := s }, false) else ({ n with store := s }, true)
end Go.Dm
namespace Go.Dm
open Go
theorem av {α : Type} {p : α → Prop} {b : Bool} {x y : α} (hx : p x) (hy : p y) : p (bif b then x else y) := by
  cases b
  · exact hy
  · exact hx
def Fit (d e : Dk) : Prop := e.sure.length = d.sure.length ∧ e.cache.length ≤ d.cache.length + 1
theorem Fit.refl (d : Dk) : Fit d d := ⟨rfl, Nat.le_succ _⟩
theorem iz (d : Dk) (i : Int) (x : ByteArray) : Fit d (bi d i x).1 := ⟨by rw [gA], en d i x⟩
theorem lE (d e : Dk) (h : Fit d e) : Fit d (dL e).1 := by
  unfold dL
  refine av (p := fun (x : Dk × Int) => Fit d x.1) h (av (p := fun (x : Dk × Int) => Fit d x.1) h ?_)
  exact ⟨by simp [l3, bm, h.1], Nat.zero_le _⟩
theorem lM (d : Dk) (s : Su) : Fit d (cd d s).1 := by
  unfold cd
  exact av (p := fun (x : Dk × Int) => Fit d x.1) (Fit.refl d) (av (p := fun (x : Dk × Int) => Fit d x.1) (iz _ _ _) (lE _ _ (iz _ _ _)))
theorem lh (d : Dk) (m : BitVec 32) : Fit d (cV d m).1 := ⟨by rw [qw], nN d m⟩
theorem pU (d : Dk) (m : BitVec 32) : Fit d (fu d m).1 := by
  unfold fu
  exact av (p := fun (x : Dk × Int) => Fit d x.1) (lh _ _) (lE _ _ (lh _ _))
theorem y6 (d : Dk) (i : Int) (x : ByteArray) : Fit d (gN d i x).1 := by
  unfold gN
  exact av (p := fun (x : Dk × Int) => Fit d x.1) (Fit.refl d) (av (p := fun (x : Dk × Int) => Fit d x.1) (Fit.refl d) (av (p := fun (x : Dk × Int) => Fit d x.1) (iz _ _ _) (lE _ _ (iz _ _ _))))
theorem mw (s : So) (b : Su) : Fit s.disk (bZ s b).1.disk := by
  unfold bZ
  exact av (p := fun (x : So × Int) => Fit s.disk x.1.disk) (Fit.refl _) (av (p := fun (x : So × Int) => Fit s.disk x.1.disk) (lM _ _) (lM _ _))
theorem pJ (s : So) (m : BitVec 32) : Fit s.disk (g9 s m).1.disk := by
  unfold g9
  exact av (p := fun (x : So × Int) => Fit s.disk x.1.disk) (Fit.refl _) (av (p := fun (x : So × Int) => Fit s.disk x.1.disk) (pU _ _) (pU _ _))
theorem w7 (s : So) (i : Int) : Fit s.disk (fw s i).1.disk := by
  unfold fw
  exact av (p := fun (x : So × Int) => Fit s.disk x.1.disk) (Fit.refl _) (pJ _ _)
theorem wj (s : So) (i : Int) : Fit s.disk (dF s i).1.disk := by
  unfold dF
  exact av (p := fun (x : So × Int) => Fit s.disk x.1.disk) (Fit.refl _) (av (p := fun (x : So × Int) => Fit s.disk x.1.disk) (Fit.refl _) (av (p := fun (x : So × Int) => Fit s.disk x.1.disk) (lh _ _) (lh _ _)))
theorem wT (s : So) (m : BitVec 32) : Fit s.disk (eq s m).1.disk := pJ _ _
theorem uR (s : So) (i : Int) (x : ByteArray) : Fit s.disk (dB s i x).1.disk := y6 _ _ _
theorem tU (n : Nd) (s : So) (e : Int) : (dI n s e).1.store.disk.sure = s.disk.sure := by
  unfold dI
  exact av (p := fun (x : Nd × Bool) => x.1.store.disk.sure = s.disk.sure) rfl rfl
theorem qM (n : Nd) (s : So) (e : Int) : (dI n s e).1.store.disk.cache = s.disk.cache := by
  unfold dI
  exact av (p := fun (x : Nd × Bool) => x.1.store.disk.cache = s.disk.cache) rfl rfl
def pkb (kind block : Int) : Pk := ⟨kind, 0, he0, block, ⟨#[]⟩⟩
def pkd (kind block : Int) (x : ByteArray) : Pk := ⟨kind, 0, he0, block, x⟩
def dh (n : Nd) (block : Int) : Nd × Bool := dI n (fw n.store block).1 (fw n.store block).2
def dq (n : Nd) (block : Int) (x : ByteArray) : Nd × Bool :=
  bif !(dh n block).2 then ((dh n block).1, false) else
  dI (dh n block).1 (dB (dh n block).1.store block x).1 (dB (dh n block).1.store block x).2
def aG (n : Nd) (block : Int) : Nd × Bool := dI n (dF n.store block).1 (dF n.store block).2
def eH (n : Nd) (block : Int) : Nd × List Ou :=
  bif !n.req.on || !(n.req.block == block) then (n, []) else
  bif !(aG { n with req := rq0 } block).2 then ((aG { n with req := rq0 } block).1, [ag n n.req.id 0 ⟨#[]⟩]) else
  ((aG { n with req := rq0 } block).1, [ag n n.req.id 0 ⟨#[]⟩, aQ (aG { n with req := rq0 } block).1 (pkb 4 block)])
def fH (n : Nd) (block : Int) (x : ByteArray) : Nd × List Ou :=
  bif !(dq n block x).2 then ((dq n block x).1, []) else ((dq n block x).1, [aQ (dq n block x).1 (pkb 3 block)])
def ft (n : Nd) (block : Int) : Nd := bif n.req.on && n.req.block == block then n else (aG n block).1
def wg (n : Nd) (block : Int) : List Ou := [aQ n (pkd 6 block (bj n.store.disk block).1)]
def dA (n : Nd) : Su := { n.store.super with v := bu n.store.super.v, pri := n.primary }
def fE (n : Nd) : Nd × List Ou :=
  bif !(ae n (dA n)).2 then ((ae n (dA n)).1, []) else
  ({ (ae n (dA n)).1 with state := 2 }, [aQ { (ae n (dA n)).1 with state := 2 } (pkk 9)])
def e9 (n : Nd) : He := Bz n.store.super n.primary n.store.mask
def fF (n : Nd) (ses : Int) : Nd := { n with state := 1, ses := ses, minted := false }
def ca (n : Nd) (ses : Int) : Nd × List Ou := (fF n ses, [aQ (fF n ses) ⟨1, 0, e9 (fF n ses), 0, ⟨#[]⟩⟩])
def aW (n : Nd) (h : He) : Vd × BitVec 32 :=
  bif n.id == 1 then (aj h (e9 n), qy (aj h (e9 n)) h (e9 n)) else (aj (e9 n) h, qy (aj (e9 n) h) (e9 n) h)
end Go.Dm
namespace Go.Dm
open Go
abbrev Nd.csd (n : Nd) (ds : List (List C)) : List C := [ii n.id, bo n.up, .slice 1 (n.store.disk.sure.map eS), .slice 2 (n.store.disk.cache.map Wr.cs), ii n.store.disk.fuse, bo n.store.disk.dead,
  ii n.store.super.blocks, u n.store.super.v.cur, u n.store.super.v.bit, u n.store.super.v.o0, u n.store.super.v.o1, bo n.store.super.inc, bo n.store.super.pri, bo n.store.super.dis, w4 (mi n.store.mask),
  bo n.primary, ii n.state, u n.ses, ii n.peer.blocks, u n.peer.v.cur, u n.peer.v.bit, u n.peer.v.o0, u n.peer.v.o1, bo n.peer.inc, bo n.peer.was, bo n.peer.dis, bo n.peer.pri, w4 (mi n.peer.mask), bo n.peerPri,
  bo n.req.on, ii n.req.id, ii n.req.block, st n.req.data, bo n.asking, ii n.askId, ii n.wanted, bo n.minted, .slice 1 ds, .slice 3 (n.mints.map Mi.cs)]
def zl (n : Nd) (r : List Int) : Nd := { n with draws := r }
def kV (n : Nd) (g : Int) (r : List Int) : Nd := { n with draws := r, mints := n.mints ++ [⟨g, n.store.super.v.cur, n.id⟩] }
def ly (n : Nd) (g : Int) : Su := { n.store.super with v := eo n.store.super.v g }
def f9 (n : Nd) (g : Int) (r : List Int) : Nd × Int :=
  bif g == 0 then (zl n r, 14) else
  bif !(ae (kV n g r) (ly n g)).2 then ((ae (kV n g r) (ly n g)).1, 6) else ({ (ae (kV n g r) (ly n g)).1 with minted := true }, 0)
def aH (n : Nd) : Nd × Int := match n.draws with
  | [] => (n, 14)
  | g :: r => f9 n g r
def eK (n : Nd) : List Ou := bif n.asking then [ag n n.askId 13 ⟨#[]⟩] else []
def gg (n : Nd) : Nd := ⟨n.id, n.up, n.store, n.primary, 0, 0, he0, false, rq0, false, 0, 0, false, n.draws, n.mints⟩
def ai (n : Nd) : Nd × List Ou :=
  bif n.state == 0 then (n, []) else bif !n.req.on then (gg n, eK n) else
  bif (aH (gg n)).2 == 6 then ((aH (gg n)).1, eK n) else
  ((aH (gg n)).1, eK n ++ [ag (aH (gg n)).1 n.req.id (aH (gg n)).2 ⟨#[]⟩])
def bQ (n : Nd) (block : Int) (x : ByteArray) : Int :=
  bif !n.up then 7 else bif !n.primary then 8 else bif decide (block < 0) || decide (block ≥ n.store.super.blocks) then 4 else
  bif !((x.size : Int) == 8) then 5 else bif n.req.on || n.state == 1 then 11 else 0
def co (n : Nd) (id block : Int) (x : ByteArray) : Nd × List Ou :=
  bif !(dq n block x).2 then ((dq n block x).1, []) else
  bif (dq n block x).1.state == 0 then ((dq n block x).1, [ag (dq n block x).1 id 0 ⟨#[]⟩]) else
  ({ (dq n block x).1 with req := ⟨true, id, block, x⟩ }, [aQ { (dq n block x).1 with req := ⟨true, id, block, x⟩ } (pkd 2 block x)])
def ci (n : Nd) (id block : Int) (x : ByteArray) : Nd × List Ou :=
  bif !(bQ n block x == 0) then (n, [ag n id (bQ n block x) ⟨#[]⟩]) else
  bif n.state == 0 && !n.minted then
    (bif (aH n).2 == 6 then ((aH n).1, []) else bif !((aH n).2 == 0) then ((aH n).1, [ag (aH n).1 id (aH n).2 ⟨#[]⟩]) else co (aH n).1 id block x)
  else co n id block x
def ke (n : Nd) : Su := ⟨n.store.super.blocks, bu n.peer.v, false, false, false⟩
def dC (n : Nd) : Nd × List Ou :=
  bif !n.store.super.inc || !(n.wanted == 0) then (n, []) else
  bif (fQ n.store.mask 0).isSome then
    ({ n with wanted := IntKind.wrap .i64 ((fQ n.store.mask 0).getD 0 + 1) }, [aQ { n with wanted := IntKind.wrap .i64 ((fQ n.store.mask 0).getD 0 + 1) } (pkb 5 ((fQ n.store.mask 0).getD 0))]) else
  bif !(ae n (ke n)).2 then ((ae n (ke n)).1, []) else ((ae n (ke n)).1, [aQ (ae n (ke n)).1 (pkk 8)])
def bt (n : Nd) (p : Pk) : Bool :=
  bif !n.up || decide (p.kind ≥ 2) && decide (p.kind ≤ 7) && decide (p.block ≥ n.store.super.blocks) then false else
  bif p.kind == 1 then n.state == 1 else
  bif p.kind == 2 then !n.primary && (n.state == 2 || n.state == 4) else
  bif p.kind == 3 then n.state == 2 || n.state == 3 else
  bif p.kind == 4 then n.state == 2 || n.state == 4 else
  bif p.kind == 5 || p.kind == 7 || p.kind == 8 then n.state == 3 else
  bif p.kind == 6 then n.state == 4 else
  bif p.kind == 9 then n.state == 4 && !n.store.super.inc else
  bif p.kind == 10 || p.kind == 13 then n.state == 2 || n.state == 3 || n.state == 4 else
  bif p.kind == 11 || p.kind == 12 then n.asking && (n.state == 2 || n.state == 3 || n.state == 4) else false
end Go.Dm
namespace Go.Dm
open Go
theorem kB (n : Nd) (b : Su) : Fit n.store.disk (ae n b).1.store.disk := by
  unfold ae
  exact av (p := fun (x : Nd × Bool) => Fit n.store.disk x.1.store.disk) (mw _ _) (mw _ _)
theorem pa (n : Nd) : Fit n.store.disk (aH n).1.store.disk := by
  unfold aH
  cases n.draws with
  | nil => exact Fit.refl _
  | cons g r =>
    show Fit n.store.disk (f9 n g r).1.store.disk
    unfold f9
    refine av (p := fun (x : Nd × Int) => Fit n.store.disk x.1.store.disk) (Fit.refl _) ?_
    have := kB (kV n g r) (ly n g)
    exact av (p := fun (x : Nd × Int) => Fit n.store.disk x.1.store.disk) this this
theorem ka (n : Nd) (s : So) (e : Int) (h : Fit n.store.disk s.disk) : Fit n.store.disk (dI n s e).1.store.disk := by
  unfold dI
  exact av (p := fun (x : Nd × Bool) => Fit n.store.disk x.1.store.disk) h h
theorem uz (n : Nd) (i : Int) : Fit n.store.disk (aG n i).1.store.disk := ka _ _ _ (wj _ _)
def cW (n : Nd) (block : Int) (x : ByteArray) : Nd × Bool := dI n (dB n.store block x).1 (dB n.store block x).2
def kD (n : Nd) (block : Int) (x : ByteArray) : Nd := { (aG (cW n block x).1 block).1 with wanted := 0 }
def o6 (n : Nd) (block : Int) (x : ByteArray) : Nd × List Ou :=
  bif !(n.wanted == IntKind.wrap .i64 (block + 1)) then (n, []) else
  bif !(cW n block x).2 then ((cW n block x).1, []) else
  bif !(aG (cW n block x).1 block).2 then ((aG (cW n block x).1 block).1, []) else
  ((dC (kD n block x)).1, [aQ (kD n block x) (pkb 7 block)] ++ (dC (kD n block x)).2)
theorem xX (n : Nd) (i : Int) (x : ByteArray) : Fit n.store.disk (cW n i x).1.store.disk := ka _ _ _ (uR _ _ _)
theorem be (n : Nd) : (dC n).2.length ≤ 10 := by
  unfold dC
  refine av (p := fun (x : Nd × List Ou) => x.2.length ≤ 10) (by simp) (av (p := fun (x : Nd × List Ou) => x.2.length ≤ 10) (by simp) (av (p := fun (x : Nd × List Ou) => x.2.length ≤ 10) (by simp) (by simp)))
def gd (n : Nd) : Su := { n.store.super with pri := true }
def dR (n : Nd) (kind : Int) : Nd × List Ou :=
  bif kind == 10 then (bif n.primary || n.asking then (n, [aQ n (pkk 12)]) else ({ n with peerPri := true }, [aQ { n with peerPri := true } (pkk 11)])) else
  bif kind == 12 then ({ n with asking := false, askId := 0 }, [ag { n with asking := false, askId := 0 } n.askId 12 ⟨#[]⟩]) else
  bif kind == 13 then ({ n with peerPri := false }, []) else
  bif !(ae n (gd n)).2 then ((ae n (gd n)).1, []) else
  ({ (ae n (gd n)).1 with primary := true, asking := false, askId := 0 }, [ag { (ae n (gd n)).1 with primary := true, asking := false, askId := 0 } n.askId 0 ⟨#[]⟩])
def cE (n : Nd) : Ou := ⟨3, n.id, 0, 0, ⟨#[]⟩⟩
def m2 (n : Nd) (h : He) (st : Int) : Nd := { n with state := st, peerPri := h.pri, peer := h }
def kH (n : Nd) (h : He) : Su := { n.store.super with inc := true, pri := false, v := mE n.store.super.v h.v.cur }
def e7 (n : Nd) (m : BitVec 32) : Nd × Bool := dI n (eq n.store m).1 (eq n.store m).2
theorem ye (n : Nd) (m : BitVec 32) : Fit n.store.disk (e7 n m).1.store.disk := ka _ _ _ (wT _ _)
def rB (n : Nd) (h : He) (v : Vd) (m : BitVec 32) : Nd × List Ou :=
  bif v.kind == 4 then (n, [cE n]) else
  bif v.kind == 1 then (bif (ae n (dA n)).2 then (m2 (ae n (dA n)).1 h 2, []) else ((ae n (dA n)).1, [])) else
  bif !(e7 n m).2 then ((e7 n m).1, []) else
  bif v.src == n.id then (m2 (e7 n m).1 h 3, []) else
  bif !(ae (e7 n m).1 (kH n h)).2 then ((ae (e7 n m).1 (kH n h)).1, []) else
  dC (m2 (ae (e7 n m).1 (kH n h)).1 h 4)
def vi (n : Nd) (h : He) : Nd × List Ou := rB n h (aW n h).1 (aW n h).2
end Go.Dm
namespace Go.Dm
open Go
theorem nC (d : Dk) (i : Int) : (bj d i).1.size ≤ 8 := by
  unfold bj
  refine av (p := fun (x : ByteArray × Int) => x.1.size ≤ 8) (Nat.zero_le _) (av (p := fun (x : ByteArray × Int) => x.1.size ≤ 8) (Nat.zero_le _) ?_)
  cases h : (((aR d (IntKind.wrap .i64 (i + 2))).1.size : Int) == 8) with
  | false => exact Nat.zero_le _
  | true =>
    have := eq_of_beq h
    show (aR d (IntKind.wrap .i64 (i + 2))).1.size ≤ 8
    omega
def fv (n : Nd) (p : Pk) : Nd × List Ou :=
  bif p.kind == 1 then vi n p.hello else
  bif p.kind == 2 then fH n p.block p.data else
  bif p.kind == 3 then eH n p.block else
  bif p.kind == 4 then ((aG n p.block).1, []) else
  bif p.kind == 5 then (n, wg n p.block) else
  bif p.kind == 6 then o6 n p.block p.data else
  bif p.kind == 7 then (ft n p.block, []) else
  bif p.kind == 8 then fE n else
  bif p.kind == 9 then ({ n with state := 2 }, []) else dR n p.kind
def bc (n : Nd) (b : ByteArray) : Nd × List Ou :=
  bif !n.up || n.state == 0 then (n, []) else
  bif (ap b n.ses).2 == 16 then (n, []) else
  bif !((ap b n.ses).2 == 0) || !bt n (ap b n.ses).1 then (n, [cE n]) else fv n (ap b n.ses).1
end Go.Dm
namespace Go.Dm
open Go
def l9 (e : Evt) : Bool := decide ((e.data.size : Int) > 300) || decide ((e.keeps.length : Int) > 100)
def dk (l : List Evt) (Ak : Int) : Bool := bif decide ((l.length : Int) > Ak) then true else l.any l9
def aZ (blocks g : Int) : Su := ⟨blocks, ⟨g, 0, 0, 0⟩, false, false, false⟩
def cy (n : Nat) (g : Int) : Dk := ⟨[(bd (aZ n g)).1, bG (cI (mi 0#32))] ++ List.replicate n ⟨#[0, 0, 0, 0, 0, 0, 0, 0]⟩, [], 0, false⟩
def ig (c : Cl) (i : Int) : Nd := bif i == 0 then c.n0 else c.n1
def bf (c : Cl) (i : Int) (n : Nd) : Cl := bif i == 0 then { c with n0 := n } else { c with n1 := n }
def xb (c : Cl) (i : Int) : Bool := bif i == 0 then c.w0 else c.w1
def aS (c : Cl) (i : Int) (w : Bool) : Cl := bif i == 0 then { c with w0 := w } else { c with w1 := w }
def cc (n : Nd) (keeps : List Bool) : Nd × Int :=
  bif n.up then (n, 7) else
  bif !((bE (cL n.store.disk keeps)).2 == 0) then ({ n with store := { n.store with disk := cL n.store.disk keeps } }, (bE (cL n.store.disk keeps)).2) else
  (⟨n.id, true, (bE (cL n.store.disk keeps)).1, false, 0, 0, he0, false, rq0, false, 0, 0, false, n.draws, n.mints⟩, 0)
def dO (n : Nd) (w : Bool) : (Nd × Bool) × List Ou :=
  bif !n.up then ((n, w), []) else bif !(ai n).1.up then (((ai n).1, false), (ai n).2) else (((ai n).1, w), (ai n).2)
def dJ (c : Cl) : Cl × List Ou :=
  (⟨(dO c.n0 c.w0).1.1, (dO c.n1 c.w1).1.1, aT c.link, (dO c.n0 c.w0).1.2, (dO c.n1 c.w1).1.2⟩, (dO c.n0 c.w0).2 ++ (dO c.n1 c.w1).2)
def bA (i : Int) (k : Lk) (l : List Ou) : Lk :=
  l.foldl (fun k o => bif o.kind == 1 && k.up then (bU k (IntKind.wrap .i64 (1 - i)) [o.data]).1 else k) k
def cN (l : List Ou) : List Ou := l.filter fun o => !(o.kind == 1)
def cG (l : List Ou) : Bool := l.any fun o => !(o.kind == 1) && o.kind == 3
def cA (c : Cl) (i : Int) (n : Nd) (l : List Ou) : Cl :=
  bif !n.up then aS { bf c i n with link := bA i c.link l } i false else { bf c i n with link := bA i c.link l }
def bD (c : Cl) (i : Int) (n : Nd) (l : List Ou) : Cl × List Ou :=
  bif !(cA c i n l).link.up || n.up && !cG l then (cA c i n l, cN l) else
  bif cG l then ((dJ { cA c i n l with w0 := false, w1 := false }).1, cN l ++ (dJ { cA c i n l with w0 := false, w1 := false }).2) else
  ((dJ (cA c i n l)).1, cN l ++ (dJ (cA c i n l)).2)
def d6 (c : Cl) : Cl × List Ou := bD c 0 (ca c.n0 c.link.ses).1 (ca c.n0 c.link.ses).2
def fY (c : Cl) : Cl × List Ou := bD c 1 (ca c.n1 c.link.ses).1 (ca c.n1 c.link.ses).2
def em (c : Cl) (i : Int) : Cl × List Ou :=
  bif !(ig c i).up then (c, []) else
  bif !xb (aS c i true) (1 - i) || !(ig c (1 - i)).up || c.link.up then (aS c i true, []) else
  ((fY (d6 { aS c i true with link := ch c.link }).1).1,
    (d6 { aS c i true with link := ch c.link }).2 ++ (fY (d6 { aS c i true with link := ch c.link }).1).2)
def dd (n : Nd) (g : Int) : Nd := bif decide ((n.draws.length : Int) < 1000) then { n with draws := n.draws ++ [g] } else n
def m8 (c : Cl) (i : Int) : Cl × List Ou :=
  bif !(df c.link i).2.2 then (c, []) else
  bD { c with link := (df c.link i).2.1 } i (bc (ig c i) (df c.link i).1).1 (bc (ig c i) (df c.link i).1).2
def zb (c : Cl) : Cl × List Ou := bif !c.link.up then (c, []) else dJ c
def dP (n : Nd) (k : Int) : Nd := bif n.up then { n with store := { n.store with disk := Bm n.store.disk (IntKind.wrap .i64 (if 1000 < k then 1000 else k)) } } else n
def gQ (c : Cl) (e : Evt) (i : Int) (n : Nd) : Cl × List Ou :=
  bif e.kind == 1 then bD c i (cb n e.id).1 (cb n e.id).2 else
  bif e.kind == 2 then bD c i (dj n e.id).1 (dj n e.id).2 else
  bif e.kind == 3 then bD c i (cQ n e.id).1 (cQ n e.id).2 else
  bif e.kind == 4 then bD c i (fU n e.id e.block).1 (fU n e.id e.block).2 else
  bif e.kind == 5 then bD c i (ci n e.id e.block e.data).1 (ci n e.id e.block e.data).2 else
  bif e.kind == 6 then em c i else
  bif e.kind == 7 then zb (aS c i false) else
  bif e.kind == 8 then zb c else
  bif e.kind == 9 then m8 c i else
  bif e.kind == 10 then (bif !n.up then (c, []) else bD c i (dv n) []) else
  bif e.kind == 11 then (bf c i (cc n e.keeps).1, [ag (cc n e.keeps).1 e.id (cc n e.keeps).2 ⟨#[]⟩]) else
  bif e.kind == 12 then bD c i (dP n e.n) [] else
  bif e.kind == 13 then (bf c i (dd n e.n), []) else
  bif e.kind == 14 then (bif (ap e.data c.link.ses).2 == 0 then (c, []) else bD c i (bc n e.data).1 (bc n e.data).2) else (c, [])
def doM (c : Cl) (e : Evt) : Cl × List Ou := bif !(e.node == 0) && !(e.node == 1) then (c, []) else gQ c e e.node (ig c e.node)
def iN (c : Cl) (l : List Evt) : Cl × List Ou := l.foldl (fun x e => ((doM x.1 e).1, x.2 ++ (doM x.1 e).2)) (c, [])
end Go.Dm
namespace Go.Dm
open Go
def oh (j : Int) (s : Cl × List Ou × Bool) (x : Ou) : Cl × List Ou × Bool :=
  bif x.kind == 1 then (bif s.1.link.up then ({ s.1 with link := (bU s.1.link j [x.data]).1 }, s.2) else s) else (s.1, s.2.1 ++ [x], s.2.2 || x.kind == 3)
theorem jZ (j : Int) (c : Cl) (out : List Ou) (q : Bool) (x : Ou) (h1 : (x.kind == 1) = true) (h2 : c.link.up = true) : oh j (c, out, q) x = ({ c with link := (bU c.link j [x.data]).1 }, out, q) := by
  unfold oh; rw [h1, cond_true]; simp only [h2, cond_true]
theorem jS (j : Int) (c : Cl) (out : List Ou) (q : Bool) (x : Ou) (h1 : (x.kind == 1) = true) (h2 : c.link.up = false) : oh j (c, out, q) x = (c, out, q) := by
  unfold oh; rw [h1, cond_true]; simp only [h2, cond_false]
theorem jV (j : Int) (c : Cl) (out : List Ou) (q : Bool) (x : Ou) (h1 : (x.kind == 1) = false) : oh j (c, out, q) x = (c, out ++ [x], q || x.kind == 3) := by
  unfold oh; rw [h1, cond_false]
theorem wD (i j : Int) (hj : IntKind.wrap .i64 (1 - i) = j) : ∀ (l : List Ou) (c : Cl) (out : List Ou) (q : Bool), l.foldl (oh j) (c, out, q) = ({ c with link := bA i c.link l }, out ++ cN l, q || cG l)
  | [], c, out, q => by simp [bA, cN, cG]
  | x :: l, c, out, q => by
    rw [List.foldl_cons]
    cases h1 : x.kind == 1 with
    | true =>
      cases h2 : c.link.up with
      | true =>
        rw [jZ j c out q x h1 h2, wD i j hj l]
        simp [bA, cN, cG, h1, h2, hj]
      | false =>
        rw [jS j c out q x h1 h2, wD i j hj l]
        simp [bA, cN, cG, h1, h2]
    | false =>
      rw [jV j c out q x h1, wD i j hj l]
      simp [bA, cN, cG, h1, Bool.or_assoc]
def d5 (i : Int) (c : Cl) (n : Nd) (out : List Ou) (q : Bool) : Cl × List Ou :=
  bif !c.link.up || n.up && !q then (bif !n.up then aS c i false else c, out) else
  bif q then ((dJ { c with w0 := false, w1 := false }).1, out ++ (dJ { c with w0 := false, w1 := false }).2) else
  ((dJ (bif !n.up then aS c i false else c)).1, out ++ (dJ (bif !n.up then aS c i false else c)).2)
theorem ez (c : Cl) (i : Int) (w : Bool) : (aS c i w).link = c.link := by unfold aS; cases i == 0 <;> rfl
theorem eg (c : Cl) (i : Int) (w : Bool) : (aS c i w).n0 = c.n0 := by unfold aS; cases i == 0 <;> rfl
theorem ee (c : Cl) (i : Int) (w : Bool) : (aS c i w).n1 = c.n1 := by unfold aS; cases i == 0 <;> rfl
theorem pq (c : Cl) (i : Int) (w : Bool) : ({ aS c i w with w0 := false, w1 := false } : Cl) = { c with w0 := false, w1 := false } := by unfold aS; cases i == 0 <;> rfl
theorem pB (c : Cl) (i : Int) (n : Nd) (l : List Ou) : d5 i { bf c i n with link := bA i c.link l } n (cN l) (cG l) = bD c i n l := by
  unfold d5 bD cA
  cases n.up with
  | true =>
    cases cG l <;> cases h : (bA i c.link l).up <;> simp [h]
  | false =>
    cases cG l <;> cases h : (bA i c.link l).up <;> simp [h, ez, pq, eg, ee]
theorem dK (c : Cl) (i : Int) (n : Nd) : (bf c i n).link = c.link := by unfold bf; cases i == 0 <;> rfl
theorem jC (l : Lk) (to : Int) (ps : List ByteArray) : (bU l to ps).1.to0.length ≤ l.to0.length + ps.length ∧ (bU l to ps).1.to1.length ≤ l.to1.length + ps.length := by
  unfold bU
  cases !(to == 0) && !(to == 1) with
  | true => exact ⟨Nat.le_add_right _ _, Nat.le_add_right _ _⟩
  | false =>
    cases l.up with
    | false => exact ⟨Nat.le_add_right _ _, Nat.le_add_right _ _⟩
    | true => cases to == 0 <;> simp
theorem oC (l : List Ou) : (cN l).length ≤ l.length := List.length_filter_le _ _
end Go.Dm
namespace Go.Dm
open Go
def ym (N : Nat) (d : Dk) : Prop := d.sure.length = N ∧ (∀ s ∈ d.sure, s.size ≤ 64) ∧ ∀ w ∈ d.cache, 0 ≤ w.sec ∧ w.sec.toNat < N ∧ w.data.size ≤ 64
def Fw (a : Nat) (d e : Dk) : Prop := (∀ N, ym N d → ym N e) ∧ e.cache.length ≤ d.cache.length + a
theorem Fw.refl (a : Nat) (d : Dk) : Fw a d d := ⟨fun _ h => h, Nat.le_add_right _ _⟩
theorem Fw.trans {a b : Nat} {d e f : Dk} (h : Fw a d e) (k : Fw b e f) : Fw (a + b) d f := ⟨fun N x => k.1 N (h.1 N x), by have := h.2; have := k.2; omega⟩
theorem Fw.le {a b : Nat} {d e : Dk} (h : Fw a d e) (hab : a ≤ b) : Fw b d e := ⟨h.1, by have := h.2; omega⟩
theorem Fw.of_eq {a : Nat} {d e : Dk} (h1 : e.sure = d.sure) (h2 : e.cache = d.cache) : Fw a d e := ⟨fun N h => by unfold ym at h ⊢; rw [h1, h2]; exact h, by rw [h2]; omega⟩
theorem ru (d : Dk) : Fw 0 d (bm d) := Fw.of_eq rfl rfl
theorem yN (d : Dk) : Fw 0 d (mU d) := Fw.of_eq rfl rfl
theorem vU (d : Dk) (n : Int) : Fw 0 d (Bm d n) := Fw.of_eq rfl rfl
theorem gR (d : Dk) (i : Int) (x : ByteArray) : Fw 1 d (bi d i x).1 := by
  refine ⟨fun N h => ?_, en d i x⟩
  unfold bi
  cases d.dead with
  | true => exact h
  | false =>
    cases hr : (decide (i < 0) || decide (i ≥ (d.sure.length : Int))) with
    | true => exact h
    | false =>
      cases hl : decide ((x.size : Int) > 64) with
      | true => exact h
      | false =>
        cases (bm d).dead with
        | true => exact (ru d).1 N h
        | false =>
          simp only [Bool.or_eq_false_iff, decide_eq_false_iff_not] at hr hl
          refine ⟨h.1, h.2.1, fun w hw => ?_⟩
          have hw' : w ∈ d.cache ++ [⟨i, x⟩] := hw
          rcases List.mem_append.1 hw' with hw | hw
          · exact h.2.2 w hw
          · simp only [List.mem_singleton] at hw
            subst hw
            have := h.1
            exact ⟨by show 0 ≤ i; omega, by show i.toNat < N; omega, by show x.size ≤ 64; omega⟩
theorem pM {N : Nat} {d : Dk} (h : ym N d) (i : Int) : (eA d i).size ≤ 64 := by
  unfold eA
  have key : ∀ (l : List Wr) (s : ByteArray), (∀ w ∈ l, w.data.size ≤ 64) → s.size ≤ 64 → (l.foldl (fun s w => bif w.sec == i then w.data else s) s).size ≤ 64 := by
    intro l
    induction l with
    | nil => intro s _ hs; exact hs
    | cons w l ih =>
      intro s hl hs
      rw [List.foldl_cons]
      refine ih _ (fun w hw => hl w (List.mem_cons_of_mem _ hw)) ?_
      cases w.sec == i with
      | true => exact hl w (List.mem_cons_self ..)
      | false => exact hs
  refine key _ _ (fun w hw => (h.2.2 w hw).2.2) ?_
  rw [List.getD_eq_getElem?_getD]
  cases hg : d.sure[i.toNat]? with
  | none => exact Nat.zero_le _
  | some s => exact h.2.1 s (List.mem_of_getElem? hg)
theorem gm {N : Nat} {d : Dk} (h : ym N d) (i : Int) : (aR d i).1.size ≤ 64 := by
  unfold aR
  exact av (p := fun (x : ByteArray × Int) => x.1.size ≤ 64) (Nat.zero_le _) (av (p := fun (x : ByteArray × Int) => x.1.size ≤ 64) (Nat.zero_le _) (pM h i))
theorem n6 (d : Dk) : Fw 0 d (dL d).1 := by
  unfold dL
  refine av (p := fun (x : Dk × Int) => Fw 0 d x.1) (Fw.refl _ _) (av (p := fun (x : Dk × Int) => Fw 0 d x.1) (ru d) ?_)
  refine ⟨fun N h => ⟨?_, fun s hs => ?_, fun w hw => by cases hw⟩, Nat.zero_le _⟩
  · show (l3 (bm d)).length = N
    rw [← h.1]
    simp [l3, bm]
  · have hs' : s ∈ l3 (bm d) := hs
    simp only [l3, List.mem_map] at hs'
    obtain ⟨i, _, rfl⟩ := hs'
    exact pM ((ru d).1 N h) _
theorem jI (d : Dk) (keeps : List Bool) : Fw 0 d (cL d keeps) := by
  refine ⟨fun N h => ?_, Nat.zero_le _⟩
  have key : ∀ (l : List (Wr × Bool)) (s : List ByteArray), (∀ x ∈ l, x.1.data.size ≤ 64) → (s.length = N ∧ ∀ y ∈ s, y.size ≤ 64) → (l.foldl (fun s x => bif x.2 then s.set x.1.sec.toNat x.1.data else s) s).length = N ∧ ∀ y ∈ l.foldl (fun s x => bif x.2 then s.set x.1.sec.toNat x.1.data else s) s, y.size ≤ 64 := by
    intro l
    induction l with
    | nil => intro s _ hs; exact hs
    | cons x l ih =>
      intro s hl hs
      rw [List.foldl_cons]
      refine ih _ (fun w hw => hl w (List.mem_cons_of_mem _ hw)) ?_
      cases x.2 with
      | false => exact hs
      | true =>
        refine ⟨by rw [cond_true, List.length_set]; exact hs.1, fun y hy => ?_⟩
        rw [cond_true] at hy
        rcases List.mem_or_eq_of_mem_set hy with hy | rfl
        · exact hs.2 y hy
        · exact hl x (List.mem_cons_self ..)
  obtain ⟨k1, k2⟩ := key (d.cache.zip keeps) d.sure (fun x hx => (h.2.2 x.1 (List.of_mem_zip hx).1).2.2) ⟨h.1, h.2.1⟩
  exact ⟨k1, k2, fun w hw => by cases hw⟩
theorem nJ (d : Dk) (s : Su) : Fw 1 d (cd d s).1 := by
  unfold cd
  exact av (p := fun (x : Dk × Int) => Fw 1 d x.1) (Fw.refl _ d) (av (p := fun (x : Dk × Int) => Fw 1 d x.1) (gR _ _ _) ((gR _ _ _).trans (n6 _)))
theorem og (d : Dk) (m : BitVec 32) : Fw 1 d (cV d m).1 := by
  unfold cV
  exact av (p := fun (x : Dk × Int) => Fw 1 d x.1) (Fw.refl _ d) (gR _ _ _)
theorem sU (d : Dk) (m : BitVec 32) : Fw 1 d (fu d m).1 := by
  unfold fu
  exact av (p := fun (x : Dk × Int) => Fw 1 d x.1) (og _ _) ((og _ _).trans (n6 _))
theorem AD (d : Dk) (i : Int) (x : ByteArray) : Fw 1 d (gN d i x).1 := by
  unfold gN
  exact av (p := fun (x : Dk × Int) => Fw 1 d x.1) (Fw.refl _ d) (av (p := fun (x : Dk × Int) => Fw 1 d x.1) (Fw.refl _ d) (av (p := fun (x : Dk × Int) => Fw 1 d x.1) (gR _ _ _) ((gR _ _ _).trans (n6 _))))
theorem tY (s : So) (b : Su) : Fw 1 s.disk (bZ s b).1.disk := by
  unfold bZ
  exact av (p := fun (x : So × Int) => Fw 1 s.disk x.1.disk) (Fw.refl _ _) (av (p := fun (x : So × Int) => Fw 1 s.disk x.1.disk) (nJ _ _) (nJ _ _))
theorem sI (s : So) (m : BitVec 32) : Fw 1 s.disk (g9 s m).1.disk := by
  unfold g9
  exact av (p := fun (x : So × Int) => Fw 1 s.disk x.1.disk) (Fw.refl _ _) (av (p := fun (x : So × Int) => Fw 1 s.disk x.1.disk) (sU _ _) (sU _ _))
theorem yQ (s : So) (i : Int) : Fw 1 s.disk (fw s i).1.disk := by
  unfold fw
  exact av (p := fun (x : So × Int) => Fw 1 s.disk x.1.disk) (Fw.refl _ _) (sI _ _)
theorem x8 (s : So) (i : Int) : Fw 1 s.disk (dF s i).1.disk := by
  unfold dF
  exact av (p := fun (x : So × Int) => Fw 1 s.disk x.1.disk) (Fw.refl _ _) (av (p := fun (x : So × Int) => Fw 1 s.disk x.1.disk) (Fw.refl _ _) (av (p := fun (x : So × Int) => Fw 1 s.disk x.1.disk) (og _ _) (og _ _)))
def Nw (a : Nat) (n m : Nd) : Prop := Fw a n.store.disk m.store.disk ∧ m.draws.length + m.mints.length ≤ n.draws.length + n.mints.length ∧ m.id = n.id
theorem Nw.refl (a : Nat) (n : Nd) : Nw a n n := ⟨Fw.refl _ _, Nat.le_refl _, rfl⟩
theorem Nw.trans {a b : Nat} {n m o : Nd} (h : Nw a n m) (k : Nw b m o) : Nw (a + b) n o := ⟨h.1.trans k.1, Nat.le_trans k.2.1 h.2.1, k.2.2.trans h.2.2⟩
theorem Nw.le {a b : Nat} {n m : Nd} (h : Nw a n m) (hab : a ≤ b) : Nw b n m := ⟨h.1.le hab, h.2⟩
theorem Nw.same {a : Nat} {n m : Nd} (h1 : m.store.disk = n.store.disk) (h2 : m.draws = n.draws) (h3 : m.mints = n.mints) (h4 : m.id = n.id) : Nw a n m := ⟨by rw [h1]; exact Fw.refl _ _, by rw [h2, h3]; exact Nat.le_refl _, h4⟩
theorem Nw.down {a : Nat} {n m : Nd} (h : Nw a n m) : Nw a n (dv m) := ⟨h.1.trans (yN _), h.2⟩
theorem jq {a : Nat} (n : Nd) (s : So) (e : Int) (h : Fw a n.store.disk s.disk) : Nw a n (dI n s e).1 := by
  unfold dI
  have h1 : Nw a n { n with store := s } := ⟨h, Nat.le_refl _, rfl⟩
  exact av (p := fun (x : Nd × Bool) => Nw a n x.1) h1.down h1
theorem cO (n : Nd) (b : Su) : Nw 1 n (ae n b).1 := by
  unfold ae
  have h1 : Nw 1 n { n with store := (bZ n.store b).1 } := ⟨tY _ _, Nat.le_refl _, rfl⟩
  exact av (p := fun (x : Nd × Bool) => Nw 1 n x.1) h1.down h1
theorem tn (n : Nd) : Nw 1 n (aH n).1 := by
  unfold aH
  cases hd : n.draws with
  | nil => exact Nw.refl _ _
  | cons g r =>
    show Nw 1 n (f9 n g r).1
    unfold f9
    refine av (p := fun (x : Nd × Int) => Nw 1 n x.1) ⟨Fw.refl _ _, ?_, rfl⟩ ?_
    · show r.length + n.mints.length ≤ _
      rw [hd, List.length_cons]; omega
    · have h1 : Nw 0 n (kV n g r) := ⟨Fw.refl _ _, by show r.length + (n.mints ++ [_]).length ≤ _; rw [hd, List.length_append, List.length_cons, List.length_cons, List.length_nil]; omega, rfl⟩
      have h2 : Nw 1 n (ae (kV n g r) (ly n g)).1 := (h1.trans (cO _ _)).le (by omega)
      exact av (p := fun (x : Nd × Int) => Nw 1 n x.1) h2 h2
theorem sl (n : Nd) (i : Int) : Nw 1 n (dh n i).1 := jq _ _ _ (yQ _ _)
theorem ta (s : So) (i : Int) (x : ByteArray) : Fw 1 s.disk (dB s i x).1.disk := AD _ _ _
theorem vK (n : Nd) (i : Int) (x : ByteArray) : Nw 2 n (dq n i x).1 := by
  unfold dq
  exact av (p := fun (x : Nd × Bool) => Nw 2 n x.1) ((sl n i).le (by omega)) ((sl n i).trans (jq _ _ _ (ta _ _ _)))
theorem jj (n : Nd) (i : Int) : Nw 1 n (aG n i).1 := jq _ _ _ (x8 _ _)
def bb (k : Nat) (l : List Ou) : Prop := l.length ≤ k ∧ ∀ o ∈ l, o.data.size ≤ 64
theorem bb.nil (k : Nat) : bb k [] := ⟨Nat.zero_le _, by simp⟩
theorem bb.one {k : Nat} {o : Ou} (h : o.data.size ≤ 64) : bb (k + 1) [o] := ⟨by simp, by simpa using h⟩
theorem bb.two {k : Nat} {o p : Ou} (h : o.data.size ≤ 64) (h2 : p.data.size ≤ 64) : bb (k + 2) [o, p] := ⟨by simp, by simpa using ⟨h, h2⟩⟩
theorem bb.append {j k : Nat} {l m : List Ou} (h : bb j l) (h2 : bb k m) : bb (j + k) (l ++ m) := ⟨by rw [List.length_append]; have := h.1; have := h2.1; omega, fun o ho => (List.mem_append.1 ho).elim (h.2 o) (h2.2 o)⟩
theorem bb.le {j k : Nat} {l : List Ou} (h : bb j l) (hjk : j ≤ k) : bb k l := ⟨Nat.le_trans h.1 hjk, h.2⟩
theorem uf (p : Pk) : (dQ p).1.size ≤ 64 := by
  unfold dQ
  cases hr : bg p with
  | false => exact Nat.zero_le _
  | true =>
    show (bG (bH p)).size ≤ 64
    rw [aw]
    unfold bH
    rw [ByteArray.size_append]
    have hd : p.data.size ≤ 8 := by
      unfold bg at hr
      cases hh : cK p.kind with
      | true => simp [hh] at hr; omega
      | false => simp [hh] at hr; rw [hr.2.2.2]; decide
    have hh : (iE p).size ≤ 48 := by
      unfold iE
      have := kk p.hello
      cases aP p.kind <;> cases p.kind == 1 <;> simp only [cond_true, cond_false, ByteArray.size_append, ax, aq, List.length_cons, List.length_nil] <;> omega
    omega
theorem du (n : Nd) (p : Pk) : (aQ n p).data.size ≤ 64 := uf _
theorem bX (n : Nd) (id e : Int) : (ag n id e ⟨#[]⟩).data.size ≤ 64 := Nat.zero_le _
def Ro (a : Nat) (n : Nd) (x : Nd × List Ou) : Prop := Nw a n x.1 ∧ bb 3 x.2
end Go.Dm
namespace Go.Dm
open Go
theorem iO (n : Nd) (id : Int) : Ro 3 n (cb n id) := by
  have hc := (cO n { n.store.super with pri := true }).le (show 1 ≤ 3 by omega)
  unfold cb
  repeat' (first | exact ⟨Nw.refl _ _, bb.one (bX _ _ _)⟩ | with_reducible apply av (p := Ro 3 n))
  · exact ⟨Nw.same rfl rfl rfl rfl, bb.one (du _ _)⟩
  · exact ⟨hc, bb.nil _⟩
  · exact ⟨hc, bb.one (bX _ _ _)⟩
theorem km (n : Nd) (id : Int) : Ro 3 n (dj n id) := by
  have hc := (cO n { n.store.super with pri := false }).le (show 1 ≤ 3 by omega)
  unfold dj
  repeat' (first | exact ⟨Nw.refl _ _, bb.one (bX _ _ _)⟩ | with_reducible apply av (p := Ro 3 n))
  · exact ⟨hc, bb.nil _⟩
  · exact ⟨hc, bb.two (du _ _) (bX _ _ _)⟩
  · exact ⟨hc, bb.one (bX _ _ _)⟩
theorem i1 (n : Nd) (id : Int) : Ro 3 n (cQ n id) := by
  have hc := (cO n { n.store.super with dis := true }).le (show 1 ≤ 3 by omega)
  unfold cQ
  repeat' (first | exact ⟨Nw.refl _ _, bb.one (bX _ _ _)⟩ | with_reducible apply av (p := Ro 3 n))
  · exact ⟨hc, bb.nil _⟩
  · exact ⟨hc, bb.one (bX _ _ _)⟩
theorem lR (n : Nd) (id block : Int) : Ro 3 n (fU n id block) := by
  unfold fU
  repeat' (first | exact ⟨Nw.refl _ _, bb.one (bX _ _ _)⟩ | with_reducible apply av (p := Ro 3 n))
  exact ⟨Nw.refl _ _, bb.one (Nat.le_trans (nC _ _) (by decide))⟩
theorem qh (n : Nd) (id block : Int) (x : ByteArray) : Ro 2 n (co n id block x) := by
  have hl := vK n block x
  unfold co
  repeat' (with_reducible apply av (p := Ro 2 n))
  · exact ⟨hl, bb.nil _⟩
  · exact ⟨hl, bb.one (bX _ _ _)⟩
  · exact ⟨hl, bb.one (du _ _)⟩
theorem mp (n : Nd) (id block : Int) (x : ByteArray) : Ro 3 n (ci n id block x) := by
  have hm := tn n
  have h2 := qh (aH n).1 id block x
  have h3 := qh n id block x
  unfold ci
  repeat' (first | exact ⟨Nw.refl _ _, bb.one (bX _ _ _)⟩ | with_reducible apply av (p := Ro 3 n))
  · exact ⟨hm.le (by omega), bb.nil _⟩
  · exact ⟨hm.le (by omega), bb.one (bX _ _ _)⟩
  · exact ⟨(hm.trans h2.1).le (by omega), h2.2⟩
  · exact ⟨h3.1.le (by omega), h3.2⟩
theorem kl (n : Nd) : bb 1 (eK n) := by
  unfold eK
  exact av (p := bb 1) (bb.one (bX _ _ _)) (bb.nil _)
theorem sD (a : Nat) (n : Nd) : Nw a n (gg n) := Nw.same rfl rfl rfl rfl
theorem yH (n : Nd) : Ro 1 n (ai n) := by
  have hm := ((sD 0 n).trans (tn (gg n))).le (show 0 + 1 ≤ 1 by omega)
  unfold ai
  repeat' (with_reducible apply av (p := Ro 1 n))
  · exact ⟨Nw.refl _ _, bb.nil _⟩
  · exact ⟨sD _ _, (kl n).le (by omega)⟩
  · exact ⟨hm, (kl n).le (by omega)⟩
  · exact ⟨hm, ((kl n).append (bb.one (k := 0) (bX _ _ _))).le (by omega)⟩
theorem sV (n : Nd) : Nw 1 n (dC n).1 ∧ bb 1 (dC n).2 := by
  have hc := cO n (ke n)
  unfold dC
  repeat' (with_reducible apply av (p := fun (x : Nd × List Ou) => Nw 1 n x.1 ∧ bb 1 x.2))
  · exact ⟨Nw.refl _ _, bb.nil _⟩
  · exact ⟨Nw.same rfl rfl rfl rfl, bb.one (du _ _)⟩
  · exact ⟨hc, bb.nil _⟩
  · exact ⟨hc, bb.one (du _ _)⟩
theorem wd (n : Nd) (b : Int) : Ro 3 n (eH n b) := by
  have h0 : Nw 0 n { n with req := rq0 } := Nw.same rfl rfl rfl rfl
  have hc := (h0.trans (jj { n with req := rq0 } b)).le (show 0 + 1 ≤ 3 by omega)
  unfold eH
  repeat' (with_reducible apply av (p := Ro 3 n))
  · exact ⟨Nw.refl _ _, bb.nil _⟩
  · exact ⟨hc, bb.one (bX _ _ _)⟩
  · exact ⟨hc, bb.two (bX _ _ _) (du _ _)⟩
theorem va (n : Nd) (b : Int) (x : ByteArray) : Ro 3 n (fH n b x) := by
  have hl := (vK n b x).le (show 2 ≤ 3 by omega)
  unfold fH
  exact av (p := Ro 3 n) ⟨hl, bb.nil _⟩ ⟨hl, bb.one (du _ _)⟩
theorem uF (n : Nd) (b : Int) : Nw 3 n (ft n b) := by
  unfold ft
  exact av (p := Nw 3 n) (Nw.refl _ _) ((jj n b).le (by omega))
theorem AM (n : Nd) (b : Int) (x : ByteArray) : Ro 3 n (o6 n b x) := by
  have h1 : Nw 1 n (cW n b x).1 := jq _ _ _ (ta _ _ _)
  have h2 := h1.trans (jj (cW n b x).1 b)
  have h3 : Nw 2 n (kD n b x) := h2.trans (b := 0) (Nw.same rfl rfl rfl rfl)
  have h4 := sV (kD n b x)
  unfold o6
  repeat' (with_reducible apply av (p := Ro 3 n))
  · exact ⟨Nw.refl _ _, bb.nil _⟩
  · exact ⟨h1.le (by omega), bb.nil _⟩
  · exact ⟨h2.le (by omega), bb.nil _⟩
  · exact ⟨(h3.trans h4.1).le (by omega), ((bb.one (k := 0) (du _ _)).append h4.2).le (by omega)⟩
theorem uZ (n : Nd) : Ro 3 n (fE n) := by
  have hc := (cO n (dA n)).le (show 1 ≤ 3 by omega)
  unfold fE
  exact av (p := Ro 3 n) ⟨hc, bb.nil _⟩ ⟨hc, bb.one (du _ _)⟩
theorem w9 (n : Nd) (kind : Int) : Ro 3 n (dR n kind) := by
  have hc := (cO n (gd n)).le (show 1 ≤ 3 by omega)
  unfold dR
  repeat' (with_reducible apply av (p := Ro 3 n))
  · exact ⟨Nw.refl _ _, bb.one (du _ _)⟩
  · exact ⟨Nw.same rfl rfl rfl rfl, bb.one (du _ _)⟩
  · exact ⟨Nw.same rfl rfl rfl rfl, bb.one (bX _ _ _)⟩
  · exact ⟨Nw.same rfl rfl rfl rfl, bb.nil _⟩
  · exact ⟨hc, bb.nil _⟩
  · exact ⟨hc, bb.one (bX _ _ _)⟩
theorem AQ (n : Nd) (h : He) : Ro 3 n (vi n h) := by
  have hj : Nw 1 n (e7 n (aW n h).2).1 := jq _ _ _ (sI _ _)
  have hc := (cO n (dA n)).le (show 1 ≤ 3 by omega)
  have hc2 := hj.trans (cO (e7 n (aW n h).2).1 (kH n h))
  have hs : Nw 2 n (m2 (ae (e7 n (aW n h).2).1 (kH n h)).1 h 4) := hc2.trans (b := 0) (Nw.same rfl rfl rfl rfl)
  have h4 := sV (m2 (ae (e7 n (aW n h).2).1 (kH n h)).1 h 4)
  unfold vi rB
  repeat' (with_reducible apply av (p := Ro 3 n))
  · exact ⟨Nw.refl _ _, bb.one (Nat.zero_le _)⟩
  · exact ⟨hc, bb.nil _⟩
  · exact ⟨hc, bb.nil _⟩
  · exact ⟨hj.le (by omega), bb.nil _⟩
  · exact ⟨hj.le (by omega), bb.nil _⟩
  · exact ⟨hc2.le (by omega), bb.nil _⟩
  · exact ⟨(hs.trans h4.1).le (by omega), h4.2.le (by omega)⟩
theorem yi (n : Nd) (p : Pk) : Ro 3 n (fv n p) := by
  unfold fv
  repeat' (with_reducible apply av (p := Ro 3 n))
  · exact AQ _ _
  · exact va _ _ _
  · exact wd _ _
  · exact ⟨(jj _ _).le (by omega), bb.nil _⟩
  · exact ⟨Nw.refl _ _, bb.one (du _ _)⟩
  · exact AM _ _ _
  · exact ⟨uF _ _, bb.nil _⟩
  · exact uZ _
  · exact ⟨Nw.same rfl rfl rfl rfl, bb.nil _⟩
  · exact w9 _ _
theorem ed (n : Nd) (b : ByteArray) : Ro 3 n (bc n b) := by
  unfold bc
  repeat' (with_reducible apply av (p := Ro 3 n))
  · exact ⟨Nw.refl _ _, bb.nil _⟩
  · exact ⟨Nw.refl _ _, bb.nil _⟩
  · exact ⟨Nw.refl _ _, bb.one (Nat.zero_le _)⟩
  · exact yi _ _
theorem fq (n : Nd) (s : Int) : Ro 0 n (ca n s) := ⟨Nw.same rfl rfl rfl rfl, bb.one (du _ _)⟩
theorem tM (d : Dk) (h : (bE d).2 = 0) : (bE d).1.disk = d := by
  unfold bE at h ⊢
  cases h1 : (eT d).2 == 0 with
  | false => rw [h1] at h; simp only [Bool.not_false, cond_true] at h; simp [h] at h1
  | true =>
    cases h2 : (d3 d).2 == 0 with
    | false => rw [h1, h2] at h; simp only [Bool.not_false, Bool.not_true, cond_true, cond_false] at h; simp [h] at h2
    | true =>
      cases h3 : (qK d).2 == 0 with
      | false => rw [h1, h2, h3] at h; simp only [Bool.not_false, Bool.not_true, cond_true, cond_false] at h; simp [h] at h3
      | true => rfl
theorem ja (n : Nd) (ks : List Bool) : Nw 0 n (cc n ks).1 := by
  unfold cc
  have hr : Nw 0 n { n with store := { n.store with disk := cL n.store.disk ks } } := ⟨jI _ _, Nat.le_refl _, rfl⟩
  refine av (p := fun (x : Nd × Int) => Nw 0 n x.1) (Nw.refl _ _) ?_
  cases h : ((bE (cL n.store.disk ks)).2 == 0) with
  | false => exact hr
  | true =>
    have := tM _ (eq_of_beq h)
    refine ⟨?_, Nat.le_refl _, rfl⟩
    show Fw 0 n.store.disk (bE (cL n.store.disk ks)).1.disk
    rw [this]
    exact jI _ _
end Go.Dm
namespace Go.Dm
open Go
def NdB (N a m : Nat) (n : Nd) : Prop := ym N n.store.disk ∧ n.store.disk.cache.length ≤ a ∧ n.draws.length + n.mints.length ≤ m
theorem NdB.nw {N a b m : Nat} {n n' : Nd} (h : NdB N a m n) (k : Nw b n n') : NdB N (a + b) m n' := ⟨k.1.1 N h.1, by have := k.1.2; have := h.2.1; omega, Nat.le_trans k.2.1 h.2.2⟩
theorem NdB.le {N a a' m m' : Nat} {n : Nd} (h : NdB N a m n) (ha : a ≤ a') (hm : m ≤ m') : NdB N a' m' n := ⟨h.1, Nat.le_trans h.2.1 ha, Nat.le_trans h.2.2 hm⟩
def LkB (s : Nat) (l : Lk) : Prop := l.to0.length ≤ s ∧ l.to1.length ≤ s ∧ (∀ x ∈ l.to0, x.size ≤ 64) ∧ ∀ x ∈ l.to1, x.size ≤ 64
theorem LkB.le {s t : Nat} {l : Lk} (h : LkB s l) (hst : s ≤ t) : LkB t l := ⟨Nat.le_trans h.1 hst, Nat.le_trans h.2.1 hst, h.2.2⟩
theorem LkB.none (s : Nat) (up : Bool) (ses : Int) : LkB s ⟨up, ses, [], []⟩ := ⟨Nat.zero_le _, Nat.zero_le _, by simp, by simp⟩
theorem AR {s : Nat} {l : Lk} (h : LkB s l) (to : Int) {x : ByteArray} (hx : x.size ≤ 64) : LkB (s + 1) (bU l to [x]).1 := by
  have h0 : LkB (s + 1) l := h.le (by omega)
  have app : ∀ {y : List ByteArray}, (∀ z ∈ y, z.size ≤ 64) → ∀ z ∈ y ++ [x], z.size ≤ 64 := fun hy z hz => by
    rcases List.mem_append.1 hz with hz | hz
    · exact hy z hz
    · simp only [List.mem_singleton] at hz; rw [hz]; exact hx
  unfold bU
  refine av (p := fun (x : Lk × Int) => LkB (s + 1) x.1) h0 (av (p := fun (x : Lk × Int) => LkB (s + 1) x.1) h0 (av (p := fun (x : Lk × Int) => LkB (s + 1) x.1) ?_ ?_))
  · exact ⟨by simp only [List.length_append, List.length_cons, List.length_nil]; have := h.1; omega, h0.2.1, app h.2.2.1, h.2.2.2⟩
  · exact ⟨h0.1, by simp only [List.length_append, List.length_cons, List.length_nil]; have := h.2.1; omega, h.2.2.1, app h.2.2.2⟩
theorem qk (i : Int) : ∀ (l : List Ou) {s : Nat} {k : Lk}, LkB s k → (∀ o ∈ l, o.data.size ≤ 64) → LkB (s + l.length) (bA i k l)
  | [], s, k, h, _ => h
  | o :: l, s, k, h, ho => by
    have h1 : LkB (s + 1) (bif o.kind == 1 && k.up then (bU k (IntKind.wrap .i64 (1 - i)) [o.data]).1 else k) := by
      cases o.kind == 1 && k.up with
      | true => exact AR h _ (ho o (List.mem_cons_self ..))
      | false => exact h.le (by omega)
    have := qk i l h1 (fun o ho' => ho o (List.mem_cons_of_mem _ ho'))
    rw [List.length_cons, show s + (l.length + 1) = s + 1 + l.length by omega]
    exact this
structure ClB (N a m s : Nat) (c : Cl) : Prop where
  n0 : NdB N a m c.n0
  n1 : NdB N a m c.n1
  link : LkB s c.link
theorem ClB.le {N a a' m m' s s' : Nat} {c : Cl} (h : ClB N a m s c) (ha : a ≤ a') (hm : m ≤ m') (hs : s ≤ s') : ClB N a' m' s' c := ⟨h.n0.le ha hm, h.n1.le ha hm, h.link.le hs⟩
theorem wV {N a m : Nat} {n : Nd} (w : Bool) (h : NdB N a m n) : NdB N (a + 1) m (dO n w).1.1 ∧ bb 3 (dO n w).2 := by
  have hr := yH n
  unfold dO
  refine av (p := fun (x : (Nd × Bool) × List Ou) => NdB N (a + 1) m x.1.1 ∧ bb 3 x.2) ⟨h.le (by omega) (Nat.le_refl _), bb.nil _⟩ (av (p := fun (x : (Nd × Bool) × List Ou) => NdB N (a + 1) m x.1.1 ∧ bb 3 x.2) ?_ ?_)
  · exact ⟨h.nw hr.1, hr.2⟩
  · exact ⟨h.nw hr.1, hr.2⟩
theorem vX {N a m s : Nat} {c : Cl} (h : ClB N a m s c) : ClB N (a + 1) m 0 (dJ c).1 ∧ bb 6 (dJ c).2 := by
  have h0 := wV c.w0 h.n0
  have h1 := wV c.w1 h.n1
  exact ⟨⟨h0.1, h1.1, LkB.none _ _ _⟩, h0.2.append h1.2⟩
theorem l8 {N a m s : Nat} {c : Cl} (h : ClB N a m s c) (i : Int) {n : Nd} (hn : NdB N a m n) : ClB N a m s (bf c i n) := by
  unfold bf
  exact av (p := ClB N a m s) ⟨hn, h.n1, h.link⟩ ⟨h.n0, hn, h.link⟩
theorem f8 {N a m s : Nat} {c : Cl} (h : ClB N a m s c) (i : Int) (w : Bool) : ClB N a m s (aS c i w) := by
  unfold aS
  exact av (p := ClB N a m s) ⟨h.n0, h.n1, h.link⟩ ⟨h.n0, h.n1, h.link⟩
theorem sy {N a m s : Nat} {c : Cl} (h : ClB N a m s c) (i : Int) : NdB N a m (ig c i) := by
  unfold ig
  exact av (p := NdB N a m) h.n0 h.n1
theorem xx {k : Nat} {l : List Ou} (h : bb k l) : bb k (cN l) := ⟨Nat.le_trans (oC l) h.1, fun o ho => h.2 o (List.mem_filter.1 ho).1⟩
theorem n4 {N a m s : Nat} {c : Cl} (h : ClB N a m s c) (i : Int) {n : Nd} (hn : NdB N a m n) {l : List Ou} (hl : bb 3 l) : ClB N (a + 1) m (s + 3) (bD c i n l).1 ∧ bb 9 (bD c i n l).2 := by
  have hp := l8 h i hn
  have hk : ClB N a m (s + 3) { bf c i n with link := bA i c.link l } := ⟨hp.n0, hp.n1, (qk i l h.link hl.2).le (by have := hl.1; omega)⟩
  have h1 : ClB N a m (s + 3) (cA c i n l) := by
    unfold cA
    exact av (p := ClB N a m (s + 3)) (f8 hk i false) hk
  have h2 : ClB N a m (s + 3) { cA c i n l with w0 := false, w1 := false } := ⟨h1.n0, h1.n1, h1.link⟩
  have e1 := vX h1
  have e2 := vX h2
  have hK := xx hl
  unfold bD
  refine av (p := fun (x : Cl × List Ou) => ClB N (a + 1) m (s + 3) x.1 ∧ bb 9 x.2) ⟨h1.le (by omega) (Nat.le_refl _) (Nat.le_refl _), hK.le (by omega)⟩ (av (p := fun (x : Cl × List Ou) => ClB N (a + 1) m (s + 3) x.1 ∧ bb 9 x.2) ⟨e2.1.le (Nat.le_refl _) (Nat.le_refl _) (by omega), hK.append e2.2⟩ ⟨e1.1.le (Nat.le_refl _) (Nat.le_refl _) (by omega), hK.append e1.2⟩)
theorem f5 {N a m : Nat} {n : Nd} (h : NdB N a m n) (s : Int) : NdB N a m (ca n s).1 := h.nw (b := 0) (fq n s).1
theorem oS {N a m s : Nat} {c : Cl} (h : ClB N a m s c) : ClB N (a + 1) m (s + 3) (d6 c).1 ∧ bb 9 (d6 c).2 := n4 h 0 (f5 h.n0 _) (fq _ _).2
theorem oN {N a m s : Nat} {c : Cl} (h : ClB N a m s c) : ClB N (a + 1) m (s + 3) (fY c).1 ∧ bb 9 (fY c).2 := n4 h 1 (f5 h.n1 _) (fq _ _).2
theorem rG {N a m s : Nat} {c : Cl} (h : ClB N a m s c) (i : Int) : ClB N a m 0 { aS c i true with link := ch c.link } := by
  have hw := f8 h i true
  exact ⟨hw.n0, hw.n1, LkB.none _ _ _⟩
theorem ub {N a m s : Nat} {c : Cl} (h : ClB N a m s c) (i : Int) : ClB N (a + 2) m (s + 6) (em c i).1 ∧ bb 18 (em c i).2 := by
  have hw := f8 h i true
  have ho := rG h i
  have b0 := oS ho
  have b1 := oN b0.1
  unfold em
  refine av (p := fun (x : Cl × List Ou) => ClB N (a + 2) m (s + 6) x.1 ∧ bb 18 x.2) ⟨h.le (by omega) (Nat.le_refl _) (by omega), bb.nil _⟩ (av (p := fun (x : Cl × List Ou) => ClB N (a + 2) m (s + 6) x.1 ∧ bb 18 x.2) ⟨hw.le (by omega) (Nat.le_refl _) (by omega), bb.nil _⟩ ?_)
  exact ⟨b1.1.le (Nat.le_refl _) (Nat.le_refl _) (by omega), b0.2.append b1.2⟩
theorem rM {s : Nat} {l : Lk} (h : LkB s l) (i : Int) : LkB s (df l i).2.1 ∧ (df l i).1.size ≤ 64 := by
  unfold df
  refine av (p := fun (x : ByteArray × Lk × Bool) => LkB s x.2.1 ∧ x.1.size ≤ 64) ?_ (av (p := fun (x : ByteArray × Lk × Bool) => LkB s x.2.1 ∧ x.1.size ≤ 64) ?_ ⟨h, Nat.zero_le _⟩)
  · cases ht : l.to0 with
    | nil => exact ⟨h, Nat.zero_le _⟩
    | cons x r =>
      have h1 := h.1
      have h2 := h.2.2.1
      rw [ht] at h1 h2
      exact ⟨⟨by simp at h1; show r.length ≤ s; omega, h.2.1, fun y hy => h2 y (List.mem_cons_of_mem _ hy), h.2.2.2⟩, h2 x (List.mem_cons_self ..)⟩
  · cases ht : l.to1 with
    | nil => exact ⟨h, Nat.zero_le _⟩
    | cons x r =>
      have h1 := h.2.1
      have h2 := h.2.2.2
      rw [ht] at h1 h2
      exact ⟨⟨h.1, by simp at h1; show r.length ≤ s; omega, h.2.2.1, fun y hy => h2 y (List.mem_cons_of_mem _ hy)⟩, h2 x (List.mem_cons_self ..)⟩
def Ev1 (N a m s : Nat) (x : Cl × List Ou) : Prop := ClB N (a + 4) (m + 1) (s + 6) x.1 ∧ bb 18 x.2
theorem iq {N a m s : Nat} {c : Cl} (h : ClB N a m s c) : Ev1 N a m s (c, []) := ⟨h.le (by omega) (by omega) (by omega), bb.nil _⟩
theorem lz {N a m s : Nat} {c : Cl} (h : ClB N a m s c) (i : Int) {n : Nd} {l : List Ou} (hn : NdB N (a + 3) m n) (hl : bb 3 l) : Ev1 N a m s (bD c i n l) := by
  have := n4 (h.le (show a ≤ a + 3 by omega) (Nat.le_refl _) (Nat.le_refl _)) i hn hl
  exact ⟨this.1.le (by omega) (by omega) (by omega), this.2.le (by omega)⟩
theorem lZ {N a m s : Nat} {c : Cl} (h : ClB N a m s c) (i : Int) {n : Nd} {x : Nd × List Ou} (hn : NdB N a m n) (hr : Ro 3 n x) : Ev1 N a m s (bD c i x.1 x.2) := lz h i (hn.nw hr.1) hr.2
theorem zj {N a m s : Nat} {c : Cl} (h : ClB N a m s c) : Ev1 N a m s (zb c) := by
  unfold zb
  have := vX h
  exact av (p := Ev1 N a m s) (iq h) ⟨this.1.le (by omega) (by omega) (by omega), this.2.le (by omega)⟩
theorem CQ {N a m s : Nat} {c : Cl} (h : ClB N a m s c) (e : Evt) (i : Int) {n : Nd} (hn : NdB N a m n) : Ev1 N a m s (gQ c e i n) := by
  unfold gQ
  repeat' (with_reducible apply av (p := Ev1 N a m s))
  · exact lZ h i hn (iO _ _)
  · exact lZ h i hn (km _ _)
  · exact lZ h i hn (i1 _ _)
  · exact lZ h i hn (lR _ _ _)
  · exact lZ h i hn (mp _ _ _ _)
  · have := ub h i
    exact ⟨this.1.le (by omega) (by omega) (by omega), this.2⟩
  · exact zj (f8 h i false)
  · exact zj h
  · unfold m8
    have ht := rM h.link i
    refine av (p := Ev1 N a m s) (iq h) ?_
    exact lZ (c := { c with link := (df c.link i).2.1 }) ⟨h.n0, h.n1, ht.1⟩ i (sy h i) (ed _ _)
  · exact iq h
  · exact lz h i (hn.nw (Nw.down (a := 3) (Nw.refl _ _))) (bb.nil _)
  · have := hn.nw (ja n e.keeps)
    have hp := l8 h i this
    exact ⟨hp.le (by omega) (by omega) (by omega), bb.one (bX _ _ _)⟩
  · refine lz h i ?_ (bb.nil _)
    unfold dP
    refine av (p := NdB N (a + 3) m) ?_ (hn.le (by omega) (Nat.le_refl _))
    exact hn.nw (b := 3) ⟨(vU _ _).le (by omega), Nat.le_refl _, rfl⟩
  · have hd : NdB N a (m + 1) (dd n e.n) := by
      unfold dd
      refine av (p := NdB N a (m + 1)) ⟨hn.1, hn.2.1, ?_⟩ (hn.le (Nat.le_refl _) (by omega))
      simp only [List.length_append, List.length_cons, List.length_nil]
      have := hn.2.2
      omega
    have hp := l8 (h.le (Nat.le_refl _) (show m ≤ m + 1 by omega) (Nat.le_refl _)) i hd
    exact ⟨hp.le (by omega) (by omega) (by omega), bb.nil _⟩
  · exact iq h
  · exact lZ h i hn (ed _ _)
  · exact iq h
theorem Af {N a m s : Nat} {c : Cl} (h : ClB N a m s c) (e : Evt) : Ev1 N a m s (doM c e) := by
  unfold doM
  exact av (p := Ev1 N a m s) (iq h) (CQ h e _ (sy h _))
theorem wM {N : Nat} : ∀ (l : List Evt) {a m s : Nat} {c : Cl}, ClB N a m s c → ClB N (a + 4 * l.length) (m + l.length) (s + 6 * l.length) (iN c l).1
  | l, a, m, s, c, h => by
    have key : ∀ (l : List Evt) {a m s : Nat} (x : Cl × List Ou), ClB N a m s x.1 → ClB N (a + 4 * l.length) (m + l.length) (s + 6 * l.length) (l.foldl (fun x e => ((doM x.1 e).1, x.2 ++ (doM x.1 e).2)) x).1 := by
      intro l
      induction l with
      | nil => intro a m s x h; exact h
      | cons e l ih =>
        intro a m s x h
        rw [List.foldl_cons]
        have := ih ((doM x.1 e).1, x.2 ++ (doM x.1 e).2) (Af h e).1
        rw [List.length_cons]
        exact this.le (by omega) (by omega) (by omega)
    exact key l (c, []) h
end Go.Dm
namespace Go.Dm
open Go
abbrev mints (l : List Mi) : List (List C) := l.map Mi.cs
def xM : List C → Option Mi
  | [.raw (.int .u64 g), .raw (.int .u64 p), .raw (.int .i64 n)] => some ⟨g, p, n⟩
  | _ => none
def upd (g p : Int) : List (Int × Int) → List (Int × Int)
  | [] => [(g, p)]
  | (a, b) :: r => if g == a then (a, p) :: r else (a, b) :: upd g p r
def par (l : List Mi) : List (Int × Int) := l.foldr (fun x m => upd x.g x.p m) []
abbrev o7 (m : List (Int × Int)) : List (Value × Value) := m.map fun x => (.int .u64 x.1, .int .u64 x.2)
def r6 (xs : List A) (ims : List (List C)) : Option (List Res × List (List C)) :=
  match xs, ims with
  | [.c (.slice sz es)], [] => if (sz = 3 ∨ es = []) ∧ es.length ≤ 1000000 then (es.mapM xM).map fun l => ([.c (.map (o7 (par l)))], []) else none
  | _, _ => none
def oF (sz : Nat) (xs : List A) (ims : List (List C)) : Option (List Res × List (List C)) :=
  match xs, ims with
  | [.nil, .c (.raw (.int .i64 n))], [] => if 0 ≤ n ∧ n ≤ 1000000 then some ([.top sz []], []) else none
  | _, _ => none
end Go.Dm
namespace Go.Dm
open Go
def luk : List (Int × Int) → Int → Int × Bool
  | [], _ => (0, false)
  | (a, b) :: r, g => if g == a then (b, true) else luk r g
theorem wZ (m : List (Int × Int)) (g : Int) : nW .u64 g .u64 (o7 m) = some (luk m g) := by
  induction m with
  | nil => rfl
  | cons x m ih =>
    obtain ⟨a, b⟩ := x
    simp only [o7, List.map_cons, nW, luk, and_self, if_true]
    cases g == a with
    | true => rfl
    | false => simpa [o7] using ih
theorem wK (m : List (Int × Int)) (g : Int) : nW .u64 g .u64 (o7 m) = some ((luk m g).1, (luk m g).2) := wZ m g
theorem uI (l : List Mi) : (mints l).mapM xM = some l := by
  induction l with
  | nil => rfl
  | cons x l ih =>
    simp only [mints, List.map_cons, List.mapM_cons]
    have : xM x.cs = some x := rfl
    rw [this]
    simp only [mints] at ih
    rw [ih]
    rfl
def jO (l : List Mi) (g : Int) : Int := match l.find? (·.g == g) with | some x => x.p | none => 0
def gI (f : Int → Int) (g : Int) : Nat → Int
  | 0 => g
  | i + 1 => f (gI f g i)
def acc (f : Int → Int) (g : Int) (i : Nat) : List Int := (List.range i).map (gI f g)
def dT (f : Int → Int) (g : Int) (i : Nat) : Bool := gI f g i == 0 || (acc f g i).contains (gI f g i)
def ze (f : Int → Int) (g : Int) (B : Nat) : Nat := (List.range (B + 1)).findIdx (dT f g)
def B9 (f : Int → Int) (g : Int) (B : Nat) : List Int := acc f g (ze f g B)
theorem r4 (f : Int → Int) (g : Int) (i : Nat) : acc f g (i + 1) = acc f g i ++ [gI f g i] := by
  unfold acc; rw [List.range_succ]; simp
theorem lN (f : Int → Int) (g : Int) (i : Nat) : (acc f g i).length = i := by unfold acc; simp
theorem vn {l1 : List Int} : ∀ {l2 : List Int}, l1.Nodup → (∀ x ∈ l1, x ∈ l2) → l1.length ≤ l2.length := by
  induction l1 with
  | nil => intro l2 _ _; simp
  | cons a l1 ih =>
    intro l2 hn hs
    have ha := hs a (by simp)
    have hn' := List.nodup_cons.1 hn
    have := ih (l2 := l2.erase a) hn'.2 (fun x hx => by
      have hx2 := hs x (by simp [hx])
      have hne : x ≠ a := fun h => hn'.1 (h ▸ hx)
      exact (List.mem_erase_of_ne hne).2 hx2)
    rw [List.length_erase_of_mem ha] at this
    have : 0 < l2.length := List.length_pos_of_mem ha
    simp only [List.length_cons]
    omega
theorem po {f : Int → Int} {g : Int} : ∀ {i : Nat}, (∀ j, j < i → dT f g j = false) → (acc f g i).Nodup
  | 0, _ => by simp [acc]
  | i + 1, h => by
    rw [r4, List.nodup_append]
    have hs := h i (by omega)
    unfold dT at hs
    simp only [Bool.or_eq_false_iff] at hs
    refine ⟨po (fun j hj => h j (by omega)), by simp, fun a ha b hb => ?_⟩
    simp at hb
    subst hb
    intro he
    subst he
    have : (acc f g i).contains (gI f g i) = true := by simpa using ha
    rw [this] at hs
    exact absurd hs.2 (by simp)
theorem w8 {f : Int → Int} {K : List Int} (hK : ∀ x, f x ≠ 0 → x ∈ K) {B : Nat} (hB : K.length + 1 ≤ B) (g : Int) : (List.range (B + 1)).any (dT f g) = true := by
  cases hb : (List.range (B + 1)).any (dT f g) with
  | true => rfl
  | false =>
    have hall : ∀ j, j ≤ B → dT f g j = false := fun j hj => by
      have := List.all_eq_true.1 (f7 hb) j (by simp; omega)
      simpa using this
    have hn := po (f := f) (g := g) (i := B) (fun j hj => hall j (by omega))
    have hs : ∀ x ∈ acc f g B, x ∈ K := fun x hx => by
      unfold acc at hx
      simp at hx
      obtain ⟨j, hj, rfl⟩ := hx
      apply hK
      intro h0
      have := hall (j + 1) (by omega)
      unfold dT at this
      simp only [Bool.or_eq_false_iff] at this
      have h1 : gI f g (j + 1) = 0 := h0
      rw [h1] at this
      exact absurd this.1 (by simp)
    have := vn hn hs
    rw [lN] at this
    omega
theorem wm {f : Int → Int} {g : Int} {B : Nat} (h : (List.range (B + 1)).any (dT f g) = true) : ze f g B ≤ B ∧ dT f g (ze f g B) = true ∧ ∀ j, j < ze f g B → dT f g j = false := by
  have hl := cj h
  have h1 : ze f g B < B + 1 := by simpa [ze] using hl
  refine ⟨by omega, ?_, fun j hj => ?_⟩
  · have := List.findIdx_getElem (w := hl)
    simpa [ze] using this
  · have := List.not_of_lt_findIdx (xs := List.range (B + 1)) (p := dT f g) (i := j) hj
    simpa using this
theorem wG (a b : Int) : ∀ (m : List (Int × Int)) (g : Int), luk (upd a b m) g = if g == a then (b, true) else luk m g
  | [], g => rfl
  | (c, d) :: r, g => by
    unfold upd
    cases hac : a == c with
    | true =>
      obtain rfl := eq_of_beq hac
      simp only [if_true, luk]
      cases g == a <;> rfl
    | false =>
      simp only [Bool.false_eq_true, if_false, luk]
      cases hgc : g == c with
      | true =>
        obtain rfl := eq_of_beq hgc
        have : (g == a) = false := by rw [Bool.beq_comm]; exact hac
        rw [this]; rfl
      | false => simpa using wG a b r g
theorem vA : ∀ (l : List Mi) (g : Int), luk (par l) g = (jO l g, l.any (·.g == g))
  | [], g => rfl
  | x :: l, g => by
    have ih := vA l g
    show luk (upd x.g x.p (par l)) g = _
    rw [wG, ih]
    unfold jO
    rw [List.find?_cons, List.any_cons, Bool.beq_comm (a := g)]
    cases x.g == g <;> rfl
theorem FP (l : List Mi) (g : Int) : (luk (par l) g).1 = jO l g := by rw [vA]
theorem xZ (l : List Mi) (x : Int) (h : jO l x ≠ 0) : x ∈ l.map (·.g) := by
  unfold jO at h
  cases hf : l.find? (·.g == x) with
  | none => rw [hf] at h; exact absurd rfl h
  | some y =>
    have h1 := List.mem_of_find?_eq_some hf
    have h2 := List.find?_some hf
    rw [List.mem_map]
    exact ⟨y, h1, by simpa using h2⟩
abbrev zG (l : List Mi) : Nat := l.length + 1
abbrev uP (l : List Mi) (g : Int) : Nat := ze (jO l) g (zG l)
def eL (l : List Mi) (g : Int) : List Int := B9 (jO l) g (zG l)
abbrev tL (l : List Mi) (g : Int) : Int := gI (jO l) g (uP l g)
theorem iw (l : List Mi) (g : Int) : uP l g ≤ l.length + 1 ∧ dT (jO l) g (uP l g) = true ∧ ∀ j, j < uP l g → dT (jO l) g j = false :=
  wm (w8 (K := l.map (·.g)) (xZ l) (by simp) g)
theorem wb (l : List Mi) (g : Int) : (eL l g).length ≤ l.length + 1 := by
  unfold eL B9
  rw [lN]
  exact (iw l g).1
theorem oi {l : List Mi} (hl : l.length ≤ 100000) (g : Int) : (eL l g).length ≤ 1000000 := by have := wb l g; omega
theorem pY (l : List Int) (g : Int) : l.any (g == ·) = l.contains g := by
  rw [List.contains_eq_any_beq]
def uM (l : List Int) (g : Int) : Int := bif l.any (g == ·) then (l.findIdx (g == ·) : Int) else -1
theorem Am {α : Type} {l : List α} {p : α → Bool} {i : Nat} {x : α} (hx : l[i]? = some x) (hp : p x = true) (hb : ∀ j y, j < i → l[j]? = some y → p y = false) : l.findIdx p = i := by
  obtain ⟨hi, rfl⟩ := List.getElem?_eq_some_iff.1 hx
  rw [List.findIdx_eq hi]
  refine ⟨hp, fun j hj => ?_⟩
  have hj2 : j < l.length := by omega
  have := hb j l[j] hj (List.getElem?_eq_getElem hj2)
  simpa using this
def aL (c : Cl) : List Mi := c.n0.mints ++ c.n1.mints
def iB (c : Cl) (i : Int) : Int := bif i == 0 then c.n0.store.super.v.cur else c.n1.store.super.v.cur
def inL (l : List Mi) (old g : Int) : Bool := (eL l g).contains old
def BG (c : Cl) : Int :=
  bif !c.n0.up || !c.n1.up then -1 else bif iB c 0 == iB c 1 then 0 else
  bif inL (aL c) (iB c 1) (iB c 0) then 1 else bif inL (aL c) (iB c 0) (iB c 1) then 2 else 3
def dY (c : Cl) (old g : Int) : Int := uM (eL (aL c) g) old
def cB (c d : Cl) : Int := bif d.n0.state == 4 && !(c.n0.state == 4) then 0 else bif d.n1.state == 4 && !(c.n1.state == 4) then 1 else -1
def ge (c : Cl) (i : Int) : Su := bif i == 0 then c.n0.store.super else c.n1.store.super
def mD (c d : Cl) : Bool :=
  bif decide (cB c d < 0) then true else
  (c.n0.up && c.n1.up) && ((ge c (cB c d)).inc || (ge c (cB c d)).dis || inL (aL c) (iB c (cB c d)) (iB c (1 - cB c d)))
theorem vZ (l : List Int) (g : Int) : decide (uM l g ≥ 0) = l.contains g := by
  unfold uM
  rw [← pY]
  cases l.any (g == ·) with
  | true => simp
  | false => simp
end Go.Dm
namespace Go.Dm
open Go
def gr (x y : Evt) : Bool := y.kind == 13 && y.n == x.n
def Bu (l : List Evt) (i : Nat) (x : Evt) : Bool := x.kind == 13 && (x.n == 0 || (x.n == 7 || (l.take i).any (gr x)))
def j2 (l : List Evt) (i : Nat) : Bool := match l[i]? with | some x => Bu l i x | none => false
def bN (l : List Evt) : Bool := !(List.range l.length).any (j2 l)
end Go.Dm
namespace Go.Dm
open Go
def R64 (n : Int) : Prop := 0 ≤ n ∧ n < 18446744073709551616
theorem rZ {n : Int} (h : R64 n) : IntKind.wrap .u64 n = n := by
  unfold R64 at h
  unfold IntKind.wrap
  simp [IntKind.signed, IntKind.bits]
  omega
theorem r5 (n : Int) : R64 (IntKind.wrap .u64 n) := by
  unfold R64 IntKind.wrap
  simp [IntKind.signed, IntKind.bits]
  omega
theorem lc {n : Int} (h : 0 ≤ n ∧ n < 256) : IntKind.wrap .u8 n = n := by
  unfold IntKind.wrap
  simp [IntKind.signed, IntKind.bits]
  omega
theorem cv {a b c d : ByteArray} (h : a ++ b = c ++ d) (hs : a.size = c.size) : a = c ∧ b = d := by
  have h2 : a.data.toList ++ b.data.toList = c.data.toList ++ d.data.toList := by
    have := congrArg (fun x : ByteArray => x.data.toList) h
    simpa using this
  have h3 := List.append_inj h2 (by simpa using hs)
  exact ⟨ByteArray.ext (Array.toList_inj.1 h3.1), ByteArray.ext (Array.toList_inj.1 h3.2)⟩
theorem bC {a b c d : ByteArray} (h : a ++ b = c ++ d) (hs : b.size = d.size) : a = c ∧ b = d := by
  refine cv h ?_
  have := congrArg ByteArray.size h
  simp only [ByteArray.size_append] at this
  omega
theorem fx {a b : Int} (ha : 0 ≤ a ∧ a < 256) (hb : 0 ≤ b ∧ b < 256) (h : ck [a] = ck [b]) : a = b := by
  have h2 : UInt8.ofNat a.toNat = UInt8.ofNat b.toNat := by
    have := congrArg (fun x : ByteArray => x.data.toList) h
    simpa [ck] using this
  have h3 := congrArg UInt8.toNat h2
  simp at h3
  omega
theorem sd (a b : Int) : ck [a, b] = ck [a] ++ ck [b] := by
  apply ByteArray.ext
  simp [ck]
theorem oP : ∀ (k : Nat) {n m : Int} {s t : ByteArray}, R64 n → R64 m → n < 256 ^ k → m < 256 ^ k → s.size = t.size → uL k n s = uL k m t → n = m ∧ s = t
  | 0, n, m, s, t, hn, hm, h1, h2, _, h => by
    unfold R64 at hn hm
    simp at h1 h2
    exact ⟨by omega, h⟩
  | k + 1, n, m, s, t, hn, hm, h1, h2, hs, h => by
    unfold R64 at hn hm
    rw [uL, uL] at h
    rw [Int.tdiv_eq_ediv_of_nonneg hn.1, Int.tdiv_eq_ediv_of_nonneg hm.1, Int.tmod_eq_emod_of_nonneg hn.1, Int.tmod_eq_emod_of_nonneg hm.1, rZ (n := n / 256) (by unfold R64; omega), rZ (n := m / 256) (by unfold R64; omega), lc (n := n % 256) (by omega), lc (n := m % 256) (by omega)] at h
    rw [Int.pow_succ] at h1 h2
    have ih := oP k (n := n / 256) (m := m / 256) (by unfold R64; omega) (by unfold R64; omega) (by omega) (by omega) (by simp only [ByteArray.size_append, ax, List.length_cons, List.length_nil]; omega) h
    have h3 := bC ih.2 hs
    have h4 := fx (by omega) (by omega) h3.1
    exact ⟨by omega, h3.2⟩
theorem eV {n m : Int} (hn : R64 n) (hm : R64 m) (h : dw n = dw m) : n = m :=
  (oP 8 hn hm (by have := hn.2; omega) (by have := hm.2; omega) rfl h).1
theorem xC {n m : Int} (hn : 0 ≤ n ∧ n < 4294967296) (hm : 0 ≤ m ∧ m < 4294967296) (h : cI n = cI m) : n = m := by
  unfold cI at h
  rw [rZ (by unfold R64; omega), rZ (by unfold R64; omega)] at h
  exact (oP 4 (by unfold R64; omega) (by unfold R64; omega) (by omega) (by omega) rfl h).1
theorem nU {s t : ByteArray} (h : bG s = bG t) : s = t :=
  (cv h (by have := congrArg ByteArray.size h; rw [aw, aw] at this; omega)).1
theorem p6 {b : ByteArray} (h : (ac b).2 = 0) : b = bG (ac b).1 := by
  unfold ac at h ⊢
  cases h1 : decide ((b.size : Int) < 4) with
  | true => rw [h1] at h; simp at h
  | false =>
    rw [h1] at h
    cases h2 : bG (b.extract 0 (b.size - 4)) == b with
    | false => rw [h2] at h; simp at h
    | true => exact (eq_of_beq h2).symm
def VeR (v : Ve) : Prop := R64 v.cur ∧ R64 v.bit ∧ R64 v.o0 ∧ R64 v.o1
theorem sN (l : List UInt8) : R64 (cl l) := by
  unfold cl
  have key : ∀ (l : List UInt8) (n : Int), R64 n → R64 (l.foldl (fun n b => IntKind.wrap .u64 (IntKind.wrap .u64 (n * 256) + IntKind.wrap .u64 (b.toNat : Int))) n) := by
    intro l
    induction l with
    | nil => intro n h; exact h
    | cons x l ih => intro n _; rw [List.foldl_cons]; exact ih _ (r5 _)
  exact key l 0 ⟨by omega, by omega⟩
theorem hU (t : ByteArray) (i : Nat) : R64 (a9 t i) := sN _
theorem fl3 {a b c d e f : Bool} (h : fl a 1 + fl b 2 + fl c 4 = fl d 1 + fl e 2 + fl f 4) : a = d ∧ b = e ∧ c = f := by
  revert a b c d e f; decide
theorem BC (a b c : Bool) : 0 ≤ fl a 1 + fl b 2 + fl c 4 ∧ fl a 1 + fl b 2 + fl c 4 < 256 := by
  revert a b c; decide
theorem fl4 {a b c d e f g i : Bool} (h : fl a 1 + fl b 2 + fl c 4 + fl g 8 = fl d 1 + fl e 2 + fl f 4 + fl i 8) : a = d ∧ b = e ∧ c = f ∧ g = i := by
  revert a b c d e f g i; decide
theorem C8 (a b c d : Bool) : 0 ≤ fl a 1 + fl b 2 + fl c 4 + fl d 8 ∧ fl a 1 + fl b 2 + fl c 4 + fl d 8 < 256 := by
  revert a b c d; decide
theorem qi {s : Su} (h : ce s = true) : 1 ≤ s.blocks ∧ s.blocks ≤ 32 ∧ s.v.cur ≠ 0 := by
  unfold ce at h
  simpa [and_assoc] using h
theorem qO {s t : Su} (hs : ce s = true) (ht : ce t = true) (vs : VeR s.v) (vt : VeR t.v) (h : cH s = cH t) : s = t := by
  obtain ⟨sb, ⟨s1, s2, s3, s4⟩, s5, s6, s7⟩ := s
  obtain ⟨tb, ⟨t1, t2, t3, t4⟩, t5, t6, t7⟩ := t
  have hs := qi hs
  have ht := qi ht
  simp only at hs ht
  unfold cH at h
  have p4 := bC h (by rw [aq, aq])
  have p3 := bC p4.1 (by rw [aq, aq])
  have p2 := bC p3.1 (by rw [aq, aq])
  have p1 := bC p2.1 (by rw [aq, aq])
  have p0 := (bC p1.1 (by rw [ax, ax]; rfl)).2
  rw [sd, sd] at p0
  have q := bC p0 (by rw [ax, ax]; rfl)
  rw [lc (n := sb) (by omega), lc (n := tb) (by omega)] at q
  have qb := fx (by omega) (by omega) q.1
  have qf := fl3 (fx (BC _ _ _) (BC _ _ _) q.2)
  have e1 := eV vs.1 vt.1 p1.2
  have e2 := eV vs.2.1 vt.2.1 p2.2
  have e3 := eV vs.2.2.1 vt.2.2.1 p3.2
  have e4 := eV vs.2.2.2 vt.2.2.2 p4.2
  simp only at e1 e2 e3 e4
  obtain ⟨rfl, rfl, rfl⟩ := qf
  subst qb e1 e2 e3 e4
  rfl
theorem m1 {b : ByteArray} (h : (cp b).2 = 0) : ce (cp b).1 = true ∧ VeR (cp b).1.v ∧ b = bG (cH (cp b).1) := by
  unfold cp at h ⊢
  cases h1 : !((ac b).2 == 0) with
  | true =>
    rw [h1] at h
    exfalso
    have : (ac b).2 = 0 := h
    rw [this] at h1
    exact absurd h1 (by decide)
  | false =>
    rw [h1] at h
    have h0 : (ac b).2 = 0 := by simpa using h1
    cases h2 : (!(((ac b).1.size : Int) == 37) || decide (((af (ac b).1 4).toNat : Int) > 7)) with
    | true => rw [h2] at h; simp at h
    | false =>
      rw [h2] at h
      cases h3 : (!ce (zt (ac b).1) || !(cH (zt (ac b).1) == (ac b).1)) with
      | true => rw [h3] at h; simp at h
      | false =>
        simp only [Bool.or_eq_false_iff, Bool.not_eq_false'] at h3
        simp only [cond_false]
        exact ⟨h3.1, ⟨hU _ _, hU _ _, hU _ _, hU _ _⟩, by rw [eq_of_beq h3.2]; exact p6 h0⟩
theorem vd {s : Su} (hs : ce s = true) (vs : VeR s.v) (h : (cp (bd s).1).2 = 0) : (cp (bd s).1).1 = s := by
  have h1 := m1 h
  have h2 : (bd s).1 = bG (cH s) := by unfold bd; rw [hs]; rfl
  have h3 := h1.2.2
  rw [h2] at h3
  have h4 := nU h3
  rw [← h2] at h4
  exact (qO hs h1.1 vs h1.2.1 h4).symm
theorem qx {s : He} (h : bK s = true) : 1 ≤ s.blocks ∧ s.blocks ≤ 32 ∧ s.v.cur ≠ 0 := by
  unfold bK at h
  simp [and_assoc] at h
  exact ⟨h.1, h.2.1, h.2.2.1⟩
theorem rC {s t : He} (hs : bK s = true) (ht : bK t = true) (vs : VeR s.v) (vt : VeR t.v) (h : fM s = fM t) : s = t := by
  obtain ⟨sb, ⟨s1, s2, s3, s4⟩, s5, s6, s7, s8, s9⟩ := s
  obtain ⟨tb, ⟨t1, t2, t3, t4⟩, t5, t6, t7, t8, t9⟩ := t
  have hs := qx hs
  have ht := qx ht
  simp only at hs ht
  unfold fM at h
  have p5 := bC h (by rw [aA, aA])
  have p4 := bC p5.1 (by rw [aq, aq])
  have p3 := bC p4.1 (by rw [aq, aq])
  have p2 := bC p3.1 (by rw [aq, aq])
  have p1 := bC p2.1 (by rw [aq, aq])
  have p0 := p1.1
  rw [sd, sd] at p0
  have q := bC p0 (by rw [ax, ax]; rfl)
  rw [lc (n := sb) (by omega), lc (n := tb) (by omega)] at q
  have qb := fx (by omega) (by omega) q.1
  have qf := fl4 (fx (C8 _ _ _ _) (C8 _ _ _ _) q.2)
  have e1 := eV vs.1 vt.1 p1.2
  have e2 := eV vs.2.1 vt.2.1 p2.2
  have e3 := eV vs.2.2.1 vt.2.2.1 p3.2
  have e4 := eV vs.2.2.2 vt.2.2.2 p4.2
  have e5 := CO (xC (jr _) (jr _) p5.2)
  simp only at e1 e2 e3 e4 e5
  obtain ⟨rfl, rfl, rfl, rfl⟩ := qf
  subst qb e1 e2 e3 e4 e5
  rfl
theorem zV (b : ByteArray) : VeR (cY b).1.v := by
  unfold cY
  have z : VeR he0.v := by unfold VeR R64 he0; simp
  cases (!((b.size : Int) == 38) || decide (((af b 1).toNat : Int) > 15)) with
  | true => exact z
  | false =>
    cases !bK (Df b) with
    | true => exact z
    | false => exact ⟨hU _ _, hU _ _, hU _ _, hU _ _⟩
theorem nH {α : Type} {p : α → Prop} (b : Bool) {x y : α} (hx : p x) (hy : p y) : p (bif b then x else y) := by
  cases b
  · exact hy
  · exact hx
theorem mY {k : Int} (h : aP k = true) : (k == 1) = false := by
  unfold aP at h
  simp at h
  simp
  omega
def vH (p : Pk) : ByteArray := bif aP p.kind then ck [IntKind.wrap .u8 p.block] ++ p.data else bif p.kind == 1 then (fh p.hello).1 ++ p.data else p.data
theorem eM (p : Pk) : bH p = (ck [IntKind.wrap .u8 p.kind] ++ dw p.ses) ++ vH p := by
  unfold bH iE vH
  cases h : aP p.kind with
  | true => rw [mY h]; simp only [cond_true, cond_false]; rw [ByteArray.append_assoc]
  | false =>
    cases h1 : p.kind == 1 with
    | true => simp only [cond_true, cond_false]; rw [ByteArray.append_assoc]
    | false => rfl
structure PkR (p : Pk) : Prop where
  kind : 1 ≤ p.kind ∧ p.kind ≤ 13
  hello : p.kind = 1 → bK p.hello = true
  none : p.kind ≠ 1 → p.hello = he0
  block : 0 ≤ p.block ∧ p.block ≤ 31
  zero : aP p.kind = false → p.block = 0
  data : cK p.kind = true → p.data.size = 8
  void : cK p.kind = false → p.data = ⟨#[]⟩
theorem jy {p : Pk} (h : bg p = true) : PkR p := by
  unfold bg at h
  cases h1 : (decide (p.kind < 1) || decide (p.kind > 13)) with
  | true => rw [h1] at h; simp at h
  | false =>
    rw [h1] at h
    cases h2 : (p.kind == 1 && !bK p.hello || !(p.kind == 1) && !dz p.hello) with
    | true => rw [h2] at h; simp at h
    | false =>
      rw [h2] at h
      cases h3 : (decide (p.block < 0) || decide (p.block > 31) || !aP p.kind && !(p.block == 0)) with
      | true => rw [h3] at h; simp at h
      | false =>
        rw [h3] at h
        simp only [cond_false] at h
        simp at h1 h2 h3
        refine ⟨by omega, h2.1, fun hk => (tN _).1 (h2.2 hk), by omega, h3.2, fun hd => ?_, fun hd => ?_⟩
        · rw [hd] at h; simp at h; omega
        · rw [hd] at h; simpa using h
theorem rD {p q : Pk} (hp : PkR p) (hq : PkR q) (sp : R64 p.ses) (sq : R64 q.ses) (vp : VeR p.hello.v) (vq : VeR q.hello.v) (h : bH p = bH q) : p = q := by
  rw [eM, eM] at h
  have h1 := cv h (by simp only [ByteArray.size_append, ax, aq]; rfl)
  have h2 := cv h1.1 (by simp only [ax]; rfl)
  have b1 := hp.kind
  have b2 := hq.kind
  rw [lc (by omega), lc (by omega)] at h2
  have hk := fx (by omega) (by omega) h2.1
  have hs := eV sp sq h2.2
  have ht := h1.2
  unfold vH at ht
  rw [← hk] at ht
  have fin : p.hello = q.hello → p.block = q.block → p.data = q.data → p = q := by
    obtain ⟨a, b, c, d, e⟩ := p
    obtain ⟨a', b', c', d', e'⟩ := q
    simp only at hk hs
    intro x y z
    simp only at x y z
    subst hk hs x y z
    rfl
  cases hb : aP p.kind with
  | true =>
    rw [hb] at ht
    simp only [cond_true] at ht
    have hne : p.kind ≠ 1 := by have := mY hb; simpa using this
    have h3 := cv ht (by simp only [ax]; rfl)
    have c1 := hp.block
    have c2 := hq.block
    rw [lc (by omega), lc (by omega)] at h3
    exact fin (by rw [hp.none hne, hq.none (hk ▸ hne)]) (fx (by omega) (by omega) h3.1) h3.2
  | false =>
    rw [hb] at ht
    simp only [cond_false] at ht
    have z1 := hp.zero hb
    have z2 := hq.zero (hk ▸ hb)
    by_cases h4 : p.kind = 1
    · have h5 : (p.kind == 1) = true := by simpa using h4
      rw [h5] at ht
      simp only [cond_true] at ht
      have d1 := hp.void (by rw [h4]; rfl)
      have d2 := hq.void (by rw [← hk, h4]; rfl)
      have r1 := hp.hello h4
      have r2 := hq.hello (hk ▸ h4)
      have e1 : (fh p.hello).1 = fM p.hello := by unfold fh; rw [r1]; rfl
      have e2 : (fh q.hello).1 = fM q.hello := by unfold fh; rw [r2]; rfl
      rw [e1, e2] at ht
      have h6 := cv ht (by rw [al, al])
      exact fin (rC r1 r2 vp vq h6.1) (by rw [z1, z2]) (by rw [d1, d2])
    · have h5 : (p.kind == 1) = false := by simpa using h4
      rw [h5] at ht
      exact fin (by rw [hp.none h4, hq.none (hk ▸ h4)]) (by rw [z1, z2]) ht
theorem zy (t : ByteArray) : R64 (mI t).ses ∧ VeR (mI t).hello.v := by
  have z : VeR he0.v := by unfold VeR R64 he0; simp
  unfold mI
  refine nH (p := fun (x : Pk) => R64 x.ses ∧ VeR x.hello.v) (jc t == 1) ?_ (nH (p := fun (x : Pk) => R64 x.ses ∧ VeR x.hello.v) (aP (jc t) && od t) ?_ ?_)
  · exact ⟨sN _, zV _⟩
  · exact ⟨sN _, z⟩
  · exact ⟨sN _, z⟩
theorem nx {b : ByteArray} (h : (bB b).2 = 0) : bg (bB b).1 = true ∧ R64 (bB b).1.ses ∧ VeR (bB b).1.hello.v ∧ b = bG (bH (bB b).1) := by
  unfold bB at h ⊢
  cases h1 : !((ac b).2 == 0) with
  | true =>
    rw [h1] at h
    exfalso
    have : (ac b).2 = 0 := h
    rw [this] at h1
    simp at h1
  | false =>
    rw [h1] at h
    have h0 : (ac b).2 = 0 := by simpa using h1
    simp only [cond_false] at h ⊢
    unfold eG at h ⊢
    cases h2 : decide (((ac b).1.size : Int) < 9) with
    | true => rw [h2] at h; simp at h
    | false =>
      rw [h2] at h
      cases h3 : (jc (ac b).1 == 1 && !((cY (kv (ac b).1)).2 == 0)) with
      | true => rw [h3] at h; simp at h
      | false =>
        rw [h3] at h
        cases h4 : (!bg (mI (ac b).1) || !(bH (mI (ac b).1) == (ac b).1)) with
        | true => rw [h4] at h; simp at h
        | false =>
          simp only [Bool.or_eq_false_iff, Bool.not_eq_false'] at h4
          simp only [cond_false]
          exact ⟨h4.1, (zy _).1, (zy _).2, by rw [eq_of_beq h4.2]; exact p6 h0⟩
theorem vM {p : Pk} (sp : R64 p.ses) (vp : VeR p.hello.v) (h : (bB (dQ p).1).2 = 0) : (bB (dQ p).1).1 = p := by
  have h1 := nx h
  cases hr : bg p with
  | false =>
    exfalso
    have h2 : (dQ p).1 = ⟨#[]⟩ := by unfold dQ; rw [hr]; rfl
    have h3 := congrArg ByteArray.size h1.2.2.2
    rw [h2, aw, aO] at h3
    omega
  | true =>
    have h2 : (dQ p).1 = bG (bH p) := by unfold dQ; rw [hr]; rfl
    have h3 := h1.2.2.2
    rw [h2] at h3
    have h4 := nU h3
    rw [← h2] at h4
    exact (rD (jy hr) (jy h1.1) sp h1.2.1 vp h1.2.2.1 h4).symm
end Go.Dm
namespace Go.Dm
open Go
abbrev Tre := List (Int × Int)
def qD (T : Tre) : List Int := T.map (·.1)
def Kn (T : Tre) (x : Int) : Prop := x = 7 ∨ x ∈ qD T
def de : Tre → Prop
  | [] => True
  | (a, p) :: T => a ≠ 0 ∧ a ≠ 7 ∧ a ∉ qD T ∧ Kn T p ∧ de T
def pW : Tre → Int → Int
  | [], _ => 0
  | (a, p) :: T, x => if x = a then p else pW T x
def cF : Tre → Int → List Int
  | [], x => [x]
  | (a, p) :: T, x => if x = a then a :: cF T p else cF T x
def AC (f : Int → Int) : List Int → Prop
  | [] => False
  | [a] => f a = 0
  | a :: b :: r => f a = b ∧ AC f (b :: r)
theorem Kn.more {T : Tre} {x : Int} (h : Kn T x) (e : Int × Int) : Kn (e :: T) x := by
  rcases h with h | h
  · exact Or.inl h
  · exact Or.inr (List.mem_cons_of_mem _ h)
theorem Kn.nz {T : Tre} (ht : de T) {x : Int} (h : Kn T x) : x ≠ 0 := by
  induction T with
  | nil => rcases h with h | h
           · omega
           · simp [qD] at h
  | cons e T ih =>
    obtain ⟨a, p⟩ := e
    rcases h with h | h
    · omega
    · simp only [qD, List.map_cons, List.mem_cons] at h
      rcases h with h | h
      · rw [h]; exact ht.1
      · exact ih ht.2.2.2.2 (Or.inr h)
theorem jE {a p : Int} {T : Tre} (ht : de ((a, p) :: T)) {x : Int} (h : Kn T x) : x ≠ a := by
  rintro rfl
  rcases h with h | h
  · exact ht.2.1 h
  · exact ht.2.2.1 h
theorem oE {T : Tre} (ht : de T) : ∀ {x : Int}, Kn T x → ∀ g ∈ cF T x, Kn T g := by
  induction T with
  | nil => intro x h g hg; simp [cF] at hg; rw [hg]; exact h
  | cons e T ih =>
    obtain ⟨a, p⟩ := e
    intro x h g hg
    unfold cF at hg
    by_cases hx : x = a
    · rw [if_pos hx] at hg
      rcases List.mem_cons.1 hg with rfl | hg
      · exact Or.inr (by simp [qD])
      · exact (ih ht.2.2.2.2 ht.2.2.2.1 g hg).more _
    · rw [if_neg hx] at hg
      have hk : Kn T x := by
        rcases h with h | h
        · exact Or.inl h
        · simp only [qD, List.map_cons, List.mem_cons] at h
          rcases h with h | h
          · exact absurd h hx
          · exact Or.inr h
      exact (ih ht.2.2.2.2 hk g hg).more _
theorem ne {a p : Int} {T : Tre} (ht : de ((a, p) :: T)) {x : Int} (h : Kn T x) : cF ((a, p) :: T) x = cF T x := by
  rw [cF, if_neg (jE ht h)]
theorem lA (a p : Int) (T : Tre) : cF ((a, p) :: T) a = a :: cF T p := by
  rw [cF, if_pos rfl]
theorem ij (T : Tre) (x : Int) : ∃ r, cF T x = x :: r := by
  induction T generalizing x with
  | nil => exact ⟨[], rfl⟩
  | cons e T ih =>
    obtain ⟨a, p⟩ := e
    unfold cF
    by_cases hx : x = a
    · rw [if_pos hx, hx]; exact ⟨_, rfl⟩
    · rw [if_neg hx]; exact ih x
theorem j0 (T : Tre) (x : Int) : x ∈ cF T x := by
  obtain ⟨r, h⟩ := ij T x
  rw [h]; simp
theorem jT {f g : Int → Int} : ∀ {l : List Int}, (∀ x ∈ l, f x = g x) → AC f l → AC g l
  | [], _, h => h
  | [a], he, h => by have := he a (by simp); unfold AC at h ⊢; omega
  | a :: b :: r, he, h => ⟨by have := he a (by simp); have := h.1; omega, jT (fun x hx => he x (List.mem_cons_of_mem _ hx)) h.2⟩
theorem om {T : Tre} (ht : de T) : ∀ {x : Int}, Kn T x → AC (pW T) (cF T x) ∧ (cF T x).Nodup ∧ 7 ∈ cF T x := by
  induction T with
  | nil =>
    intro x h
    rcases h with h | h
    · subst h; exact ⟨rfl, by simp [cF], by simp [cF]⟩
    · simp [qD] at h
  | cons e T ih =>
    obtain ⟨a, p⟩ := e
    intro x h
    by_cases hx : x = a
    · subst hx
      rw [lA]
      obtain ⟨h1, h2, h3⟩ := ih ht.2.2.2.2 ht.2.2.2.1
      have hk := oE ht.2.2.2.2 ht.2.2.2.1
      refine ⟨?_, ?_, List.mem_cons_of_mem _ h3⟩
      · have h4 : AC (pW ((x, p) :: T)) (cF T p) := jT (fun y hy => by unfold pW; rw [if_neg (jE ht (hk y hy))]; cases T <;> rfl) h1
        obtain ⟨r, hr⟩ := ij T p
        rw [hr] at h4 ⊢
        exact ⟨by unfold pW; rw [if_pos rfl], h4⟩
      · rw [List.nodup_cons]
        exact ⟨fun hm => jE ht (hk x hm) rfl, h2⟩
    · have hk : Kn T x := by
        rcases h with h | h
        · exact Or.inl h
        · simp only [qD, List.map_cons, List.mem_cons] at h
          rcases h with h | h
          · exact absurd h hx
          · exact Or.inr h
      rw [ne ht hk]
      obtain ⟨h1, h2, h3⟩ := ih ht.2.2.2.2 hk
      exact ⟨jT (fun y hy => by unfold pW; rw [if_neg (jE ht (oE ht.2.2.2.2 hk y hy))]; cases T <;> rfl) h1, h2, h3⟩
theorem rN (f : Int → Int) (g : Int) : ∀ i, gI f g (i + 1) = gI f (f g) i
  | 0 => rfl
  | i + 1 => by rw [gI, rN f g i]; rfl
theorem sK {f : Int → Int} : ∀ {l : List Int} {x : Int}, AC f l → l.head? = some x → (∀ i (h : i < l.length), gI f x i = l[i]) ∧ gI f x l.length = 0
  | [], _, h, _ => h.elim
  | [a], x, h, hx => by
    simp at hx
    subst hx
    refine ⟨fun i hi => ?_, h⟩
    simp at hi
    subst hi
    rfl
  | a :: b :: r, x, h, hx => by
    simp at hx
    subst hx
    have ih := sK (x := b) h.2 rfl
    have e := h.1
    refine ⟨fun i hi => ?_, ?_⟩
    · cases i with
      | zero => rfl
      | succ i => rw [rN, e]; exact ih.1 i (by simpa using hi)
    · show gI f a ((b :: r).length + 1) = 0
      rw [rN, e]
      exact ih.2
theorem q9 {T : Tre} (ht : de T) {l : List Mi} (hp : ∀ x, jO l x = pW T x) {x : Int} (hx : Kn T x) : eL l x = cF T x := by
  obtain ⟨h1, h2, _⟩ := om ht hx
  obtain ⟨r, hr⟩ := ij T x
  have hf : jO l = pW T := funext hp
  have hz := oE ht hx
  obtain ⟨g1, g2⟩ := sK (x := x) h1 (by rw [hr]; rfl)
  obtain ⟨_, s2, s3⟩ := iw l x
  rw [hf] at s2 s3
  have hacc : ∀ i, i ≤ (cF T x).length → acc (pW T) x i = (cF T x).take i := by
    intro i hi
    apply List.ext_getElem
    · rw [lN]; simp; omega
    · intro j hj hj2
      rw [lN] at hj
      have := g1 j (by omega)
      simpa [acc] using this
  have hns : ∀ i, i < (cF T x).length → dT (pW T) x i = false := by
    intro i hi
    unfold dT
    rw [g1 i hi, hacc i (by omega), Bool.or_eq_false_iff]
    refine ⟨?_, ?_⟩
    · have := Kn.nz ht (hz _ (List.getElem_mem hi))
      simpa using this
    · have hn : (cF T x)[i] ∉ (cF T x).take i := by
        intro hm
        rw [List.mem_take_iff_getElem] at hm
        obtain ⟨j, hj, he⟩ := hm
        exact List.pairwise_iff_getElem.1 h2 j i (by omega) hi (by omega) he
      simpa using hn
  have hstop : dT (pW T) x (cF T x).length = true := by
    unfold dT
    rw [g2]
    rfl
  have hlen : uP l x = (cF T x).length := by
    rcases Nat.lt_trichotomy (uP l x) (cF T x).length with h | h | h
    · rw [hns _ h] at s2; exact absurd s2 (by simp)
    · exact h
    · rw [s3 _ h] at hstop; exact absurd hstop (by simp)
  show acc (jO l) x (uP l x) = _
  rw [hlen, hf, hacc _ (Nat.le_refl _), List.take_length]
structure Mts (l : List Mi) (T : Tre) : Prop where
  to : ∀ x ∈ l, (x.g, x.p) ∈ T
  of : ∀ y ∈ T, ∃ x ∈ l, (x.g, x.p) = y
theorem yh {T : Tre} (ht : de T) : ∀ {x p : Int}, (x, p) ∈ T → pW T x = p := by
  induction T with
  | nil => intro x p h; simp at h
  | cons e T ih =>
    obtain ⟨a, q⟩ := e
    intro x p h
    rcases List.mem_cons.1 h with h | h
    · simp at h; unfold pW; rw [if_pos h.1, h.2]
    · have hx : x ≠ a := jE ht (Or.inr (List.mem_map.2 ⟨_, h, rfl⟩))
      unfold pW
      rw [if_neg hx]
      exact ih ht.2.2.2.2 h
theorem vz {T : Tre} : ∀ {x : Int}, x ∉ qD T → pW T x = 0 := by
  induction T with
  | nil => intro x _; rfl
  | cons e T ih =>
    obtain ⟨a, q⟩ := e
    intro x h
    simp only [qD, List.map_cons, List.mem_cons, not_or] at h
    unfold pW
    rw [if_neg h.1]
    exact ih h.2
theorem Mts.par {l : List Mi} {T : Tre} (h : Mts l T) (ht : de T) (x : Int) : jO l x = pW T x := by
  unfold jO
  cases hf : l.find? (·.g == x) with
  | none =>
    rw [List.find?_eq_none] at hf
    refine (vz fun hm => ?_).symm
    obtain ⟨y, hy, he⟩ := List.mem_map.1 hm
    obtain ⟨z, hz, hzy⟩ := h.of y hy
    apply hf z hz
    rw [← he, ← hzy]
    simp
  | some y =>
    have h1 := List.mem_of_find?_eq_some hf
    have h2 := List.find?_some hf
    have h3 : y.g = x := by simpa using h2
    have h4 := h.to y h1
    rw [h3] at h4
    exact (yh ht h4).symm
theorem Mts.line {l : List Mi} {T : Tre} (h : Mts l T) (ht : de T) {x : Int} (hx : Kn T x) : eL l x = cF T x := q9 ht (h.par ht) hx
def PV (T : Tre) (inc : Bool) (v : Ve) : Prop := VeR v ∧ Kn T v.cur ∧ (inc = false → ∀ g, (g = v.bit ∨ g = v.o0 ∨ g = v.o1) → g = 0 ∨ g ∈ cF T v.cur)
theorem PV.more {T : Tre} {a p : Int} (ht : de ((a, p) :: T)) {i : Bool} {v : Ve} (h : PV T i v) : PV ((a, p) :: T) i v := by
  refine ⟨h.1, h.2.1.more _, fun hi g hg => ?_⟩
  rw [ne ht h.2.1]
  exact h.2.2 hi g hg
theorem PV.ret {T : Tre} {i : Bool} {v : Ve} (h : PV T i v) : PV T i (bu v) := by
  unfold bu
  cases hb : v.bit == 0 with
  | true => exact h
  | false =>
    refine ⟨⟨h.1.1, by unfold R64; simp, h.1.2.1, h.1.2.2.1⟩, h.2.1, fun hi g hg => ?_⟩
    rcases hg with hg | hg | hg
    · exact Or.inl hg
    · exact h.2.2 hi g (Or.inl hg)
    · exact h.2.2 hi g (Or.inr (Or.inl hg))
theorem PV.frm {T : Tre} {i : Bool} {v : Ve} (h : PV T i v) {g : Int} (hg : R64 g) : PV T true (mE v g) :=
  ⟨⟨h.1.1, hg, h.1.2.2.1, h.1.2.2.2⟩, h.2.1, fun hi => absurd hi (by simp)⟩
theorem PV.mint {T : Tre} {i : Bool} {v : Ve} (h : PV T i v) {g : Int} (hg : R64 g) (ht : de ((g, v.cur) :: T)) : PV ((g, v.cur) :: T) i (eo v g) := by
  have hz : ∀ x, (x = v.cur ∨ x = v.bit ∨ x = v.o0) → i = false → x = 0 ∨ x ∈ cF ((g, v.cur) :: T) g := by
    intro x hx hi
    rw [lA]
    rcases hx with hx | hx | hx
    · right; rw [hx]; exact List.mem_cons_of_mem _ (j0 _ _)
    · rcases h.2.2 hi x (Or.inl hx) with h5 | h5
      · exact Or.inl h5
      · exact Or.inr (List.mem_cons_of_mem _ h5)
    · rcases h.2.2 hi x (Or.inr (Or.inl hx)) with h5 | h5
      · exact Or.inl h5
      · exact Or.inr (List.mem_cons_of_mem _ h5)
  have hz2 : i = false → v.o1 = 0 ∨ v.o1 ∈ cF ((g, v.cur) :: T) g := by
    intro hi
    rw [lA]
    rcases h.2.2 hi v.o1 (Or.inr (Or.inr rfl)) with h5 | h5
    · exact Or.inl h5
    · exact Or.inr (List.mem_cons_of_mem _ h5)
  have hk : Kn ((g, v.cur) :: T) g := Or.inr (by simp [qD])
  unfold eo
  cases hb : v.bit == 0 with
  | true =>
    refine ⟨⟨hg, h.1.1, h.1.2.2.1, h.1.2.2.2⟩, hk, fun hi x hx => ?_⟩
    rcases hx with hx | hx | hx
    · exact hz x (Or.inl hx) hi
    · exact hz x (Or.inr (Or.inr hx)) hi
    · have hx2 : x = v.o1 := hx
      rw [hx2]
      exact hz2 hi
  | false =>
    refine ⟨⟨hg, h.1.2.1, h.1.1, h.1.2.2.1⟩, hk, fun hi x hx => ?_⟩
    rcases hx with hx | hx | hx
    · exact hz x (Or.inr (Or.inl hx)) hi
    · exact hz x (Or.inl hx) hi
    · exact hz x (Or.inr (Or.inr hx)) hi
end Go.Dm
namespace Go.Dm
open Go
structure Cp (V : Bool → Ve → Prop) : Prop where
  ve : ∀ i v, V i v → VeR v
  ret : ∀ i v, V i v → V i (bu v)
  frm : ∀ i v g, V i v → R64 g → V true (mE v g)
abbrev SV (V : Bool → Ve → Prop) (s : Su) : Prop := V s.inc s.v
def OkB (V : Bool → Ve → Prop) (b : ByteArray) : Prop := (cp b).2 = 0 → SV V (cp b).1
def OkD (V : Bool → Ve → Prop) (d : Dk) : Prop := OkB V (d.sure.getD 0 ⟨#[]⟩) ∧ ∀ w ∈ d.cache, w.sec.toNat = 0 → OkB V w.data
section
variable {V : Bool → Ve → Prop}
theorem ll : OkB V ⟨#[]⟩ := fun h => by
  have h1 := (m1 h).2.2
  have h2 := congrArg ByteArray.size h1
  rw [aw, aO] at h2
  omega
theorem u5 (hc : Cp V) {s : Su} (h : SV V s) : OkB V (bd s).1 := by
  cases hr : ce s with
  | true =>
    intro hd
    rw [vd hr (hc.ve _ _ h) hd]
    exact h
  | false =>
    have : (bd s).1 = ⟨#[]⟩ := by unfold bd; rw [hr]; rfl
    rw [this]
    exact ll
theorem OkB.more {W : Bool → Ve → Prop} (hw : ∀ i v, V i v → W i v) {b : ByteArray} (h : OkB V b) : OkB W b := fun hd => hw _ _ (h hd)
theorem OkD.more {W : Bool → Ve → Prop} (hw : ∀ i v, V i v → W i v) {d : Dk} (h : OkD V d) : OkD W d := ⟨h.1.more hw, fun w hm h0 => (h.2 w hm h0).more hw⟩
theorem OkD.same {d e : Dk} (h : OkD V d) (h1 : e.sure = d.sure) (h2 : e.cache = d.cache) : OkD V e := by unfold OkD at h ⊢; rw [h1, h2]; exact h
theorem ri {d : Dk} (h : OkD V d) : OkD V (bm d) := h.same rfl rfl
theorem mg {d : Dk} (h : OkD V d) {i : Int} {x : ByteArray} (hx : i = 0 → OkB V x) : OkD V (bi d i x).1 := by
  unfold bi
  refine av (p := fun (x : Dk × Int) => OkD V x.1) h ?_
  cases hi : (decide (i < 0) || decide (i ≥ (d.sure.length : Int))) with
  | true => exact h
  | false =>
    simp at hi
    refine av (p := fun (x : Dk × Int) => OkD V x.1) h (av (p := fun (x : Dk × Int) => OkD V x.1) h (av (p := fun (x : Dk × Int) => OkD V x.1) (ri h) ?_))
    refine ⟨h.1, fun w hm h0 => ?_⟩
    rcases List.mem_append.1 hm with hm | hm
    · exact h.2 w hm h0
    · simp at hm
      subst hm
      exact hx (by simp only at h0; omega)
theorem sT {d : Dk} (h : OkD V d) : OkB V (eA d 0) := by
  unfold eA
  have key : ∀ (l : List Wr) (s : ByteArray), OkB V s → (∀ w ∈ l, w.sec.toNat = 0 → OkB V w.data) → OkB V (l.foldl (fun s w => bif w.sec == 0 then w.data else s) s) := by
    intro l
    induction l with
    | nil => intro s hs _; exact hs
    | cons w l ih =>
      intro s hs hl
      rw [List.foldl_cons]
      refine ih _ ?_ (fun w hm => hl w (List.mem_cons_of_mem _ hm))
      cases hw : w.sec == 0 with
      | true => exact hl w (by simp) (by have := eq_of_beq hw; rw [this]; rfl)
      | false => exact hs
  exact key _ _ h.1 h.2
theorem oG {d : Dk} (h : OkD V d) : OkD V (dL d).1 := by
  unfold dL
  refine av (p := fun (x : Dk × Int) => OkD V x.1) h (av (p := fun (x : Dk × Int) => OkD V x.1) (ri h) ?_)
  refine ⟨?_, by simp⟩
  have hb := sT (ri h)
  show OkB V ((l3 (bm d)).getD 0 ⟨#[]⟩)
  unfold l3
  cases hl : (bm d).sure.length with
  | zero => exact ll
  | succ k => rw [List.range_succ_eq_map]; exact hb
theorem sC {d : Dk} (h : OkD V d) : OkD V (mU d) := h.same rfl rfl
theorem wJ {d : Dk} (h : OkD V d) (ks : List Bool) : OkD V (cL d ks) := by
  refine ⟨?_, by simp [cL]⟩
  unfold cL
  have key : ∀ (l : List (Wr × Bool)) (s : List ByteArray), OkB V (s.getD 0 ⟨#[]⟩) → (∀ w ∈ l, w.1.sec.toNat = 0 → OkB V w.1.data) → OkB V ((l.foldl (fun s x => bif x.2 then s.set x.1.sec.toNat x.1.data else s) s).getD 0 ⟨#[]⟩) := by
    intro l
    induction l with
    | nil => intro s hs _; exact hs
    | cons w l ih =>
      intro s hs hl
      rw [List.foldl_cons]
      refine ih _ ?_ (fun w hm => hl w (List.mem_cons_of_mem _ hm))
      cases hw : w.2 with
      | false => exact hs
      | true =>
        cases s with
        | nil => exact hs
        | cons a s =>
          cases hk : w.1.sec.toNat with
          | zero => exact hl w (by simp) hk
          | succ k => exact hs
  exact key _ _ h.1 (fun w hm h0 => h.2 w.1 ((List.of_mem_zip (show (w.1, w.2) ∈ _ from hm)).1) h0)
theorem nf (hc : Cp V) {d : Dk} (h : OkD V d) {s : Su} (hs : SV V s) : OkD V (cd d s).1 := by
  unfold cd
  have hw := mg h (i := 0) (fun _ => u5 hc hs)
  exact av (p := fun (x : Dk × Int) => OkD V x.1) h (av (p := fun (x : Dk × Int) => OkD V x.1) hw (oG hw))
theorem oz {d : Dk} (h : OkD V d) (m : BitVec 32) : OkD V (cV d m).1 := by
  unfold cV
  exact av (p := fun (x : Dk × Int) => OkD V x.1) h (mg h (fun h1 => absurd h1 (by decide)))
theorem sf {d : Dk} (h : OkD V d) (m : BitVec 32) : OkD V (fu d m).1 := by
  unfold fu
  exact av (p := fun (x : Dk × Int) => OkD V x.1) (oz h m) (oG (oz h m))
theorem xH {i L : Int} (h1 : 0 ≤ i) (h2 : i < IntKind.wrap .i64 L) : IntKind.wrap .i64 (i + 2) ≠ 0 := by
  unfold IntKind.wrap at h2 ⊢
  simp [IntKind.signed, IntKind.bits] at h2 ⊢
  split at h2 <;> split <;> omega
theorem AK {d : Dk} (h : OkD V d) (i : Int) (x : ByteArray) : OkD V (gN d i x).1 := by
  unfold gN
  cases ht : et d i with
  | false => exact h
  | true =>
    unfold et at ht
    simp at ht
    have hw : OkD V (bi d (IntKind.wrap .i64 (i + 2)) x).1 := mg h (fun h0 => absurd h0 (xH ht.1 ht.2))
    exact av (p := fun (x : Dk × Int) => OkD V x.1) h (av (p := fun (x : Dk × Int) => OkD V x.1) h (av (p := fun (x : Dk × Int) => OkD V x.1) hw (oG hw)))
theorem vy {d : Dk} (h : OkD V d) (h0 : (bE d).2 = 0) : (bE d).1.disk = d ∧ SV V (bE d).1.super := by
  unfold bE at h0 ⊢
  cases h1 : !((eT d).2 == 0) with
  | true =>
    rw [h1] at h0
    exfalso
    have : (eT d).2 = 0 := h0
    rw [this] at h1
    simp at h1
  | false =>
    rw [h1] at h0
    cases h2 : !((d3 d).2 == 0) with
    | true =>
      rw [h2] at h0
      exfalso
      have : (d3 d).2 = 0 := h0
      rw [this] at h2
      simp at h2
    | false =>
      rw [h2] at h0
      cases h3 : !((qK d).2 == 0) with
      | true =>
        rw [h3] at h0
        exfalso
        have : (qK d).2 = 0 := h0
        rw [this] at h3
        simp at h3
      | false =>
        refine ⟨rfl, ?_⟩
        show SV V (eT d).1
        have hs : (eT d).2 = 0 := by simpa using h1
        unfold eT at hs ⊢
        cases h4 : !((aR d 0).2 == 0) with
        | true =>
          rw [h4] at hs
          exfalso
          have : (aR d 0).2 = 0 := hs
          rw [this] at h4
          simp at h4
        | false =>
          rw [h4] at hs
          cases h5 : !((cp (aR d 0).1).2 == 0) with
          | true =>
            rw [h5] at hs
            exfalso
            have : (cp (aR d 0).1).2 = 0 := hs
            rw [this] at h5
            simp at h5
          | false =>
            rw [h5] at hs
            cases h6 : !kY d (cp (aR d 0).1).1 with
            | true => rw [h6] at hs; simp at hs
            | false =>
              show SV V (cp (aR d 0).1).1
              have h7 : OkB V (aR d 0).1 := by
                unfold aR
                exact av (p := fun (x : ByteArray × Int) => OkB V x.1) ll (av (p := fun (x : ByteArray × Int) => OkB V x.1) ll (sT h))
              exact h7 (by simpa using h5)
def Sk (V : Bool → Ve → Prop) (s t : So) : Prop := OkD V t.disk ∧ t.super = s.super
theorem sF {s : So} (h : OkD V s.disk) (m : BitVec 32) : Sk V s (g9 s m).1 := by
  unfold g9
  exact av (p := fun (x : So × Int) => Sk V s x.1) ⟨h, rfl⟩ (av (p := fun (x : So × Int) => Sk V s x.1) ⟨sf h m, rfl⟩ ⟨sf h m, rfl⟩)
theorem sJ {s : So} (h : OkD V s.disk) (i : Int) : Sk V s (fw s i).1 := by
  unfold fw
  exact av (p := fun (x : So × Int) => Sk V s x.1) ⟨h, rfl⟩ (sF h _)
theorem oa {s : So} (h : OkD V s.disk) (i : Int) : Sk V s (dF s i).1 := by
  unfold dF
  exact av (p := fun (x : So × Int) => Sk V s x.1) ⟨h, rfl⟩ (av (p := fun (x : So × Int) => Sk V s x.1) ⟨h, rfl⟩ (av (p := fun (x : So × Int) => Sk V s x.1) ⟨oz h _, rfl⟩ ⟨oz h _, rfl⟩))
theorem n9 {s : So} (h : OkD V s.disk) (i : Int) (x : ByteArray) : Sk V s (dB s i x).1 := ⟨AK h _ _, rfl⟩
theorem m4 (hc : Cp V) {s : So} (h : OkD V s.disk) {b : Su} (hb : SV V b) : OkD V (bZ s b).1.disk ∧ ((bZ s b).2 = 0 → (bZ s b).1.super = b) ∧ (bZ s b).1.mask = s.mask := by
  unfold bZ
  cases he : A7 b s.super with
  | true => exact ⟨h, fun _ => ((yj _ _).1 he).symm, rfl⟩
  | false =>
    cases h1 : (cd s.disk b).2 == 0 with
    | true => exact ⟨nf hc h hb, fun _ => rfl, rfl⟩
    | false =>
      refine ⟨nf hc h hb, fun h2 => ?_, rfl⟩
      have h3 : (cd s.disk b).2 = 0 := h2
      rw [h3] at h1
      simp at h1
structure NI (V : Bool → Ve → Prop) (n : Nd) : Prop where
  d : OkD V n.store.disk
  s : n.up = true → SV V n.store.super
  p : n.state = 4 → V false n.peer.v
  z : n.up = false → n.state = 0
theorem NI.more {W : Bool → Ve → Prop} (hw : ∀ i v, V i v → W i v) {n : Nd} (h : NI V n) : NI W n := ⟨h.d.more hw, fun hu => hw _ _ (h.s hu), fun h4 => hw _ _ (h.p h4), h.z⟩
abbrev gP (n : Nd) : Int := n.store.super.v.cur
structure Bec (V : Bool → Ve → Prop) (n m : Nd) : Prop where
  ok : NI V m
  id : m.id = n.id
  dr : m.draws = n.draws
  mi : m.mints = n.mints
  up : m.up = true → n.up = true ∧ m.ses = n.ses
  st : m.up = true → m.state = n.state ∨ (n.state = 1 ∧ (m.state = 2 ∨ m.state = 3 ∨ m.state = 4)) ∨ ((n.state = 3 ∨ n.state = 4) ∧ m.state = 2)
  own : m.up = true → n.state = 1 → m.state = 1 → e9 m = e9 n
  cur : m.up = true → m.state ≠ 4 → n.state ≠ 4 → gP m = gP n
theorem Bec.flat {n m : Nd} (hn : NI V n) (hd : OkD V m.store.disk) (hs : m.up = true → SV V m.store.super) (id : m.id = n.id) (hu : m.up = n.up) (ht : m.state = n.state) (hk : m.ses = n.ses) (dr : m.draws = n.draws) (mi : m.mints = n.mints) (hp : m.peer = n.peer) (ho : n.state = 1 → e9 m = e9 n) (hc : gP m = gP n) : Bec V n m :=
  ⟨⟨hd, hs, by rw [ht, hp]; exact hn.p, by rw [hu, ht]; exact hn.z⟩, id, dr, mi, fun h => ⟨by rw [← hu]; exact h, hk⟩, fun _ => Or.inl ht, fun _ h1 _ => ho h1, fun _ _ _ => hc⟩
theorem Bec.refl {n : Nd} (hn : NI V n) : Bec V n n := Bec.flat hn hn.d hn.s rfl rfl rfl rfl rfl rfl rfl (fun _ => rfl) rfl
theorem Bec.down {n m : Nd} (hd : OkD V m.store.disk) (id : m.id = n.id) (dr : m.draws = n.draws) (mi : m.mints = n.mints) : Bec V n (dv m) :=
  ⟨⟨sC hd, fun h => absurd h (by simp [dv]), fun h => absurd h (by simp [dv]), fun _ => rfl⟩, id, dr, mi, fun h => absurd h (by simp [dv]), fun h => absurd h (by simp [dv]), fun h => absurd h (by simp [dv]), fun h => absurd h (by simp [dv])⟩
def Bl (b : ByteArray) : Prop := (bB b).2 = 0 → (bB b).1.kind ≠ 1
theorem xW {p : Pk} (hk : p.kind ≠ 1) : Bl (dQ p).1 := by
  intro h
  have h1 := nx h
  cases hr : bg p with
  | false =>
    exfalso
    have h2 : (dQ p).1 = ⟨#[]⟩ := by unfold dQ; rw [hr]; rfl
    have h3 := congrArg ByteArray.size h1.2.2.2
    rw [h2, aw, aO] at h3
    omega
  | true =>
    have h2 : (dQ p).1 = bG (bH p) := by unfold dQ; rw [hr]; rfl
    have h3 := h1.2.2.2
    rw [h2] at h3
    have h4 := nU h3
    rw [← h2, eM, eM] at h4
    have h5 := cv h4 (by simp only [ByteArray.size_append, ax, aq]; rfl)
    have h6 := cv h5.1 (by simp only [ax]; rfl)
    have b1 := (jy hr).kind
    have b2 := (jy h1.1).kind
    rw [lc (by omega), lc (by omega)] at h6
    have h7 := fx (by omega) (by omega) h6.1
    rw [← h7]
    exact hk
def dc (l : List Ou) : Prop := ∀ o ∈ l, o.kind = 1 → Bl o.data
theorem dc.nil : dc [] := by intro o h; simp at h
theorem dc.cons {o : Ou} {l : List Ou} (h : o.kind = 1 → Bl o.data) (hl : dc l) : dc (o :: l) := by
  intro p hp
  rcases List.mem_cons.1 hp with rfl | hp
  · exact h
  · exact hl p hp
theorem dc.app {l m : List Ou} (h : dc l) (hl : dc m) : dc (l ++ m) := by
  intro p hp
  rcases List.mem_append.1 hp with hp | hp
  · exact h p hp
  · exact hl p hp
theorem nn (n : Nd) (id e : Int) (x : ByteArray) : (ag n id e x).kind = 1 → Bl (ag n id e x).data := fun h => absurd h (by simp [ag])
theorem m3 (n : Nd) : (cE n).kind = 1 → Bl (cE n).data := fun h => absurd h (by simp [cE])
theorem pS (n : Nd) {p : Pk} (h : p.kind ≠ 1) : (aQ n p).kind = 1 → Bl (aQ n p).data := fun _ => xW h
theorem dc.re (n : Nd) (id e : Int) (x : ByteArray) : dc [ag n id e x] := .cons (nn _ _ _ _) .nil
theorem dc.se (n : Nd) {p : Pk} (h : p.kind ≠ 1) : dc [aQ n p] := .cons (pS _ h) .nil
def Rs (V : Bool → Ve → Prop) (n : Nd) (x : Nd × List Ou) : Prop := Bec V n x.1 ∧ dc x.2
theorem xG {n : Nd} (hn : NI V n) {s : So} (hs : Sk V n.store s) (hm : n.state = 1 → s.mask = n.store.mask) (e : Int) : Bec V n (dI n s e).1 := by
  unfold dI
  refine av (p := fun (x : Nd × Bool) => Bec V n x.1) (Bec.down hs.1 rfl rfl rfl) ?_
  refine Bec.flat hn hs.1 (fun h => ?_) rfl rfl rfl rfl rfl rfl rfl (fun h1 => ?_) ?_
  · show SV V s.super
    rw [hs.2]; exact hn.s h
  · show Bz s.super n.primary s.mask = _
    rw [hs.2, hm h1]; rfl
  · show s.super.v.cur = _
    rw [hs.2]
theorem iY {n : Nd} {s : So} {e : Int} (h : (dI n s e).2 = true) : (dI n s e).1 = { n with store := s } := by
  unfold dI at h ⊢
  cases h1 : !(e == 0) with
  | true => rw [h1] at h; simp at h
  | false => rfl
theorem iP {n : Nd} {s : So} {e : Int} (h : (dI n s e).2 = false) : (dI n s e).1 = dv { n with store := s } := by
  unfold dI at h ⊢
  cases h1 : !(e == 0) with
  | false => rw [h1] at h; simp at h
  | true => rfl
theorem dx (hc : Cp V) {n : Nd} (hn : OkD V n.store.disk) {b : Su} (hb : SV V b) (h : (ae n b).2 = true) : ∃ d, OkD V d ∧ (ae n b).1 = { n with store := ⟨d, b, n.store.mask⟩ } := by
  have k := m4 hc hn hb
  unfold ae at h ⊢
  generalize bZ n.store b = x at h k ⊢
  obtain ⟨⟨d, s, m⟩, e⟩ := x
  obtain ⟨k1, k2, k3⟩ := k
  simp only at h k1 k2 k3 ⊢
  cases h1 : !(e == 0) with
  | true => rw [h1] at h; simp at h
  | false =>
    have h2 := k2 (by simpa using h1)
    subst h2 k3
    exact ⟨d, k1, rfl⟩
theorem fZ (hc : Cp V) {n : Nd} (hn : OkD V n.store.disk) {b : Su} (hb : SV V b) (h : (ae n b).2 = false) : ∃ m, OkD V m.store.disk ∧ m.id = n.id ∧ m.draws = n.draws ∧ m.mints = n.mints ∧ (ae n b).1 = dv m := by
  have k := m4 hc hn hb
  unfold ae at h ⊢
  generalize bZ n.store b = x at h k ⊢
  obtain ⟨s, e⟩ := x
  simp only at h k ⊢
  cases h1 : !(e == 0) with
  | false => rw [h1] at h; simp at h
  | true => exact ⟨{ n with store := s }, k.1, rfl, rfl, rfl, rfl⟩
theorem dy (hc : Cp V) {n : Nd} (hn : NI V n) {b : Su} (hb : SV V b) (h : (ae n b).2 = false) : Bec V n (ae n b).1 := by
  obtain ⟨m, h1, h2, h3, h4, h5⟩ := fZ hc hn.d hb h
  rw [h5]
  exact Bec.down h1 h2 h3 h4
end
end Go.Dm
namespace Go.Dm
open Go
section
variable {V : Bool → Ve → Prop}
theorem lm {n : Nd} {b : Bool} {x y : Nd × List Ou} (hx : Rs V n x) (hy : Rs V n y) : Rs V n (bif b then x else y) := by
  cases b
  · exact hy
  · exact hx
theorem jR {n : Nd} {b : Bool} {x y : Nd × List Ou} (hx : b = true → Rs V n x) (hy : b = false → Rs V n y) : Rs V n (bif b then x else y) := by
  cases b
  · exact hy rfl
  · exact hx rfl
theorem nbt {b : Bool} (h : (!b) = true) : b = false := by simpa using h
theorem nbf {b : Bool} (h : (!b) = false) : b = true := by simpa using h
theorem fd {n : Nd} (hn : NI V n) (id e : Int) (x : ByteArray) : Rs V n (n, [ag n id e x]) := ⟨Bec.refl hn, dc.re _ _ _ _⟩
theorem nB (v : Ve) : (bu v).cur = v.cur := by
  unfold bu
  cases v.bit == 0 <;> rfl
theorem Bec.com {n m : Nd} (hn : NI V n) (hu : n.up = true) (h1 : n.state ≠ 1) {d : Dk} {b : Su} (hd : OkD V d) (hb : SV V b) (hcur : b.v.cur = gP n) (id : m.id = n.id) (hs : m.store.disk = d ∧ m.store.super = b) (up : m.up = n.up) (st : m.state = n.state ∨ ((n.state = 3 ∨ n.state = 4) ∧ m.state = 2)) (hk : m.ses = n.ses) (dr : m.draws = n.draws) (mi : m.mints = n.mints) (hp : m.peer = n.peer) : Bec V n m := by
  refine ⟨⟨by rw [hs.1]; exact hd, fun _ => by rw [hs.2]; exact hb, fun h4 => ?_, fun h0 => by rw [up, hu] at h0; exact absurd h0 (by simp)⟩, id, dr, mi, fun _ => ⟨hu, hk⟩, fun _ => ?_, fun _ h _ => absurd h h1, fun _ _ _ => by unfold gP; rw [hs.2]; exact hcur⟩
  · rw [hp]
    rcases st with st | st
    · exact hn.p (by rw [← st]; exact h4)
    · rw [st.2] at h4; exact absurd h4 (by decide)
  · rcases st with st | st
    · exact Or.inl st
    · exact Or.inr (Or.inr st)
theorem ml (hc : Cp V) {n : Nd} (hn : NI V n) (id : Int) : Rs V n (cb n id) := by
  unfold cb
  refine jR (fun _ => fd hn _ _ _) (fun hu => ?_)
  have hu := nbf hu
  refine lm (fd hn _ _ _) (lm (fd hn _ _ _) (lm (fd hn _ _ _) (jR (fun _ => fd hn _ _ _) (fun hs => ?_))))
  simp at hs
  refine lm (fd hn _ _ _) (lm ⟨Bec.flat hn hn.d hn.s rfl rfl rfl rfl rfl rfl rfl (fun _ => rfl) rfl, dc.se _ (by decide)⟩ ?_)
  have hb : SV V { n.store.super with pri := true } := hn.s hu
  refine jR (fun h => ⟨dy hc hn hb (nbt h), dc.nil⟩) (fun h => ?_)
  obtain ⟨d, hd, he⟩ := dx hc hn.d hb (nbf h)
  rw [he]
  exact ⟨Bec.com hn hu hs.1.1 hd hb rfl rfl ⟨rfl, rfl⟩ rfl (Or.inl rfl) rfl rfl rfl rfl, dc.re _ _ _ _⟩
theorem nP (hc : Cp V) {n : Nd} (hn : NI V n) (id : Int) : Rs V n (dj n id) := by
  unfold dj
  refine jR (fun _ => fd hn _ _ _) (fun hu => ?_)
  have hu := nbf hu
  refine lm (fd hn _ _ _) (jR (fun _ => fd hn _ _ _) (fun hs => ?_))
  simp at hs
  have hb : SV V { n.store.super with pri := false } := hn.s hu
  refine jR (fun h => ⟨dy hc hn hb (nbt h), dc.nil⟩) (fun h => ?_)
  obtain ⟨d, hd, he⟩ := dx hc hn.d hb (nbf h)
  rw [he]
  have hm : Bec V n { ({ n with store := ⟨d, { n.store.super with pri := false }, n.store.mask⟩ } : Nd) with primary := false } := Bec.com hn hu hs.2 hd hb rfl rfl ⟨rfl, rfl⟩ rfl (Or.inl rfl) rfl rfl rfl rfl
  exact lm ⟨hm, .cons (pS _ (by decide)) (dc.re _ _ _ _)⟩ ⟨hm, dc.re _ _ _ _⟩
theorem lY (hc : Cp V) {n : Nd} (hn : NI V n) (id : Int) : Rs V n (cQ n id) := by
  unfold cQ
  refine jR (fun _ => fd hn _ _ _) (fun hu => ?_)
  have hu := nbf hu
  refine lm (fd hn _ _ _) (jR (fun _ => fd hn _ _ _) (fun hs => ?_))
  simp at hs
  have hb : SV V { n.store.super with dis := true } := hn.s hu
  refine jR (fun h => ⟨dy hc hn hb (nbt h), dc.nil⟩) (fun h => ?_)
  obtain ⟨d, hd, he⟩ := dx hc hn.d hb (nbf h)
  rw [he]
  exact ⟨Bec.com hn hu (by omega) hd hb rfl rfl ⟨rfl, rfl⟩ rfl (Or.inl rfl) rfl rfl rfl rfl, dc.re _ _ _ _⟩
theorem qH {n : Nd} (hn : NI V n) (id block : Int) : Rs V n (fU n id block) := by
  unfold fU
  exact lm (fd hn _ _ _) (lm (fd hn _ _ _) (fd hn _ _ _))
theorem Bec.sto {n m : Nd} (hn : NI V n) (h1 : n.state ≠ 1) (hs : Sk V n.store m.store) (id : m.id = n.id) (up : m.up = n.up) (st : m.state = n.state) (hk : m.ses = n.ses) (dr : m.draws = n.draws) (mi : m.mints = n.mints) (hp : m.peer = n.peer) : Bec V n m :=
  Bec.flat hn hs.1 (fun h => by rw [hs.2]; exact hn.s (by rw [← up]; exact h)) id up st hk dr mi hp (fun h => absurd h h1) (by unfold gP; rw [hs.2])
theorem Sk.trans {s t w : So} (h : Sk V s t) (k : Sk V t w) : Sk V s w := ⟨k.1, k.2.trans h.2⟩
theorem zH {n : Nd} (hn : OkD V n.store.disk) {b : Int} {x : ByteArray} (h : (dq n b x).2 = true) : ∃ s, Sk V n.store s ∧ (dq n b x).1 = { n with store := s } := by
  unfold dq at h ⊢
  cases h1 : (dh n b).2 with
  | false => rw [h1] at h; simp at h
  | true =>
    rw [h1] at h
    have h2 : (dh n b).1 = { n with store := (fw n.store b).1 } := iY h1
    have h3 := sJ hn b
    simp only [Bool.not_true, cond_false] at h ⊢
    rw [iY h, h2]
    exact ⟨_, h3.trans (n9 h3.1 b x), rfl⟩
theorem zP {n : Nd} (hn : OkD V n.store.disk) {b : Int} {x : ByteArray} (h : (dq n b x).2 = false) : Bec V n (dq n b x).1 := by
  unfold dq at h ⊢
  have h3 := sJ hn b
  cases h1 : (dh n b).2 with
  | false =>
    have h2 : (dh n b).1 = dv { n with store := (fw n.store b).1 } := iP h1
    rw [h2]
    exact Bec.down h3.1 rfl rfl rfl
  | true =>
    rw [h1] at h
    have h2 : (dh n b).1 = { n with store := (fw n.store b).1 } := iY h1
    simp only [Bool.not_true, cond_false] at h ⊢
    rw [iP h, h2]
    exact Bec.down (h3.trans (n9 h3.1 b x)).1 rfl rfl rfl
theorem qe {n : Nd} (hn : NI V n) (h1 : n.state ≠ 1) (id block : Int) (x : ByteArray) : Rs V n (co n id block x) := by
  unfold co
  refine jR (fun h => ⟨zP hn.d (nbt h), dc.nil⟩) (fun h => ?_)
  obtain ⟨s, hs, he⟩ := zH hn.d (nbf h)
  rw [he]
  exact lm ⟨Bec.sto hn h1 hs rfl rfl rfl rfl rfl rfl rfl, dc.re _ _ _ _⟩ ⟨Bec.sto hn h1 hs rfl rfl rfl rfl rfl rfl rfl, dc.se _ (p := pkd 2 _ _) (by show (2 : Int) ≠ 1; decide)⟩
theorem vv {n : Nd} (hn : NI V n) (h1 : n.state ≠ 1) (block : Int) (x : ByteArray) : Rs V n (fH n block x) := by
  unfold fH
  refine jR (fun h => ⟨zP hn.d (nbt h), dc.nil⟩) (fun h => ?_)
  obtain ⟨s, hs, he⟩ := zH hn.d (nbf h)
  rw [he]
  exact ⟨Bec.sto hn h1 hs rfl rfl rfl rfl rfl rfl rfl, dc.se _ (p := pkb 3 _) (by show (3 : Int) ≠ 1; decide)⟩
theorem pG {n : Nd} (hn : NI V n) (h1 : n.state ≠ 1) (block : Int) : Bec V n (aG n block).1 := xG hn (oa hn.d block) (fun h => absurd h h1) _
theorem tJ {n : Nd} (hn : NI V n) (h1 : n.state ≠ 1) (block : Int) : Bec V n (ft n block) := by
  unfold ft
  exact av (p := fun x => Bec V n x) (Bec.refl hn) (pG hn h1 block)
theorem wc {n : Nd} (hn : NI V n) (h1 : n.state ≠ 1) (block : Int) : Rs V n (eH n block) := by
  unfold eH
  refine lm ⟨Bec.refl hn, dc.nil⟩ ?_
  have hw : Sk V n.store (dF n.store block).1 := oa hn.d block
  refine jR (fun h => ?_) (fun h => ?_)
  · have he : (aG { n with req := rq0 } block).1 = dv { ({ n with req := rq0 } : Nd) with store := (dF n.store block).1 } := iP (nbt h)
    rw [he]
    exact ⟨Bec.down hw.1 rfl rfl rfl, dc.re _ _ _ _⟩
  · have he : (aG { n with req := rq0 } block).1 = { ({ n with req := rq0 } : Nd) with store := (dF n.store block).1 } := iY (nbf h)
    rw [he]
    exact ⟨Bec.sto hn h1 hw rfl rfl rfl rfl rfl rfl rfl, .cons (nn _ _ _ _) (dc.se _ (p := pkb 4 _) (by show (4 : Int) ≠ 1; decide))⟩
theorem Bec.tgt {n m : Nd} (hn : NI V n) (hu : n.up = true) (h4 : n.state = 4) (hd : OkD V m.store.disk) (hs : SV V m.store.super) (id : m.id = n.id) (up : m.up = n.up) (st : m.state = n.state) (hk : m.ses = n.ses) (dr : m.draws = n.draws) (mi : m.mints = n.mints) (hp : m.peer = n.peer) : Bec V n m :=
  ⟨⟨hd, fun _ => hs, fun _ => by rw [hp]; exact hn.p h4, fun h0 => by rw [up, hu] at h0; exact absurd h0 (by simp)⟩, id, dr, mi, fun _ => ⟨hu, hk⟩, fun _ => Or.inl st, fun _ h _ => by omega, fun _ _ h => absurd h4 h⟩
theorem mh (hc : Cp V) {n : Nd} (hn : NI V n) (hu : n.up = true) (h4 : n.state = 4) : dc (dC n).2 ∧ ((∃ w s, OkD V s.disk ∧ SV V s.super ∧ (dC n).1 = { n with wanted := w, store := s }) ∨ ∃ m, OkD V m.store.disk ∧ m.id = n.id ∧ m.draws = n.draws ∧ m.mints = n.mints ∧ (dC n).1 = dv m) := by
  unfold dC
  cases h1 : (!n.store.super.inc || !(n.wanted == 0)) with
  | true => exact ⟨dc.nil, Or.inl ⟨n.wanted, n.store, hn.d, hn.s hu, rfl⟩⟩
  | false =>
    cases h2 : (fQ n.store.mask 0).isSome with
    | true => exact ⟨dc.se _ (p := pkb 5 _) (by show (5 : Int) ≠ 1; decide), Or.inl ⟨_, n.store, hn.d, hn.s hu, rfl⟩⟩
    | false =>
      have hb : SV V (ke n) := hc.ret _ _ (hn.p h4)
      cases h : (ae n (ke n)).2 with
      | false =>
        obtain ⟨m, k1, k2, k3, k4, k5⟩ := fZ hc hn.d hb h
        exact ⟨dc.nil, Or.inr ⟨m, k1, k2, k3, k4, k5⟩⟩
      | true =>
        obtain ⟨d, hd, he⟩ := dx hc hn.d hb h
        simp only [Bool.not_true, cond_false, Bool.false_eq_true]
        exact ⟨dc.se _ (p := pkk 8) (by decide), Or.inl ⟨n.wanted, ⟨d, ke n, n.store.mask⟩, hd, hb, he⟩⟩
theorem AS (hc : Cp V) {n : Nd} (hn : NI V n) (hu : n.up = true) (h4 : n.state = 4) (block : Int) (x : ByteArray) : Rs V n (o6 n block x) := by
  have h1 : n.state ≠ 1 := by omega
  unfold o6
  refine lm ⟨Bec.refl hn, dc.nil⟩ ?_
  have hp : Sk V n.store (dB n.store block x).1 := n9 hn.d block x
  refine jR (fun h => ?_) (fun h => ?_)
  · have he : (cW n block x).1 = dv { n with store := (dB n.store block x).1 } := iP (nbt h)
    rw [he]
    exact ⟨Bec.down hp.1 rfl rfl rfl, dc.nil⟩
  · have he : (cW n block x).1 = { n with store := (dB n.store block x).1 } := iY (nbf h)
    have hw : Sk V n.store (dF (dB n.store block x).1 block).1 := hp.trans (oa hp.1 block)
    refine jR (fun h2 => ?_) (fun h2 => ?_)
    · have he3 : (aG (cW n block x).1 block).1 = dv { (cW n block x).1 with store := (dF (cW n block x).1.store block).1 } := iP (nbt h2)
      rw [he3, he]
      exact ⟨Bec.down hw.1 rfl rfl rfl, dc.nil⟩
    · have he3 : (aG (cW n block x).1 block).1 = { (cW n block x).1 with store := (dF (cW n block x).1.store block).1 } := iY (nbf h2)
      have he4 : kD n block x = { n with store := (dF (dB n.store block x).1 block).1, wanted := 0 } := by
        unfold kD
        rw [he3, he]
      have hni : NI V (kD n block x) := by
        rw [he4]
        exact ⟨hw.1, fun h => by show SV V (dF (dB n.store block x).1 block).1.super; rw [hw.2]; exact hn.s h, hn.p, hn.z⟩
      have hq := mh hc hni (by rw [he4]; exact hu) (by rw [he4]; exact h4)
      refine ⟨?_, .app (dc.se _ (p := pkb 7 _) (by show (7 : Int) ≠ 1; decide)) hq.1⟩
      rcases hq.2 with ⟨w, s, k1, k2, k3⟩ | ⟨m, k1, k2, k3, k4, k5⟩
      · show Bec V n (dC (kD n block x)).1
        rw [k3, he4]
        exact Bec.tgt hn hu h4 k1 k2 rfl rfl rfl rfl rfl rfl rfl
      · show Bec V n (dC (kD n block x)).1
        rw [k5]
        rw [he4] at k2 k3 k4
        exact Bec.down k1 k2 k3 k4
theorem vB (hc : Cp V) {n : Nd} (hn : NI V n) (hu : n.up = true) (h3 : n.state = 3) : Rs V n (fE n) := by
  unfold fE
  have hb : SV V (dA n) := hc.ret _ _ (hn.s hu)
  refine jR (fun h => ⟨dy hc hn hb (nbt h), dc.nil⟩) (fun h => ?_)
  obtain ⟨d, hd, he⟩ := dx hc hn.d hb (nbf h)
  rw [he]
  exact ⟨Bec.com hn hu (by omega) hd hb (nB _) rfl ⟨rfl, rfl⟩ rfl (Or.inr ⟨Or.inl h3, rfl⟩) rfl rfl rfl rfl, dc.se _ (by decide)⟩
theorem wu (hc : Cp V) {n : Nd} (hn : NI V n) (hu : n.up = true) (h1 : n.state ≠ 1) (k : Int) : Rs V n (dR n k) := by
  unfold dR
  refine lm (lm ⟨Bec.refl hn, dc.se _ (by decide)⟩ ⟨Bec.flat hn hn.d hn.s rfl rfl rfl rfl rfl rfl rfl (fun h => absurd h h1) rfl, dc.se _ (by decide)⟩) ?_
  refine lm ⟨Bec.flat hn hn.d hn.s rfl rfl rfl rfl rfl rfl rfl (fun h => absurd h h1) rfl, dc.re _ _ _ _⟩ ?_
  refine lm ⟨Bec.flat hn hn.d hn.s rfl rfl rfl rfl rfl rfl rfl (fun h => absurd h h1) rfl, dc.nil⟩ ?_
  have hb : SV V (gd n) := hn.s hu
  refine jR (fun h => ⟨dy hc hn hb (nbt h), dc.nil⟩) (fun h => ?_)
  obtain ⟨d, hd, he⟩ := dx hc hn.d hb (nbf h)
  rw [he]
  exact ⟨Bec.com hn hu h1 hd hb rfl rfl ⟨rfl, rfl⟩ rfl (Or.inl rfl) rfl rfl rfl rfl, dc.re _ _ _ _⟩
theorem sj {k s : Int} {t : He} (h : (aB k s t).kind ≠ 4) : aB k s t = ⟨k, s⟩ ∧ t.pri = false := by
  unfold aB at h ⊢
  cases hb : (t.pri || k == 4) with
  | true => rw [hb] at h; exact absurd rfl h
  | false => simp at hb; exact ⟨rfl, hb.1⟩
structure Dec (x y : He) : Prop where
  src : (aj x y).src = 0 ∨ (aj x y).src = 1
  s0 : (aj x y).src = 0 → x.inc = false ∧ y.pri = false ∧ (y.inc = true ∨ y.dis = true ∨ y.v.cur = x.v.cur ∨ az x.v y.v.cur > 0)
  s1 : (aj x y).src = 1 → y.inc = false ∧ x.pri = false ∧ (x.inc = true ∨ x.dis = true ∨ x.v.cur = y.v.cur ∨ az y.v x.v.cur > 0)
theorem ix {x y : He} (h4 : (aj x y).kind ≠ 4) (h1 : (aj x y).kind ≠ 1) : Dec x y := by
  have key0 : ∀ k, (aj x y) = aB k 0 y → x.inc = false → (y.inc = true ∨ y.dis = true ∨ y.v.cur = x.v.cur ∨ az x.v y.v.cur > 0) → Dec x y := by
    intro k he hi hz
    have h := sj (k := k) (s := 0) (t := y) (by rw [← he]; exact h4)
    have hs : (aj x y).src = 0 := by rw [he, h.1]
    exact ⟨Or.inl hs, fun _ => ⟨hi, h.2, hz⟩, fun h5 => by omega⟩
  have key1 : ∀ k, (aj x y) = aB k 1 x → y.inc = false → (x.inc = true ∨ x.dis = true ∨ x.v.cur = y.v.cur ∨ az y.v x.v.cur > 0) → Dec x y := by
    intro k he hi hz
    have h := sj (k := k) (s := 1) (t := x) (by rw [← he]; exact h4)
    have hs : (aj x y).src = 1 := by rw [he, h.1]
    exact ⟨Or.inr hs, fun h5 => by omega, fun _ => ⟨hi, h.2, hz⟩⟩
  generalize hr : aj x y = r at key0 key1
  unfold aj at hr
  cases c1 : (!(x.blocks == y.blocks) || x.pri && y.pri || x.inc && y.inc || x.dis && y.dis) with
  | true =>
    exfalso
    rw [c1] at hr
    apply h4
    unfold aj
    rw [c1]
    rfl
  | false =>
    rw [c1] at hr
    cases c2 : x.inc with
    | true =>
      rw [c2] at hr
      refine key1 _ hr.symm ?_ (Or.inl c2)
      simp [c2] at c1
      exact c1.1.2
    | false =>
      rw [c2] at hr
      cases c3 : y.inc with
      | true => rw [c3] at hr; exact key0 _ hr.symm c2 (Or.inl c3)
      | false =>
        rw [c3] at hr
        cases c4 : x.dis with
        | true => rw [c4] at hr; exact key1 _ hr.symm c3 (Or.inr (Or.inl c4))
        | false =>
          rw [c4] at hr
          cases c5 : y.dis with
          | true => rw [c5] at hr; exact key0 _ hr.symm c2 (Or.inr (Or.inl c5))
          | false =>
            rw [c5] at hr
            cases c6 : x.v.cur == y.v.cur with
            | true =>
              rw [c6] at hr
              have e6 := eq_of_beq c6
              cases c7 : (mi x.mask == 0 && mi y.mask == 0) with
              | true =>
                exfalso
                apply h1
                unfold aj
                rw [c1, c2, c3, c4, c5, c6, c7]
                rfl
              | false =>
                rw [c7] at hr
                cases c8 : (y.pri || !x.pri && y.was && !x.was) with
                | true => rw [c8] at hr; exact key1 _ hr.symm c3 (Or.inr (Or.inr (Or.inl e6)))
                | false => rw [c8] at hr; exact key0 _ hr.symm c2 (Or.inr (Or.inr (Or.inl e6.symm)))
            | false =>
              rw [c6] at hr
              cases c9 : (decide (az x.v y.v.cur > 0) && decide (az y.v x.v.cur < 0)) with
              | true => rw [c9] at hr; simp at c9; exact key0 _ hr.symm c2 (Or.inr (Or.inr (Or.inr c9.1)))
              | false =>
                rw [c9] at hr
                cases c10 : (decide (az y.v x.v.cur > 0) && decide (az x.v y.v.cur < 0)) with
                | true => rw [c10] at hr; simp at c10; exact key1 _ hr.symm c3 (Or.inr (Or.inr (Or.inr c10.1)))
                | false =>
                  exfalso
                  apply h4
                  unfold aj
                  rw [c1, c2, c3, c4, c5, c6, c9, c10]
                  rfl
end
end Go.Dm
namespace Go.Dm
open Go
theorem pd {v : Ve} {g : Int} (h : az v g > 0) : g ≠ 0 ∧ (g = v.bit ∨ g = v.o0 ∨ g = v.o1) := by
  unfold az at h
  cases h0 : g == 0 with
  | true => rw [h0] at h; simp at h
  | false =>
    rw [h0] at h
    refine ⟨by simpa using h0, ?_⟩
    cases h1 : v.cur == g with
    | true => rw [h1] at h; simp at h
    | false =>
      rw [h1] at h
      cases h2 : v.bit == g with
      | true => exact Or.inl (eq_of_beq h2).symm
      | false =>
        rw [h2] at h
        cases h3 : v.o0 == g with
        | true => exact Or.inr (Or.inl (eq_of_beq h3).symm)
        | false =>
          rw [h3] at h
          cases h4 : v.o1 == g with
          | true => exact Or.inr (Or.inr (eq_of_beq h4).symm)
          | false => rw [h4] at h; simp at h
section
variable {V : Bool → Ve → Prop}
theorem Bq (hc : Cp V) {n : Nd} (hn : NI V n) (hu : n.up = true) (h1 : n.state = 1) {h : He} (hh : V h.inc h.v) {v : Vd} (m : BitVec 32) (hv : v.kind ≠ 4 → v.kind ≠ 1 → v.src ≠ n.id → h.inc = false) : Rs V n (rB n h v m) := by
  unfold rB
  refine jR (fun _ => ⟨Bec.refl hn, .cons (m3 _) .nil⟩) (fun k4 => jR (fun _ => ?_) (fun k1 => ?_))
  · have hb : SV V (dA n) := hc.ret _ _ (hn.s hu)
    refine jR (fun hk => ?_) (fun hk => ⟨dy hc hn hb hk, dc.nil⟩)
    obtain ⟨d, hd, he⟩ := dx hc hn.d hb hk
    rw [he]
    exact ⟨⟨⟨hd, fun _ => hb, fun h4 => absurd h4 (by simp [m2]), fun h0 => absurd (hu.symm.trans h0) (by simp)⟩, rfl, rfl, rfl, fun _ => ⟨hu, rfl⟩, fun _ => Or.inr (Or.inl ⟨h1, Or.inl rfl⟩), fun _ _ h5 => absurd h5 (by simp [m2]), fun _ _ _ => nB _⟩, dc.nil⟩
  · simp at k4 k1
    have hj : Sk V n.store (eq n.store m).1 := sF hn.d _
    refine jR (fun hk => ?_) (fun hk => ?_)
    · have he : (e7 n m).1 = dv { n with store := (eq n.store m).1 } := iP (nbt hk)
      rw [he]
      exact ⟨Bec.down hj.1 rfl rfl rfl, dc.nil⟩
    · have he : (e7 n m).1 = { n with store := (eq n.store m).1 } := iY (nbf hk)
      refine jR (fun _ => ?_) (fun hsrc => ?_)
      · rw [he]
        exact ⟨⟨⟨hj.1, fun hu => by show SV V (eq n.store m).1.super; rw [hj.2]; exact hn.s hu, fun h4 => absurd h4 (by simp [m2]), fun h0 => absurd (hu.symm.trans h0) (by simp)⟩, rfl, rfl, rfl, fun _ => ⟨hu, rfl⟩, fun _ => Or.inr (Or.inl ⟨h1, Or.inr (Or.inl rfl)⟩), fun _ _ h5 => absurd h5 (by simp [m2]), fun _ _ _ => by show (eq n.store m).1.super.v.cur = _; rw [hj.2]⟩, dc.nil⟩
      · have hi : h.inc = false := hv k4 k1 (by simpa using hsrc)
        have hs : (eq n.store m).1.super = n.store.super := hj.2
        have hb : SV V (kH (e7 n m).1 h) := by
          rw [he]
          show V true (mE (eq n.store m).1.super.v h.v.cur)
          rw [hs]
          exact hc.frm _ _ _ (hn.s hu) (hc.ve _ _ hh).1
        have hb2 : SV V (kH n h) := by
          show V true (mE n.store.super.v h.v.cur)
          exact hc.frm _ _ _ (hn.s hu) (hc.ve _ _ hh).1
        have hni : NI V (e7 n m).1 := by
          rw [he]
          exact ⟨hj.1, fun hu => by show SV V (eq n.store m).1.super; rw [hs]; exact hn.s hu, hn.p, hn.z⟩
        refine jR (fun hk2 => ?_) (fun hk2 => ?_)
        · obtain ⟨x, x1, x2, x3, x4, x5⟩ := fZ hc hni.d hb2 (nbt hk2)
          rw [x5]
          rw [he] at x2 x3 x4
          exact ⟨Bec.down x1 x2 x3 x4, dc.nil⟩
        · obtain ⟨d, hd, he2⟩ := dx hc hni.d hb2 (nbf hk2)
          have he3 : m2 (ae (e7 n m).1 (kH n h)).1 h 4 = { n with store := ⟨d, kH n h, (eq n.store m).1.mask⟩, state := 4, peerPri := h.pri, peer := h } := by
            rw [he2, he]
            rfl
          have hni2 : NI V (m2 (ae (e7 n m).1 (kH n h)).1 h 4) := by
            rw [he3]
            exact ⟨hd, fun _ => hb2, fun _ => by show V false h.v; rw [← hi]; exact hh, fun h0 => absurd (hu.symm.trans h0) (by simp)⟩
          have hq := mh hc hni2 (by rw [he3]; exact hu) (by rw [he3])
          refine ⟨?_, hq.1⟩
          rcases hq.2 with ⟨w, s, q1, q2, q3⟩ | ⟨x, q1, q2, q3, q4, q5⟩
          · rw [q3, he3]
            exact ⟨⟨q1, fun _ => q2, fun _ => by show V false h.v; rw [← hi]; exact hh, fun h0 => absurd (hu.symm.trans h0) (by simp)⟩, rfl, rfl, rfl, fun _ => ⟨hu, rfl⟩, fun _ => Or.inr (Or.inl ⟨h1, Or.inr (Or.inr rfl)⟩), fun _ _ h5 => absurd h5 (show (4 : Int) ≠ 1 by decide), fun _ h5 _ => absurd rfl h5⟩
          · rw [q5]
            rw [he3] at q2 q3 q4
            exact Bec.down q1 q2 q3 q4
theorem ue (hc : Cp V) {n : Nd} (hn : NI V n) (hu : n.up = true) (h1 : n.state = 1) {h : He} {v : Vd} (m : BitVec 32) (h4 : (rB n h v m).1.state = 4) : v.kind ≠ 4 ∧ v.kind ≠ 1 ∧ v.src ≠ n.id := by
  unfold rB at h4
  cases k4 : v.kind == 4 with
  | true => rw [k4] at h4; simp at h4; omega
  | false =>
    rw [k4] at h4
    cases k1 : v.kind == 1 with
    | true =>
      exfalso
      rw [k1] at h4
      have hb : SV V (dA n) := hc.ret _ _ (hn.s hu)
      cases hk : (ae n (dA n)).2 with
      | true => rw [hk] at h4; simp [m2] at h4
      | false =>
        obtain ⟨x, _, _, _, _, x5⟩ := fZ hc hn.d hb hk
        rw [hk, x5] at h4
        simp [dv] at h4
    | false =>
      rw [k1] at h4
      refine ⟨by simpa using k4, by simpa using k1, fun hsrc => ?_⟩
      cases hk : (e7 n m).2 with
      | false =>
        have he : (e7 n m).1 = dv { n with store := (eq n.store m).1 } := iP hk
        rw [hk, he] at h4
        simp [dv] at h4
      | true =>
        rw [hk, hsrc] at h4
        simp [m2] at h4
theorem oo {n : Nd} {h : He} (hid : n.id = 0 ∨ n.id = 1) (k4 : (aW n h).1.kind ≠ 4) (k1 : (aW n h).1.kind ≠ 1) (hs : (aW n h).1.src ≠ n.id) : h.inc = false ∧ (n.store.super.inc = true ∨ n.store.super.dis = true ∨ gP n = h.v.cur ∨ az h.v (gP n) > 0) := by
  unfold aW at k4 k1 hs
  rcases hid with h0 | h0
  · have hb : (n.id == 1) = false := by rw [h0]; rfl
    rw [hb] at k4 k1 hs
    have hd := ix k4 k1
    have hs1 : (aj (e9 n) h).src = 1 := by
      rcases hd.src with h5 | h5
      · exact absurd h5 (by rw [h0] at hs; exact hs)
      · exact h5
    have := hd.s1 hs1
    exact ⟨this.1, this.2.2⟩
  · have hb : (n.id == 1) = true := by rw [h0]; rfl
    rw [hb] at k4 k1 hs
    have hd := ix k4 k1
    have hs1 : (aj h (e9 n)).src = 0 := by
      rcases hd.src with h5 | h5
      · exact h5
      · exact absurd h5 (by rw [h0] at hs; exact hs)
    have := hd.s0 hs1
    exact ⟨this.1, this.2.2⟩
def HeB (V : Bool → Ve → Prop) (b : ByteArray) : Prop := (bB b).2 = 0 → (bB b).1.kind = 1 → V (bB b).1.hello.inc (bB b).1.hello.v
theorem pF {b : ByteArray} {s : Int} (h : (ap b s).2 = 0) : (bB b).2 = 0 ∧ (bB b).1.ses = s ∧ (ap b s).1 = (bB b).1 := by
  unfold ap at h ⊢
  cases h1 : !((bB b).2 == 0) with
  | true =>
    rw [h1] at h
    exfalso
    have : (bB b).2 = 0 := h
    rw [this] at h1
    simp at h1
  | false =>
    rw [h1] at h
    cases h2 : !((bB b).1.ses == s) with
    | true => rw [h2] at h; simp at h
    | false => exact ⟨by simpa using h1, by simpa using h2, rfl⟩
theorem xR {b c : Bool} (h : (bif b then false else c) = true) : b = false ∧ c = true := by
  cases b
  · exact ⟨rfl, h⟩
  · exact absurd h (by simp)
theorem mX {n : Nd} {p : Pk} (h : bt n p = true) : n.up = true ∧ ((p.kind = 1 ∧ n.state = 1) ∨ (p.kind ≠ 1 ∧ (n.state = 2 ∨ n.state = 3 ∨ n.state = 4) ∧ (p.kind = 6 → n.state = 4) ∧ (p.kind = 8 → n.state = 3) ∧ (p.kind = 9 → n.state = 4))) := by
  unfold bt at h
  have h0 := xR h
  simp only [Bool.or_eq_false_iff, Bool.not_eq_false'] at h0
  refine ⟨h0.1.1, ?_⟩
  have h := h0.2
  cases c1 : p.kind == 1 with
  | true => rw [c1] at h; exact Or.inl ⟨eq_of_beq c1, by simpa using h⟩
  | false =>
    rw [c1] at h
    have n1 : p.kind ≠ 1 := by simpa using c1
    refine Or.inr ⟨n1, ?_⟩
    cases c2 : p.kind == 2 with
    | true => rw [c2] at h; simp at h; have := eq_of_beq c2; omega
    | false =>
      rw [c2] at h
      cases c3 : p.kind == 3 with
      | true => rw [c3] at h; simp at h; have := eq_of_beq c3; omega
      | false =>
        rw [c3] at h
        cases c4 : p.kind == 4 with
        | true => rw [c4] at h; simp at h; have := eq_of_beq c4; omega
        | false =>
          rw [c4] at h
          cases c5 : (p.kind == 5 || p.kind == 7 || p.kind == 8) with
          | true => rw [c5] at h; simp at h c5; omega
          | false =>
            rw [c5] at h
            cases c6 : p.kind == 6 with
            | true => rw [c6] at h; simp at h; have := eq_of_beq c6; omega
            | false =>
              rw [c6] at h
              cases c7 : p.kind == 9 with
              | true => rw [c7] at h; simp at h; have := eq_of_beq c7; omega
              | false =>
                rw [c7] at h
                simp at c5 c6 c7
                cases c8 : (p.kind == 10 || p.kind == 13) with
                | true => rw [c8] at h; simp at h; omega
                | false =>
                  rw [c8] at h
                  cases c9 : (p.kind == 11 || p.kind == 12) with
                  | true => rw [c9] at h; simp at h; omega
                  | false => rw [c9] at h; simp at h
theorem xP (hc : Cp V) {n : Nd} (hn : NI V n) (hid : n.id = 0 ∨ n.id = 1) {p : Pk} (hf : bt n p = true) (hh : p.kind = 1 → V p.hello.inc p.hello.v) : Rs V n (fv n p) := by
  obtain ⟨hu, hk⟩ := mX hf
  unfold fv
  rcases hk with ⟨k1, s1⟩ | ⟨k1, s1, k6, k8, k9⟩
  · have : (p.kind == 1) = true := by rw [k1]; rfl
    rw [this]
    exact Bq hc hn hu s1 (hh k1) _ (fun a b c => (oo hid a b c).1)
  · have n1 : n.state ≠ 1 := by omega
    refine jR (fun h => absurd (eq_of_beq h) k1) (fun _ => ?_)
    refine lm (vv hn n1 _ _) (lm (wc hn n1 _) (lm ⟨pG hn n1 _, dc.nil⟩ (lm ⟨Bec.refl hn, dc.se _ (p := pkd 6 _ _) (by show (6 : Int) ≠ 1; decide)⟩ ?_)))
    refine jR (fun h => AS hc hn hu (k6 (eq_of_beq h)) _ _) (fun _ => ?_)
    refine lm ⟨tJ hn n1 _, dc.nil⟩ ?_
    refine jR (fun h => vB hc hn hu (k8 (eq_of_beq h))) (fun _ => ?_)
    refine jR (fun h => ⟨Bec.com (d := n.store.disk) (b := n.store.super) hn hu n1 hn.d (hn.s hu) rfl rfl ⟨rfl, rfl⟩ rfl (Or.inr ⟨Or.inr (k9 (eq_of_beq h)), rfl⟩) rfl rfl rfl rfl, dc.nil⟩) (fun _ => wu hc hn hu n1 _)
theorem i5 (hc : Cp V) {n : Nd} (hn : NI V n) (hid : n.id = 0 ∨ n.id = 1) {b : ByteArray} (hb : (ap b n.ses).2 = 0 → HeB V b) : Rs V n (bc n b) := by
  unfold bc
  refine lm ⟨Bec.refl hn, dc.nil⟩ (lm ⟨Bec.refl hn, dc.nil⟩ (jR (fun _ => ⟨Bec.refl hn, .cons (m3 _) .nil⟩) (fun h => ?_)))
  simp only [Bool.or_eq_false_iff, Bool.not_eq_false'] at h
  have h0 : (ap b n.ses).2 = 0 := eq_of_beq h.1
  have h1 := pF h0
  refine xP hc hn hid h.2 (fun hk => ?_)
  rw [h1.2.2] at hk ⊢
  exact hb h0 h1.1 hk
theorem iD (hc : Cp V) {n : Nd} (hn : NI V n) (hid : n.id = 0 ∨ n.id = 1) {b : ByteArray} (hb : (ap b n.ses).2 = 0 → HeB V b) (h4 : (bc n b).1.state = 4) (hs : n.state ≠ 4) :
    n.up = true ∧ n.state = 1 ∧ (ap b n.ses).2 = 0 ∧ (bB b).2 = 0 ∧ (bB b).1.kind = 1 ∧ (aW n (bB b).1.hello).1.kind ≠ 4 ∧ (aW n (bB b).1.hello).1.kind ≠ 1 ∧ (aW n (bB b).1.hello).1.src ≠ n.id := by
  have hr := (i5 hc hn hid hb).1
  have hup : (bc n b).1.up = true := by
    cases hu : (bc n b).1.up with
    | true => rfl
    | false => have := hr.ok.z hu; omega
  have hst := hr.st hup
  have s1 : n.state = 1 := by omega
  have hu := (hr.up hup).1
  unfold bc at h4
  cases c1 : (!n.up || n.state == 0) with
  | true => rw [c1] at h4; simp at h4; omega
  | false =>
    rw [c1] at h4
    cases c2 : (ap b n.ses).2 == 16 with
    | true => rw [c2] at h4; simp at h4; omega
    | false =>
      rw [c2] at h4
      cases c3 : (!((ap b n.ses).2 == 0) || !bt n (ap b n.ses).1) with
      | true => rw [c3] at h4; simp at h4; omega
      | false =>
        rw [c3] at h4
        simp only [Bool.or_eq_false_iff, Bool.not_eq_false'] at c3
        have h0 : (ap b n.ses).2 = 0 := eq_of_beq c3.1
        have h1 := pF h0
        have hf := (mX c3.2).2
        rw [h1.2.2] at hf h4
        have hk : (bB b).1.kind = 1 := by omega
        have hk2 : ((bB b).1.kind == 1) = true := by rw [hk]; rfl
        have h5 : (vi n (bB b).1.hello).1.state = 4 := by
          have h6 : (fv n (bB b).1).1.state = 4 := h4
          unfold fv at h6
          rw [hk2] at h6
          exact h6
        obtain ⟨v1, v2, v3⟩ := ue hc hn hu s1 _ h5
        exact ⟨hu, s1, h0, h1.1, hk, v1, v2, v3⟩
end
end Go.Dm
namespace Go.Dm
open Go
theorem ov (T : Tre) : Cp (PV T) := ⟨fun _ _ h => h.1, fun _ _ h => h.ret, fun _ _ _ h hg => h.frm hg⟩
theorem NI.grow {T : Tre} {a p : Int} (ht : de ((a, p) :: T)) {n : Nd} (h : NI (PV T) n) : NI (PV ((a, p) :: T)) n := h.more fun _ _ k => k.more ht
def Fr (T : Tre) (n : Nd) : Prop := ∀ g ∈ n.draws, g ≠ 0 ∧ g ≠ 7 ∧ g ∉ qD T ∧ R64 g
structure Sx (T T' : Tre) (n m : Nd) : Prop where
  ok : NI (PV T') m
  tr : de T'
  id : m.id = n.id
  hi : (T' = T ∧ m.draws = n.draws ∧ m.mints = n.mints) ∨ (∃ g, T' = (g, gP n) :: T ∧ n.draws = g :: m.draws ∧ m.mints = n.mints ++ [⟨g, gP n, n.id⟩])
theorem Sx.bec {T : Tre} (ht : de T) {n m : Nd} (h : Bec (PV T) n m) : Sx T T n m := ⟨h.ok, ht, h.id, Or.inl ⟨rfl, h.dr, h.mi⟩⟩
theorem Sx.flat {T : Tre} (ht : de T) {n m : Nd} (h : NI (PV T) m) (id : m.id = n.id) (dr : m.draws = n.draws) (mi : m.mints = n.mints) : Sx T T n m := ⟨h, ht, id, Or.inl ⟨rfl, dr, mi⟩⟩
structure Mnt (T : Tre) (g : Int) (n m : Nd) : Prop where
  ok : NI (PV ((g, gP n) :: T)) m
  tr : de ((g, gP n) :: T)
  id : m.id = n.id
  dr : n.draws = g :: m.draws
  mi : m.mints = n.mints ++ [⟨g, gP n, n.id⟩]
  st : m.state = 0
theorem Mnt.sx {T : Tre} {g : Int} {n m : Nd} (h : Mnt T g n m) : Sx T ((g, gP n) :: T) n m := ⟨h.ok, h.tr, h.id, Or.inr ⟨g, rfl, h.dr, h.mi⟩⟩
theorem lQ {T : Tre} (ht : de T) {n : Nd} (hn : NI (PV T) n) (hu : n.up = true) (h0 : n.state = 0) (hf : Fr T n) :
    aH n = (n, 14) ∨ ∃ g, Mnt T g n (aH n).1 ∧ (((aH n).2 = 6 ∧ (aH n).1.up = false) ∨ ((aH n).2 = 0 ∧ (aH n).1.up = true)) := by
  unfold aH
  cases hd : n.draws with
  | nil => exact Or.inl rfl
  | cons g r =>
    right
    refine ⟨g, ?_⟩
    obtain ⟨f1, f2, f3, f4⟩ := hf g (by rw [hd]; simp)
    have hk : Kn T (gP n) := (hn.s hu).2.1
    have ht' : de ((g, gP n) :: T) := ⟨f1, f2, f3, hk, ht⟩
    have hg := hn.grow ht'
    have hb : SV (PV ((g, gP n) :: T)) (ly n g) := (hn.s hu).mint f4 ht'
    have hv : OkD (PV ((g, gP n) :: T)) (kV n g r).store.disk := hg.d
    show Mnt T g n (f9 n g r).1 ∧ (((f9 n g r).2 = 6 ∧ (f9 n g r).1.up = false) ∨ ((f9 n g r).2 = 0 ∧ (f9 n g r).1.up = true))
    unfold f9
    have z : (g == 0) = false := by simpa using f1
    rw [z]
    simp only [cond_false]
    cases hk2 : (ae (kV n g r) (ly n g)).2 with
    | false =>
      obtain ⟨x, x1, x2, x3, x4, x5⟩ := fZ (ov _) hv hb hk2
      simp only [Bool.not_false, cond_true]
      rw [x5]
      refine ⟨⟨⟨sC x1, fun h => absurd h (by simp [dv]), fun h => absurd h (by simp [dv]), fun _ => rfl⟩, ht', x2, ?_, x4, rfl⟩, Or.inl ⟨by trivial, by trivial⟩⟩
      show n.draws = g :: x.draws
      rw [x3, hd]; rfl
    | true =>
      obtain ⟨d, hdd, he⟩ := dx (ov _) hv hb hk2
      simp only [Bool.not_true, cond_false]
      rw [he]
      refine ⟨⟨⟨hdd, fun _ => hb, fun h4 => ?_, fun h => absurd (hu.symm.trans h) (by simp)⟩, ht', rfl, hd, rfl, h0⟩, Or.inr ⟨by trivial, hu⟩⟩
      have : n.state = 4 := h4
      omega
theorem te {T : Tre} (ht : de T) {n : Nd} (hn : NI (PV T) n) (hf : Fr T n) (w : Bool) : (∃ T', Sx T T' n (dO n w).1.1) ∧ (dO n w).1.1.state = 0 := by
  unfold dO
  cases hu : n.up with
  | false => exact ⟨⟨T, Sx.flat ht hn rfl rfl rfl⟩, hn.z hu⟩
  | true =>
    simp only [Bool.not_true, cond_false]
    have key : (∃ T', Sx T T' n (ai n).1) ∧ (ai n).1.state = 0 := by
      have hl : NI (PV T) (gg n) := ⟨hn.d, hn.s, fun h4 => absurd h4 (by simp [gg]), fun _ => rfl⟩
      unfold ai
      cases hs : n.state == 0 with
      | true => exact ⟨⟨T, Sx.flat ht hn rfl rfl rfl⟩, eq_of_beq hs⟩
      | false =>
        simp only [cond_false]
        cases hr : n.req.on with
        | false => exact ⟨⟨T, Sx.flat ht hl rfl rfl rfl⟩, rfl⟩
        | true =>
          simp only [Bool.not_true, cond_false]
          have hm : (∃ T', Sx T T' n (aH (gg n)).1) ∧ (aH (gg n)).1.state = 0 := by
            rcases lQ ht hl hu rfl hf with h | ⟨g, h, _⟩
            · rw [h]; exact ⟨⟨T, Sx.flat ht hl rfl rfl rfl⟩, rfl⟩
            · exact ⟨⟨_, h.ok, h.tr, h.id, Or.inr ⟨g, rfl, h.dr, h.mi⟩⟩, h.st⟩
          exact av (p := fun (x : Nd × List Ou) => (∃ T', Sx T T' n x.1) ∧ x.1.state = 0) hm hm
    exact av (p := fun (x : (Nd × Bool) × List Ou) => (∃ T', Sx T T' n x.1.1) ∧ x.1.1.state = 0) key key
theorem qR {n : Nd} {b : Int} {x : ByteArray} (h : bQ n b x = 0) : n.up = true ∧ n.state ≠ 1 ∧ n.req.on = false ∧ n.primary = true := by
  unfold bQ at h
  cases h1 : n.up with
  | false => rw [h1] at h; simp at h
  | true =>
    rw [h1] at h
    cases h2 : n.primary with
    | false => rw [h2] at h; simp at h
    | true =>
      rw [h2] at h
      cases h3 : (decide (b < 0) || decide (b ≥ n.store.super.blocks)) with
      | true => rw [h3] at h; simp at h
      | false =>
        rw [h3] at h
        cases h4 : !((x.size : Int) == 8) with
        | true => rw [h4] at h; simp at h
        | false =>
          rw [h4] at h
          cases h5 : (n.req.on || n.state == 1) with
          | true => rw [h5] at h; simp at h
          | false => simp at h5; exact ⟨rfl, h5.2, h5.1, rfl⟩
theorem pL {T : Tre} (ht : de T) {n : Nd} (hn : NI (PV T) n) (hf : Fr T n) (id b : Int) (x : ByteArray) :
    dc (ci n id b x).2 ∧ (Bec (PV T) n (ci n id b x).1 ∨ (n.state = 0 ∧ (ci n id b x).1.state = 0 ∧ ∃ T', Sx T T' n (ci n id b x).1)) := by
  unfold ci
  cases hb : !(bQ n b x == 0) with
  | true => exact ⟨dc.re _ _ _ _, Or.inl (Bec.refl hn)⟩
  | false =>
    simp only [cond_false]
    obtain ⟨hu, h1, _, _⟩ := qR (n := n) (b := b) (x := x) (by simpa using hb)
    cases hs : (n.state == 0 && !n.minted) with
    | false =>
      have := qe hn h1 id b x
      exact ⟨this.2, Or.inl this.1⟩
    | true =>
      simp only [cond_true]
      have h0 : n.state = 0 := by simp at hs; exact hs.1
      rcases lQ ht hn hu h0 hf with h | ⟨g, h, h2⟩
      · rw [h]; exact ⟨dc.re _ _ _ _, Or.inl (Bec.refl hn)⟩
      · rcases h2 with ⟨h2, h3⟩ | ⟨h2, h3⟩
        · rw [h2]
          exact ⟨dc.nil, Or.inr ⟨h0, h.st, _, h.sx⟩⟩
        · rw [h2]
          have hw := qe h.ok (by rw [h.st]; decide) id b x
          have hw1 := hw.1
          refine ⟨hw.2, Or.inr ⟨h0, ?_, _, hw1.ok, h.tr, hw1.id.trans h.id, Or.inr ⟨g, rfl, ?_, ?_⟩⟩⟩
          · show (co (aH n).1 id b x).1.state = 0
            cases hu2 : (co (aH n).1 id b x).1.up with
            | false => exact hw1.ok.z hu2
            | true =>
              have := hw1.st hu2
              rw [h.st] at this
              omega
          · show n.draws = g :: (co (aH n).1 id b x).1.draws
            rw [hw1.dr]; exact h.dr
          · show (co (aH n).1 id b x).1.mints = _
            rw [hw1.mi]; exact h.mi
theorem gE {T : Tre} (ht : de T) {n : Nd} (hn : NI (PV T) n) (ks : List Bool) : Sx T T n (cc n ks).1 ∧ ((cc n ks).1 = n ∨ (n.up = false ∧ (cc n ks).1.state = 0)) := by
  unfold cc
  cases hu : n.up with
  | true => exact ⟨Sx.flat ht hn rfl rfl rfl, Or.inl rfl⟩
  | false =>
    simp only [cond_false]
    have hr := wJ hn.d ks
    have h0 := hn.z hu
    cases ha : !((bE (cL n.store.disk ks)).2 == 0) with
    | true =>
      simp only [cond_true]
      refine ⟨Sx.flat ht ⟨hr, fun h => absurd h (by simp), fun h => ?_, fun _ => h0⟩ rfl rfl rfl, Or.inr ⟨by trivial, h0⟩⟩
      have : n.state = 4 := h
      omega
    | false =>
      have h1 := vy hr (by simpa using ha)
      simp only [cond_false]
      exact ⟨Sx.flat ht ⟨by show OkD _ (bE (cL n.store.disk ks)).1.disk; rw [h1.1]; exact hr, fun _ => h1.2, fun h => absurd h (show (0 : Int) ≠ 4 by decide), fun _ => rfl⟩ rfl rfl rfl, Or.inr ⟨by trivial, by trivial⟩⟩
abbrev one (x y : Int) : Nat := if x = y then 1 else 0
structure CI (fut : List Int) (T : Tre) (a b : Nd) : Prop where
  tr : de T
  na : NI (PV T) a
  nb : NI (PV T) b
  ia : a.id = 0
  ib : b.id = 1
  mt : Mts (a.mints ++ b.mints) T
  ga : ∀ x ∈ a.mints, x.n = 0
  gb : ∀ x ∈ b.mints, x.n = 1
  ct : ∀ x : Int, a.draws.count x + b.draws.count x + (qD T).count x + fut.count x + one x 0 + one x 7 ≤ 1
  ra : ∀ x ∈ a.draws, R64 x
  rb : ∀ x ∈ b.draws, R64 x
  rf : ∀ x ∈ fut, R64 x
theorem Cg {x : Int} {p q g f : List Int} (h : p.count x + q.count x + g.count x + f.count x + one x 0 + one x 7 ≤ 1) (hx : x ∈ p) : x ≠ 0 ∧ x ≠ 7 ∧ x ∉ g := by
  have h1 : 0 < p.count x := List.count_pos_iff.2 hx
  refine ⟨fun h0 => ?_, fun h7 => ?_, fun hg => ?_⟩
  · have : one x 0 = 1 := if_pos h0
    omega
  · have : one x 7 = 1 := if_pos h7
    omega
  · have := List.count_pos_iff.2 hg
    omega
theorem CI.fa {fut : List Int} {T : Tre} {a b : Nd} (h : CI fut T a b) : Fr T a := fun g hg => by
  obtain ⟨h1, h2, h3⟩ := Cg (h.ct g) hg
  exact ⟨h1, h2, h3, h.ra g hg⟩
theorem CI.fb {fut : List Int} {T : Tre} {a b : Nd} (h : CI fut T a b) : Fr T b := fun g hg => by
  have hc := h.ct g
  obtain ⟨h1, h2, h3⟩ := Cg (p := b.draws) (q := a.draws) (g := qD T) (f := fut) (x := g) (by omega) hg
  exact ⟨h1, h2, h3, h.rb g hg⟩
theorem CI.stepA {fut : List Int} {T T' : Tre} {a b m : Nd} (h : CI fut T a b) (hs : Sx T T' a m) : CI fut T' m b := by
  rcases hs.hi with ⟨rfl, hd, hm⟩ | ⟨g, rfl, hd, hm⟩
  · exact ⟨hs.tr, hs.ok, h.nb, hs.id.trans h.ia, h.ib, by rw [hm]; exact h.mt, by rw [hm]; exact h.ga, h.gb, by rw [hd]; exact h.ct, by rw [hd]; exact h.ra, h.rb, h.rf⟩
  · refine ⟨hs.tr, hs.ok, h.nb.grow hs.tr, hs.id.trans h.ia, h.ib, ⟨fun x hx => ?_, fun y hy => ?_⟩, fun x hx => ?_, h.gb, fun x => ?_, fun x hx => h.ra x (by rw [hd]; simp [hx]), h.rb, h.rf⟩
    · rw [hm] at hx
      simp only [List.mem_append, List.mem_singleton] at hx
      rcases hx with (hx | hx) | hx
      · exact List.mem_cons_of_mem _ (h.mt.to x (by simp [hx]))
      · rw [hx]; simp
      · exact List.mem_cons_of_mem _ (h.mt.to x (by simp [hx]))
    · rw [hm]
      rcases List.mem_cons.1 hy with hy | hy
      · exact ⟨⟨g, gP a, a.id⟩, by simp, hy.symm⟩
      · obtain ⟨z, hz, he⟩ := h.mt.of y hy
        refine ⟨z, ?_, he⟩
        simp only [List.mem_append] at hz ⊢
        rcases hz with hz | hz
        · exact Or.inl (Or.inl hz)
        · exact Or.inr hz
    · rw [hm] at hx
      simp only [List.mem_append, List.mem_singleton] at hx
      rcases hx with hx | hx
      · exact h.ga x hx
      · rw [hx]; exact h.ia
    · have hc := h.ct x
      rw [hd, List.count_cons] at hc
      show m.draws.count x + b.draws.count x + (g :: qD T).count x + _ + _ + _ ≤ 1
      rw [List.count_cons]
      omega
theorem CI.stepB {fut : List Int} {T T' : Tre} {a b m : Nd} (h : CI fut T a b) (hs : Sx T T' b m) : CI fut T' a m := by
  rcases hs.hi with ⟨rfl, hd, hm⟩ | ⟨g, rfl, hd, hm⟩
  · exact ⟨hs.tr, h.na, hs.ok, h.ia, hs.id.trans h.ib, by rw [hm]; exact h.mt, h.ga, by rw [hm]; exact h.gb, by rw [hd]; exact h.ct, h.ra, by rw [hd]; exact h.rb, h.rf⟩
  · refine ⟨hs.tr, h.na.grow hs.tr, hs.ok, h.ia, hs.id.trans h.ib, ⟨fun x hx => ?_, fun y hy => ?_⟩, h.ga, fun x hx => ?_, fun x => ?_, h.ra, fun x hx => h.rb x (by rw [hd]; simp [hx]), h.rf⟩
    · rw [hm] at hx
      simp only [List.mem_append, List.mem_singleton] at hx
      rcases hx with hx | hx | hx
      · exact List.mem_cons_of_mem _ (h.mt.to x (by simp [hx]))
      · exact List.mem_cons_of_mem _ (h.mt.to x (by simp [hx]))
      · rw [hx]; simp
    · rw [hm]
      rcases List.mem_cons.1 hy with hy | hy
      · exact ⟨⟨g, gP b, b.id⟩, by simp, hy.symm⟩
      · obtain ⟨z, hz, he⟩ := h.mt.of y hy
        refine ⟨z, ?_, he⟩
        simp only [List.mem_append] at hz ⊢
        rcases hz with hz | hz
        · exact Or.inl hz
        · exact Or.inr (Or.inl hz)
    · rw [hm] at hx
      simp only [List.mem_append, List.mem_singleton] at hx
      rcases hx with hx | hx
      · exact h.gb x hx
      · rw [hx]; exact h.ib
    · have hc := h.ct x
      rw [hd, List.count_cons] at hc
      show a.draws.count x + m.draws.count x + (g :: qD T).count x + _ + _ + _ ≤ 1
      rw [List.count_cons]
      omega
theorem CI.less {f f' : List Int} {T : Tre} {a b : Nd} (h : CI f T a b) (hc : ∀ x, f'.count x ≤ f.count x) : CI f' T a b :=
  ⟨h.tr, h.na, h.nb, h.ia, h.ib, h.mt, h.ga, h.gb, fun x => by have := h.ct x; have := hc x; omega, h.ra, h.rb, fun x hx => h.rf x (List.count_pos_iff.1 (Nat.lt_of_lt_of_le (List.count_pos_iff.2 hx) (hc x)))⟩
end Go.Dm
namespace Go.Dm
open Go
def uU (h : He) (b : ByteArray) : Prop := (bB b).2 = 0 → (bB b).1.kind = 1 → (bB b).1.hello = h
theorem uU.no {h : He} {b : ByteArray} (k : Bl b) : uU h b := fun h0 h1 => absurd h1 (k h0)
theorem dc.is {l : List Ou} (h : dc l) (H : He) : ∀ o ∈ l, o.kind = 1 → uU H o.data := fun o ho hk => uU.no (h o ho hk)
structure GrH (T : Tre) (a b : Nd) (k : Lk) (H0 H1 : He) : Prop where
  u0 : a.up = true
  u1 : b.up = true
  s0 : a.state ≠ 0
  s1 : b.state ≠ 0
  k0 : a.ses = k.ses
  k1 : b.ses = k.ses
  p0 : PV T H0.inc H0.v
  p1 : PV T H1.inc H1.v
  o0 : a.state = 1 → e9 a = H0
  o1 : b.state = 1 → e9 b = H1
  c0 : a.state = 4 → (aj H0 H1).src = 1
  c1 : b.state = 4 → (aj H0 H1).src = 0
  d0 : (aj H0 H1).src ≠ 1 → gP a = H0.v.cur
  d1 : (aj H0 H1).src ≠ 0 → gP b = H1.v.cur
  l0 : ∀ x ∈ k.to0, uU H1 x
  l1 : ∀ x ∈ k.to1, uU H0 x
structure LI (T : Tre) (a b : Nd) (k : Lk) : Prop where
  dn : k.up = false → a.state = 0 ∧ b.state = 0
  up : k.up = true → ∃ H0 H1, GrH T a b k H0 H1
def Inv (fut : List Int) (T : Tre) (c : Cl) : Prop := CI fut T c.n0 c.n1 ∧ LI T c.n0 c.n1 c.link
theorem cg (i : Int) : ∀ (l : List Ou) (k : Lk), (bA i k l).up = k.up ∧ (bA i k l).ses = k.ses
  | [], k => ⟨rfl, rfl⟩
  | o :: l, k => by
    have h := cg i l (bif o.kind == 1 && k.up then (bU k (IntKind.wrap .i64 (1 - i)) [o.data]).1 else k)
    have h2 : (bif o.kind == 1 && k.up then (bU k (IntKind.wrap .i64 (1 - i)) [o.data]).1 else k).up = k.up ∧ (bif o.kind == 1 && k.up then (bU k (IntKind.wrap .i64 (1 - i)) [o.data]).1 else k).ses = k.ses := by
      refine av (p := fun (x : Lk) => x.up = k.up ∧ x.ses = k.ses) ?_ ⟨rfl, rfl⟩
      unfold bU
      exact av (p := fun (x : Lk × Int) => x.1.up = k.up ∧ x.1.ses = k.ses) ⟨rfl, rfl⟩ (av (p := fun (x : Lk × Int) => x.1.up = k.up ∧ x.1.ses = k.ses) ⟨rfl, rfl⟩ (av (p := fun (x : Lk × Int) => x.1.up = k.up ∧ x.1.ses = k.ses) ⟨rfl, rfl⟩ ⟨rfl, rfl⟩))
    exact ⟨h.1.trans h2.1, h.2.trans h2.2⟩
structure Sam (n m : Nd) : Prop where
  up : m.up = n.up
  st : m.state = n.state
  ses : m.ses = n.ses
  own : e9 m = e9 n
  cur : gP m = gP n
theorem iy {fut : List Int} {T : Tre} {c : Cl} (h : CI fut T c.n0 c.n1) : ∃ T', Inv fut T' (dJ c).1 ∧ (dJ c).1.n0.state = 0 ∧ (dJ c).1.n1.state = 0 := by
  obtain ⟨⟨T1, h1⟩, s1⟩ := te h.tr h.na h.fa c.w0
  have k1 := h.stepA h1
  obtain ⟨⟨T2, h2⟩, s2⟩ := te k1.tr k1.nb k1.fb c.w1
  exact ⟨T2, ⟨k1.stepB h2, ⟨fun _ => ⟨s1, s2⟩, fun hu => absurd hu (by simp [dJ, aT])⟩⟩, s1, s2⟩
theorem lr : ∀ (l : List Ou) (k : Lk), (bA 0 k l).to0 = k.to0 ∧ ∀ x ∈ (bA 0 k l).to1, x ∈ k.to1 ∨ ∃ o ∈ l, o.kind = 1 ∧ o.data = x
  | [], k => ⟨rfl, fun x hx => Or.inl hx⟩
  | o :: l, k => by
    have h := lr l (bif o.kind == 1 && k.up then (bU k (IntKind.wrap .i64 (1 - 0)) [o.data]).1 else k)
    have h2 : (bif o.kind == 1 && k.up then (bU k (IntKind.wrap .i64 (1 - 0)) [o.data]).1 else k).to0 = k.to0 ∧ ∀ x ∈ (bif o.kind == 1 && k.up then (bU k (IntKind.wrap .i64 (1 - 0)) [o.data]).1 else k).to1, x ∈ k.to1 ∨ ∃ o' ∈ o :: l, o'.kind = 1 ∧ o'.data = x := by
      cases hb : (o.kind == 1 && k.up) with
      | false => exact ⟨rfl, fun x hx => Or.inl hx⟩
      | true =>
        simp only [Bool.and_eq_true, beq_iff_eq] at hb
        have e : (bU k (IntKind.wrap .i64 (1 - 0)) [o.data]).1 = { k with to1 := k.to1 ++ [o.data] } := by
          unfold bU
          rw [hb.2]
          rfl
        rw [cond_true, e]
        refine ⟨rfl, fun x hx => ?_⟩
        rcases List.mem_append.1 hx with hx | hx
        · exact Or.inl hx
        · exact Or.inr ⟨o, by simp, hb.1, (by simpa using hx : x = o.data).symm⟩
    refine ⟨h.1.trans h2.1, fun x hx => ?_⟩
    rcases h.2 x hx with hx | ⟨o', ho, hk⟩
    · exact h2.2 x hx
    · exact Or.inr ⟨o', List.mem_cons_of_mem _ ho, hk⟩
theorem GrH.step0 {T : Tre} {a b m : Nd} {k : Lk} {H0 H1 : He} (h : GrH T a b k H0 H1) (hb : Bec (PV T) a m) (hu : m.up = true) (h4 : m.state = 4 → a.state ≠ 4 → (aj H0 H1).src = 1) {l : List Ou} (ho : ∀ o ∈ l, o.kind = 1 → uU H0 o.data) : GrH T m b (bA 0 k l) H0 H1 := by
  have hst := hb.st hu
  have hks := cg 0 l k
  have hsl := lr l k
  have h0 := h.s0
  have hd : (aj H0 H1).src ≠ 1 → gP m = H0.v.cur := by
    intro hs
    have h5 : a.state ≠ 4 := fun ha => hs (h.c0 ha)
    have h6 : m.state ≠ 4 := fun hm => hs (h4 hm h5)
    rw [hb.cur hu h6 h5]
    exact h.d0 hs
  have hl : ∀ x ∈ (bA 0 k l).to1, uU H0 x := by
    intro x hx
    rcases hsl.2 x hx with hx | ⟨o, hol, hk, rfl⟩
    · exact h.l1 x hx
    · exact ho o hol hk
  have hc : m.state = 4 → (aj H0 H1).src = 1 := by
    intro hm
    by_cases ha : a.state = 4
    · exact h.c0 ha
    · exact h4 hm ha
  have hw : m.state = 1 → e9 m = H0 := by
    intro h1
    have h2 : a.state = 1 := by omega
    rw [hb.own hu h2 h1]
    exact h.o0 h2
  exact { h with u0 := hu, s0 := by omega, k0 := by rw [(hb.up hu).2, hks.2]; exact h.k0, k1 := by rw [hks.2]; exact h.k1, o0 := hw, c0 := hc, d0 := hd, l0 := by rw [hsl.1]; exact h.l0, l1 := hl }
theorem GrH.sam0 {T : Tre} {a b m : Nd} {k : Lk} {H0 H1 : He} (h : GrH T a b k H0 H1) (hs : Sam a m) : GrH T m b k H0 H1 :=
  { h with u0 := by rw [hs.up]; exact h.u0, s0 := by rw [hs.st]; exact h.s0, k0 := by rw [hs.ses]; exact h.k0, o0 := by rw [hs.st, hs.own]; exact h.o0, c0 := by rw [hs.st]; exact h.c0, d0 := by rw [hs.cur]; exact h.d0 }
theorem kM (c : Cl) (n : Nd) (l : List Ou) : ((c.link.up = false ∨ n.up = true) ∧ (bD c 0 n l).1.n0 = n ∧ (bD c 0 n l).1.n1 = c.n1 ∧ (bD c 0 n l).1.link = bA 0 c.link l) ∨
    ∃ d : Cl, d.n0 = n ∧ d.n1 = c.n1 ∧ (bD c 0 n l).1 = (dJ d).1 := by
  have e0 : (cA c 0 n l).link = bA 0 c.link l := by
    unfold cA
    exact av (p := fun (x : Cl) => x.link = bA 0 c.link l) rfl rfl
  have e1 : (cA c 0 n l).n0 = n := by
    unfold cA
    exact av (p := fun (x : Cl) => x.n0 = n) rfl rfl
  have e2 : (cA c 0 n l).n1 = c.n1 := by
    unfold cA
    exact av (p := fun (x : Cl) => x.n1 = c.n1) rfl rfl
  unfold bD
  cases h1 : (!(cA c 0 n l).link.up || n.up && !cG l) with
  | true =>
    refine Or.inl ⟨?_, e1, e2, e0⟩
    rw [e0, (cg 0 l c.link).1] at h1
    simp at h1
    rcases h1 with h1 | h1
    · exact Or.inl h1
    · exact Or.inr h1.1
  | false =>
    refine Or.inr ?_
    cases cG l with
    | true => exact ⟨{ cA c 0 n l with w0 := false, w1 := false }, e1, e2, rfl⟩
    | false => exact ⟨_, e1, e2, rfl⟩
theorem mO {fut : List Int} {T : Tre} {c : Cl} {m : Nd} {l : List Ou} (hc : CI fut T m c.n1) (hd : c.link.up = false → m.state = 0 ∧ c.n1.state = 0) (hu : c.link.up = true → m.up = true → ∃ H0 H1, GrH T m c.n1 (bA 0 c.link l) H0 H1) : ∃ T', Inv fut T' (bD c 0 m l).1 := by
  rcases kM c m l with ⟨h0, h1, h2, h3⟩ | ⟨d, h1, h2, h3⟩
  · refine ⟨T, ?_⟩
    unfold Inv
    rw [h1, h2, h3]
    refine ⟨hc, ⟨fun hk => ?_, fun hk => ?_⟩⟩
    · rw [(cg 0 l c.link).1] at hk
      have := hd hk
      exact this
    · rw [(cg 0 l c.link).1] at hk
      refine hu hk ?_
      rcases h0 with h0 | h0
      · rw [h0] at hk; exact absurd hk (by simp)
      · exact h0
  · have hc2 : CI fut T d.n0 d.n1 := by rw [h1, h2]; exact hc
    obtain ⟨T', hi, _⟩ := iy hc2
    exact ⟨T', by rw [h3]; exact hi⟩
theorem AN {fut : List Int} {T : Tre} {c : Cl} (h : Inv fut T c) {x : Nd × List Ou} (ho : dc x.2) (hx : Bec (PV T) c.n0 x.1 ∨ (c.n0.state = 0 ∧ x.1.state = 0 ∧ ∃ T', Sx T T' c.n0 x.1))
    (h4 : x.1.state = 4 → c.n0.state ≠ 4 → c.link.up = true → ∃ H0 H1, GrH T c.n0 c.n1 c.link H0 H1 ∧ (aj H0 H1).src = 1) : ∃ T', Inv fut T' (bD c 0 x.1 x.2).1 := by
  rcases hx with hb | ⟨s0, s1, T', hs⟩
  · refine mO (h.1.stepA (Sx.bec h.1.tr hb)) (fun hk => ?_) (fun hk hu => ?_)
    · have hd := h.2.dn hk
      refine ⟨?_, hd.2⟩
      have hz : c.n0.state = 0 := hd.1
      cases hu : x.1.up with
      | false => exact hb.ok.z hu
      | true => have := hb.st hu; omega
    · by_cases hx4 : x.1.state = 4 ∧ c.n0.state ≠ 4
      · obtain ⟨H0, H1, hg, hs⟩ := h4 hx4.1 hx4.2 hk
        exact ⟨H0, H1, hg.step0 hb hu (fun _ _ => hs) (ho.is _)⟩
      · obtain ⟨H0, H1, hg⟩ := h.2.up hk
        exact ⟨H0, H1, hg.step0 hb hu (fun a b => absurd ⟨a, b⟩ hx4) (ho.is _)⟩
  · refine mO (h.1.stepA hs) (fun hk => ?_) (fun hk _ => ?_)
    · have hd := h.2.dn hk
      exact ⟨s1, hd.2⟩
    · obtain ⟨H0, H1, hg⟩ := h.2.up hk
      exact absurd s0 hg.s0
theorem Cj {fut : List Int} {T : Tre} {c : Cl} (h : Inv fut T c) {b : ByteArray} (hb : c.link.up = true → (ap b c.link.ses).2 = 0 → b ∈ c.link.to0) :
    Rs (PV T) c.n0 (bc c.n0 b) ∧ ((bc c.n0 b).1.state = 4 → c.n0.state ≠ 4 → ∃ H0 H1, GrH T c.n0 c.n1 c.link H0 H1 ∧ b ∈ c.link.to0 ∧ (bB b).1.hello = H1 ∧ c.n0.state = 1 ∧ (aj H0 H1).src = 1 ∧ (aW c.n0 H1).1.kind ≠ 4 ∧ (aW c.n0 H1).1.kind ≠ 1 ∧ (aW c.n0 H1).1.src ≠ c.n0.id) := by
  have hn : NI (PV T) c.n0 := h.1.na
  have hid : c.n0.id = 0 := h.1.ia
  have hid2 : c.n0.id = 0 ∨ c.n0.id = 1 := by omega
  by_cases h0 : c.n0.state = 0
  · have e : bc c.n0 b = (c.n0, []) := by
      unfold bc
      rw [h0]
      cases c.n0.up <;> rfl
    rw [e]
    exact ⟨⟨Bec.refl hn, dc.nil⟩, fun h4 => by simp only at h4; omega⟩
  · have hk : c.link.up = true := by
      cases hk : c.link.up with
      | true => rfl
      | false => have := h.2.dn hk; omega
    have hkey : ∀ H0 H1, GrH T c.n0 c.n1 c.link H0 H1 → Rs (PV T) c.n0 (bc c.n0 b) ∧ ((bc c.n0 b).1.state = 4 → c.n0.state ≠ 4 → b ∈ c.link.to0 ∧ (bB b).1.hello = H1 ∧ c.n0.state = 1 ∧ (aj H0 H1).src = 1 ∧ (aW c.n0 H1).1.kind ≠ 4 ∧ (aW c.n0 H1).1.kind ≠ 1 ∧ (aW c.n0 H1).1.src ≠ c.n0.id) := by
      intro H0 H1 hg
      have hses : c.n0.ses = c.link.ses := hg.k0
      have hheb : (ap b c.n0.ses).2 = 0 → HeB (PV T) b := fun hr hd hk1 => by
        rw [hses] at hr
        rw [hg.l0 b (hb hk hr) hd hk1]
        exact hg.p1
      refine ⟨i5 (ov T) hn hid2 hheb, fun h4 hs => ?_⟩
      obtain ⟨q1, q2, q3, q4, q5, q6, q7, q8⟩ := iD (ov T) hn hid2 hheb h4 hs
      rw [hses] at q3
      have hm := hb hk q3
      have hh := hg.l0 b hm q4 q5
      rw [hh] at q6 q7 q8
      refine ⟨hm, hh, q2, ?_, q6, q7, q8⟩
      have ho := hg.o0 q2
      have hv : (aW c.n0 H1).1 = aj H0 H1 := by
        unfold aW
        rw [hid, ho]
        rfl
      rw [hv] at q6 q7 q8
      rw [hid] at q8
      have := (ix q6 q7).src
      omega
    obtain ⟨H0, H1, hg⟩ := h.2.up hk
    have h1 := hkey H0 H1 hg
    exact ⟨h1.1, fun a b => ⟨H0, H1, hg, h1.2 a b⟩⟩
theorem lu : ∀ (l : List Ou) (k : Lk), (bA 1 k l).to1 = k.to1 ∧ ∀ x ∈ (bA 1 k l).to0, x ∈ k.to0 ∨ ∃ o ∈ l, o.kind = 1 ∧ o.data = x
  | [], k => ⟨rfl, fun x hx => Or.inl hx⟩
  | o :: l, k => by
    have h := lu l (bif o.kind == 1 && k.up then (bU k (IntKind.wrap .i64 (1 - 1)) [o.data]).1 else k)
    have h2 : (bif o.kind == 1 && k.up then (bU k (IntKind.wrap .i64 (1 - 1)) [o.data]).1 else k).to1 = k.to1 ∧ ∀ x ∈ (bif o.kind == 1 && k.up then (bU k (IntKind.wrap .i64 (1 - 1)) [o.data]).1 else k).to0, x ∈ k.to0 ∨ ∃ o' ∈ o :: l, o'.kind = 1 ∧ o'.data = x := by
      cases hb : (o.kind == 1 && k.up) with
      | false => exact ⟨rfl, fun x hx => Or.inl hx⟩
      | true =>
        simp only [Bool.and_eq_true, beq_iff_eq] at hb
        have e : (bU k (IntKind.wrap .i64 (1 - 1)) [o.data]).1 = { k with to0 := k.to0 ++ [o.data] } := by
          unfold bU
          rw [hb.2]
          rfl
        rw [cond_true, e]
        refine ⟨rfl, fun x hx => ?_⟩
        rcases List.mem_append.1 hx with hx | hx
        · exact Or.inl hx
        · exact Or.inr ⟨o, by simp, hb.1, (by simpa using hx : x = o.data).symm⟩
    refine ⟨h.1.trans h2.1, fun x hx => ?_⟩
    rcases h.2 x hx with hx | ⟨o', ho, hk⟩
    · exact h2.2 x hx
    · exact Or.inr ⟨o', List.mem_cons_of_mem _ ho, hk⟩
theorem GrH.step1 {T : Tre} {a b m : Nd} {k : Lk} {H0 H1 : He} (h : GrH T a b k H0 H1) (hb : Bec (PV T) b m) (hu : m.up = true) (h4 : m.state = 4 → b.state ≠ 4 → (aj H0 H1).src = 0) {l : List Ou} (ho : ∀ o ∈ l, o.kind = 1 → uU H1 o.data) : GrH T a m (bA 1 k l) H0 H1 := by
  have hst := hb.st hu
  have hks := cg 1 l k
  have hsl := lu l k
  have h0 := h.s1
  have hd : (aj H0 H1).src ≠ 0 → gP m = H1.v.cur := by
    intro hs
    have h5 : b.state ≠ 4 := fun ha => hs (h.c1 ha)
    have h6 : m.state ≠ 4 := fun hm => hs (h4 hm h5)
    rw [hb.cur hu h6 h5]
    exact h.d1 hs
  have hl : ∀ x ∈ (bA 1 k l).to0, uU H1 x := by
    intro x hx
    rcases hsl.2 x hx with hx | ⟨o, hol, hk, rfl⟩
    · exact h.l0 x hx
    · exact ho o hol hk
  have hc : m.state = 4 → (aj H0 H1).src = 0 := by
    intro hm
    by_cases ha : b.state = 4
    · exact h.c1 ha
    · exact h4 hm ha
  have hw : m.state = 1 → e9 m = H1 := by
    intro h1
    have h2 : b.state = 1 := by omega
    rw [hb.own hu h2 h1]
    exact h.o1 h2
  exact { h with u1 := hu, s1 := by omega, k1 := by rw [(hb.up hu).2, hks.2]; exact h.k1, k0 := by rw [hks.2]; exact h.k0, o1 := hw, c1 := hc, d1 := hd, l1 := by rw [hsl.1]; exact h.l1, l0 := hl }
theorem GrH.sam1 {T : Tre} {a b m : Nd} {k : Lk} {H0 H1 : He} (h : GrH T a b k H0 H1) (hs : Sam b m) : GrH T a m k H0 H1 :=
  { h with u1 := by rw [hs.up]; exact h.u1, s1 := by rw [hs.st]; exact h.s1, k1 := by rw [hs.ses]; exact h.k1, o1 := by rw [hs.st, hs.own]; exact h.o1, c1 := by rw [hs.st]; exact h.c1, d1 := by rw [hs.cur]; exact h.d1 }
theorem kF (c : Cl) (n : Nd) (l : List Ou) : ((c.link.up = false ∨ n.up = true) ∧ (bD c 1 n l).1.n1 = n ∧ (bD c 1 n l).1.n0 = c.n0 ∧ (bD c 1 n l).1.link = bA 1 c.link l) ∨
    ∃ d : Cl, d.n1 = n ∧ d.n0 = c.n0 ∧ (bD c 1 n l).1 = (dJ d).1 := by
  have e0 : (cA c 1 n l).link = bA 1 c.link l := by
    unfold cA
    exact av (p := fun (x : Cl) => x.link = bA 1 c.link l) rfl rfl
  have e1 : (cA c 1 n l).n1 = n := by
    unfold cA
    exact av (p := fun (x : Cl) => x.n1 = n) rfl rfl
  have e2 : (cA c 1 n l).n0 = c.n0 := by
    unfold cA
    exact av (p := fun (x : Cl) => x.n0 = c.n0) rfl rfl
  unfold bD
  cases h1 : (!(cA c 1 n l).link.up || n.up && !cG l) with
  | true =>
    refine Or.inl ⟨?_, e1, e2, e0⟩
    rw [e0, (cg 1 l c.link).1] at h1
    simp at h1
    rcases h1 with h1 | h1
    · exact Or.inl h1
    · exact Or.inr h1.1
  | false =>
    refine Or.inr ?_
    cases cG l with
    | true => exact ⟨{ cA c 1 n l with w0 := false, w1 := false }, e1, e2, rfl⟩
    | false => exact ⟨_, e1, e2, rfl⟩
theorem mZ {fut : List Int} {T : Tre} {c : Cl} {m : Nd} {l : List Ou} (hc : CI fut T c.n0 m) (hd : c.link.up = false → m.state = 0 ∧ c.n0.state = 0) (hu : c.link.up = true → m.up = true → ∃ H0 H1, GrH T c.n0 m (bA 1 c.link l) H0 H1) : ∃ T', Inv fut T' (bD c 1 m l).1 := by
  rcases kF c m l with ⟨h0, h1, h2, h3⟩ | ⟨d, h1, h2, h3⟩
  · refine ⟨T, ?_⟩
    unfold Inv
    rw [h1, h2, h3]
    refine ⟨hc, ⟨fun hk => ?_, fun hk => ?_⟩⟩
    · rw [(cg 1 l c.link).1] at hk
      have := hd hk
      exact ⟨this.2, this.1⟩
    · rw [(cg 1 l c.link).1] at hk
      refine hu hk ?_
      rcases h0 with h0 | h0
      · rw [h0] at hk; exact absurd hk (by simp)
      · exact h0
  · have hc2 : CI fut T d.n0 d.n1 := by rw [h1, h2]; exact hc
    obtain ⟨T', hi, _⟩ := iy hc2
    exact ⟨T', by rw [h3]; exact hi⟩
theorem AP {fut : List Int} {T : Tre} {c : Cl} (h : Inv fut T c) {x : Nd × List Ou} (ho : dc x.2) (hx : Bec (PV T) c.n1 x.1 ∨ (c.n1.state = 0 ∧ x.1.state = 0 ∧ ∃ T', Sx T T' c.n1 x.1))
    (h4 : x.1.state = 4 → c.n1.state ≠ 4 → c.link.up = true → ∃ H0 H1, GrH T c.n0 c.n1 c.link H0 H1 ∧ (aj H0 H1).src = 0) : ∃ T', Inv fut T' (bD c 1 x.1 x.2).1 := by
  rcases hx with hb | ⟨s0, s1, T', hs⟩
  · refine mZ (h.1.stepB (Sx.bec h.1.tr hb)) (fun hk => ?_) (fun hk hu => ?_)
    · have hd := h.2.dn hk
      refine ⟨?_, hd.1⟩
      have hz : c.n1.state = 0 := hd.2
      cases hu : x.1.up with
      | false => exact hb.ok.z hu
      | true => have := hb.st hu; omega
    · by_cases hx4 : x.1.state = 4 ∧ c.n1.state ≠ 4
      · obtain ⟨H0, H1, hg, hs⟩ := h4 hx4.1 hx4.2 hk
        exact ⟨H0, H1, hg.step1 hb hu (fun _ _ => hs) (ho.is _)⟩
      · obtain ⟨H0, H1, hg⟩ := h.2.up hk
        exact ⟨H0, H1, hg.step1 hb hu (fun a b => absurd ⟨a, b⟩ hx4) (ho.is _)⟩
  · refine mZ (h.1.stepB hs) (fun hk => ?_) (fun hk _ => ?_)
    · have hd := h.2.dn hk
      exact ⟨s1, hd.1⟩
    · obtain ⟨H0, H1, hg⟩ := h.2.up hk
      exact absurd s0 hg.s1
theorem Cn {fut : List Int} {T : Tre} {c : Cl} (h : Inv fut T c) {b : ByteArray} (hb : c.link.up = true → (ap b c.link.ses).2 = 0 → b ∈ c.link.to1) :
    Rs (PV T) c.n1 (bc c.n1 b) ∧ ((bc c.n1 b).1.state = 4 → c.n1.state ≠ 4 → ∃ H0 H1, GrH T c.n0 c.n1 c.link H0 H1 ∧ b ∈ c.link.to1 ∧ (bB b).1.hello = H0 ∧ c.n1.state = 1 ∧ (aj H0 H1).src = 0 ∧ (aW c.n1 H0).1.kind ≠ 4 ∧ (aW c.n1 H0).1.kind ≠ 1 ∧ (aW c.n1 H0).1.src ≠ c.n1.id) := by
  have hn : NI (PV T) c.n1 := h.1.nb
  have hid : c.n1.id = 1 := h.1.ib
  have hid2 : c.n1.id = 0 ∨ c.n1.id = 1 := by omega
  by_cases h0 : c.n1.state = 0
  · have e : bc c.n1 b = (c.n1, []) := by
      unfold bc
      rw [h0]
      cases c.n1.up <;> rfl
    rw [e]
    exact ⟨⟨Bec.refl hn, dc.nil⟩, fun h4 => by simp only at h4; omega⟩
  · have hk : c.link.up = true := by
      cases hk : c.link.up with
      | true => rfl
      | false => have := h.2.dn hk; omega
    have hkey : ∀ H0 H1, GrH T c.n0 c.n1 c.link H0 H1 → Rs (PV T) c.n1 (bc c.n1 b) ∧ ((bc c.n1 b).1.state = 4 → c.n1.state ≠ 4 → b ∈ c.link.to1 ∧ (bB b).1.hello = H0 ∧ c.n1.state = 1 ∧ (aj H0 H1).src = 0 ∧ (aW c.n1 H0).1.kind ≠ 4 ∧ (aW c.n1 H0).1.kind ≠ 1 ∧ (aW c.n1 H0).1.src ≠ c.n1.id) := by
      intro H0 H1 hg
      have hses : c.n1.ses = c.link.ses := hg.k1
      have hheb : (ap b c.n1.ses).2 = 0 → HeB (PV T) b := fun hr hd hk1 => by
        rw [hses] at hr
        rw [hg.l1 b (hb hk hr) hd hk1]
        exact hg.p0
      refine ⟨i5 (ov T) hn hid2 hheb, fun h4 hs => ?_⟩
      obtain ⟨q1, q2, q3, q4, q5, q6, q7, q8⟩ := iD (ov T) hn hid2 hheb h4 hs
      rw [hses] at q3
      have hm := hb hk q3
      have hh := hg.l1 b hm q4 q5
      rw [hh] at q6 q7 q8
      refine ⟨hm, hh, q2, ?_, q6, q7, q8⟩
      have ho := hg.o1 q2
      have hv : (aW c.n1 H0).1 = aj H0 H1 := by
        unfold aW
        rw [hid, ho]
        rfl
      rw [hv] at q6 q7 q8
      rw [hid] at q8
      have := (ix q6 q7).src
      omega
    obtain ⟨H0, H1, hg⟩ := h.2.up hk
    have h1 := hkey H0 H1 hg
    exact ⟨h1.1, fun a b => ⟨H0, H1, hg, h1.2 a b⟩⟩
end Go.Dm
namespace Go.Dm
open Go
def Qs (n m : Nd) : Prop := m.state = n.state ∨ m.state = 0
theorem Qs.trans {a b c : Nd} (h : Qs a b) (k : Qs b c) : Qs a c := by unfold Qs at *; omega
theorem Qs.four {n m : Nd} (h : Qs n m) : m.state = 4 → n.state = 4 := fun h4 => by unfold Qs at h; omega
theorem q_c {n : Nd} {α : Type} {b : Bool} {x y : Nd × α} (hx : Qs n x.1) (hy : Qs n y.1) : Qs n (bif b then x else y).1 := by
  cases b
  · exact hy
  · exact hx
theorem mq (n : Nd) : Qs n n := Or.inl rfl
theorem ir (n : Nd) (b : Su) : Qs n (ae n b).1 := by
  unfold ae
  exact q_c (Or.inr rfl) (Or.inl rfl)
theorem ws (n : Nd) (s : So) (e : Int) : Qs n (dI n s e).1 := by
  unfold dI
  exact q_c (Or.inr rfl) (Or.inl rfl)
theorem CJ (n : Nd) (b : Int) (x : ByteArray) : Qs n (dq n b x).1 := by
  unfold dq
  have h : Qs n (dh n b).1 := ws _ _ _
  exact q_c h (h.trans (ws _ _ _))
theorem Au (n : Nd) : Qs n (aH n).1 := by
  unfold aH
  cases n.draws with
  | nil => exact mq n
  | cons g r =>
    show Qs n (f9 n g r).1
    unfold f9
    have h : Qs n (ae (kV n g r) (ly n g)).1 := (ir (kV n g r) (ly n g))
    exact q_c (Or.inl rfl) (q_c h h)
theorem nc (n : Nd) (id : Int) : Qs n (cb n id).1 := by
  unfold cb
  have h := ir n { n.store.super with pri := true }
  exact q_c (mq n) (q_c (mq n) (q_c (mq n) (q_c (mq n) (q_c (mq n) (q_c (mq n) (q_c (Or.inl rfl) (q_c h h)))))))
theorem qm (n : Nd) (id : Int) : Qs n (dj n id).1 := by
  unfold dj
  have h := ir n { n.store.super with pri := false }
  exact q_c (mq n) (q_c (mq n) (q_c (mq n) (q_c h (q_c h h))))
theorem nE (n : Nd) (id : Int) : Qs n (cQ n id).1 := by
  unfold cQ
  have h := ir n { n.store.super with dis := true }
  exact q_c (mq n) (q_c (mq n) (q_c (mq n) (q_c h h)))
theorem sm (n : Nd) (id b : Int) : Qs n (fU n id b).1 := by
  unfold fU
  exact q_c (mq n) (q_c (mq n) (mq n))
theorem sX (n : Nd) (id b : Int) (x : ByteArray) : Qs n (co n id b x).1 := by
  unfold co
  have h := CJ n b x
  exact q_c h (q_c h h)
theorem rR (n : Nd) (id b : Int) (x : ByteArray) : Qs n (ci n id b x).1 := by
  unfold ci
  have h := Au n
  exact q_c (mq n) (q_c (q_c h (q_c h (h.trans (sX _ _ _ _)))) (sX _ _ _ _))
theorem jJ {T : Tre} {n : Nd} (hn : NI (PV T) n) (k : Int) : Bec (PV T) n (dP n k) ∧ Qs n (dP n k) := by
  unfold dP
  exact av (p := fun (x : Nd) => Bec (PV T) n x ∧ Qs n x) ⟨Bec.flat hn (hn.d.same rfl rfl) hn.s rfl rfl rfl rfl rfl rfl rfl (fun _ => rfl) rfl, mq _⟩ ⟨Bec.refl hn, mq _⟩
theorem sn {T : Tre} {n : Nd} (hp : PV T n.store.super.inc n.store.super.v) {s : Int} (hs : R64 s) : ∀ o ∈ (ca n s).2, o.kind = 1 → uU (e9 n) o.data := by
  intro o ho _ h0 _
  have he : o = aQ (fF n s) ⟨1, 0, e9 (fF n s), 0, ⟨#[]⟩⟩ := by
    unfold ca at ho
    simpa using ho
  subst he
  have h1 : (bB (dQ ⟨1, s, e9 n, 0, ⟨#[]⟩⟩).1).2 = 0 := h0
  have h2 := vM (p := ⟨1, s, e9 n, 0, ⟨#[]⟩⟩) hs hp.1 h1
  show (bB (dQ ⟨1, s, e9 n, 0, ⟨#[]⟩⟩).1).1.hello = e9 n
  rw [h2]
theorem xp (c : Cl) (hu : c.n0.up = true) : (d6 c).1 = { c with n0 := fF c.n0 c.link.ses, link := bA 0 c.link (ca c.n0 c.link.ses).2 } := by
  have e : (d6 c).1 = (bD c 0 (fF c.n0 c.link.ses) (ca c.n0 c.link.ses).2).1 := rfl
  have hb : (fF c.n0 c.link.ses).up = true := hu
  rw [e]
  unfold bD
  have hcl : cG (ca c.n0 c.link.ses).2 = false := rfl
  rw [hb, hcl]
  simp only [Bool.not_false, Bool.and_true, Bool.or_true, cond_true]
  unfold cA
  rw [hb]
  rfl
theorem xg (c : Cl) (hu : c.n1.up = true) : (fY c).1 = { c with n1 := fF c.n1 c.link.ses, link := bA 1 c.link (ca c.n1 c.link.ses).2 } := by
  have e : (fY c).1 = (bD c 1 (fF c.n1 c.link.ses) (ca c.n1 c.link.ses).2).1 := rfl
  have hb : (fF c.n1 c.link.ses).up = true := hu
  rw [e]
  unfold bD
  have hcl : cG (ca c.n1 c.link.ses).2 = false := rfl
  rw [hb, hcl]
  simp only [Bool.not_false, Bool.and_true, Bool.or_true, cond_true]
  unfold cA
  rw [hb]
  rfl
theorem sg {T : Tre} (ht : de T) {n : Nd} (hn : NI (PV T) n) (hu : n.up = true) (s : Int) : Sx T T n (fF n s) :=
  Sx.flat ht ⟨hn.d, hn.s, fun h => absurd h (show (1 : Int) ≠ 4 by decide), fun h => absurd (hu.symm.trans h) (by simp)⟩ rfl rfl rfl
theorem mT {fut : List Int} {T : Tre} {c : Cl} (h : CI fut T c.n0 c.n1) (u0 : c.n0.up = true) (u1 : c.n1.up = true) {k : Lk} (hk : c.link = ch k) : Inv fut T (fY (d6 c).1).1 ∧ (fY (d6 c).1).1.n0.state = 1 ∧ (fY (d6 c).1).1.n1.state = 1 := by
  have hs : R64 c.link.ses := by rw [hk]; exact r5 _
  have hup : c.link.up = true := by rw [hk]; rfl
  have hv : c.link.to0 = [] ∧ c.link.to1 = [] := by rw [hk]; exact ⟨rfl, rfl⟩
  have e1 := xg { c with n0 := fF c.n0 c.link.ses, link := bA 0 c.link (ca c.n0 c.link.ses).2 } u1
  rw [xp c u0, e1]
  refine ⟨⟨(h.stepA (sg h.tr h.na u0 _)).stepB (sg h.tr h.nb u1 _), ⟨fun hk => ?_, fun _ => ?_⟩⟩, rfl, rfl⟩
  · exfalso
    simp only at hk
    rw [(cg 1 _ _).1, (cg 0 _ _).1, hup] at hk
    exact absurd hk (by simp)
  · have e0 : (bA 0 c.link (ca c.n0 c.link.ses).2).ses = c.link.ses := (cg 0 _ _).2
    refine ⟨e9 c.n0, e9 c.n1, ⟨u0, u1, show (1 : Int) ≠ 0 by decide, show (1 : Int) ≠ 0 by decide, ?_, ?_, h.na.s u0, h.nb.s u1, fun _ => rfl, fun _ => rfl, fun hh => absurd hh (show (1 : Int) ≠ 4 by decide), fun hh => absurd hh (show (1 : Int) ≠ 4 by decide), fun _ => rfl, fun _ => rfl, ?_, ?_⟩⟩
    · exact ((cg 1 _ _).2.trans e0).symm
    · exact ((cg 1 _ _).2).symm
    · intro x hx
      rcases (lu _ _).2 x hx with hx | ⟨o, ho, hk, rfl⟩
      · rw [(lr _ _).1, hv.1] at hx
        exact absurd hx (by simp)
      · refine sn (h.nb.s u1) (s := (bA 0 c.link (ca c.n0 c.link.ses).2).ses) ?_ o ho hk
        rw [e0]; exact hs
    · intro x hx
      simp only at hx
      rw [(lu _ _).1] at hx
      rcases (lr _ _).2 x hx with hx | ⟨o, ho, hk, rfl⟩
      · rw [hv.2] at hx
        exact absurd hx (by simp)
      · exact sn (h.na.s u0) hs o ho hk
def zM (T : Tre) (c : Cl) : Prop := ∃ H0 H1, GrH T c.n0 c.n1 c.link H0 H1 ∧ c.n0.state = 1 ∧ (aj H0 H1).src = 1 ∧ (aW c.n0 H1).1.kind ≠ 4 ∧ (aW c.n0 H1).1.kind ≠ 1 ∧ (aW c.n0 H1).1.src ≠ c.n0.id
structure Rn0 (fut : List Int) (S : Prop) (c d : Cl) : Prop where
  inv : ∃ T', Inv fut T' d
  oth : d.n1.state = 4 → c.n1.state = 4
  own : d.n0.state = 4 → c.n0.state ≠ 4 → S
theorem Rn0.same {fut : List Int} {T : Tre} {S : Prop} {c d : Cl} (h : Inv fut T c) (e0 : d.n0 = c.n0) (e1 : d.n1 = c.n1) (ek : d.link = c.link) : Rn0 fut S c d :=
  ⟨⟨T, by unfold Inv; rw [e0, e1, ek]; exact h⟩, by rw [e1]; exact fun h => h, by rw [e0]; exact fun h k => absurd h k⟩
theorem wi {fut : List Int} {T : Tre} {c : Cl} {m : Nd} (l : List Ou) (hc : CI fut T m c.n1) : Qs m (bD c 0 m l).1.n0 ∧ Qs c.n1 (bD c 0 m l).1.n1 := by
  rcases kM c m l with ⟨_, h1, h2, _⟩ | ⟨d, h1, h2, h3⟩
  · rw [h1, h2]; exact ⟨mq _, mq _⟩
  · have hc2 : CI fut T d.n0 d.n1 := by rw [h1, h2]; exact hc
    obtain ⟨_, _, s0, s1⟩ := iy hc2
    rw [h3]
    exact ⟨Or.inr s0, Or.inr s1⟩
theorem sk {fut : List Int} {T : Tre} {S : Prop} {c : Cl} (h : Inv fut T c) {x : Nd × List Ou} (ho : dc x.2) (hx : Bec (PV T) c.n0 x.1 ∨ (c.n0.state = 0 ∧ x.1.state = 0 ∧ ∃ T', Sx T T' c.n0 x.1))
    (h4 : x.1.state = 4 → c.n0.state ≠ 4 → S ∧ ∃ H0 H1, GrH T c.n0 c.n1 c.link H0 H1 ∧ (aj H0 H1).src = 1) : Rn0 fut S c (bD c 0 x.1 x.2).1 := by
  have hs : ∃ T', CI fut T' x.1 c.n1 := by
    rcases hx with hb | ⟨_, _, T', hs⟩
    · exact ⟨T, h.1.stepA (Sx.bec h.1.tr hb)⟩
    · exact ⟨T', h.1.stepA hs⟩
  obtain ⟨T', hs⟩ := hs
  have hq := wi x.2 hs
  exact ⟨AN h ho hx (fun a b _ => (h4 a b).2), hq.2.four, fun a b => (h4 (hq.1.four a) b).1⟩
theorem nK {fut : List Int} {T : Tre} {S : Prop} {c : Cl} (h : Inv fut T c) {x : Nd × List Ou} (hx : Rs (PV T) c.n0 x) (hq : Qs c.n0 x.1) : Rn0 fut S c (bD c 0 x.1 x.2).1 :=
  sk h hx.2 (Or.inl hx.1) (fun a b => absurd (hq.four a) b)
theorem wU {fut : List Int} {T : Tre} {S : Prop} {c d : Cl} (h : Inv fut T c) (e0 : d.n0 = c.n0) (e1 : d.n1 = c.n1) (ek : d.link = c.link) : Rn0 fut S c (zb d).1 := by
  unfold zb
  cases hk : !d.link.up with
  | true => exact Rn0.same h e0 e1 ek
  | false =>
    have hc : CI fut T d.n0 d.n1 := by rw [e0, e1]; exact h.1
    obtain ⟨T', hi, s0, s1⟩ := iy hc
    exact ⟨⟨T', hi⟩, fun h => by simp only [cond_false] at h; omega, fun h => by simp only [cond_false] at h; omega⟩
theorem rh {fut : List Int} {T : Tre} {S : Prop} {c : Cl} (h : Inv fut T c) : Rn0 fut S c (em c 0).1 := by
  unfold em
  cases hu : !(ig c 0).up with
  | true => exact Rn0.same h rfl rfl rfl
  | false =>
    cases hw : (!xb (aS c 0 true) (1 - 0) || !(ig c (1 - 0)).up || c.link.up) with
    | true => exact Rn0.same h (eg _ _ _) (ee _ _ _) (ez _ _ _)
    | false =>
      simp only [Bool.or_eq_false_iff, Bool.not_eq_false'] at hu hw
      have p0 : (aS c 0 true).n0 = c.n0 := eg _ _ _
      have p1 : (aS c 0 true).n1 = c.n1 := ee _ _ _
      have v0 : c.n0.up = true := hu
      have v1 : c.n1.up = true := hw.1.2
      have hb := mT (c := { aS c 0 true with link := ch c.link }) (T := T) (fut := fut) (k := c.link) (by show CI fut T (aS c 0 true).n0 (aS c 0 true).n1; rw [p0, p1]; exact h.1) (by show (aS c 0 true).n0.up = true; rw [p0]; exact v0) (by show (aS c 0 true).n1.up = true; rw [p1]; exact v1) rfl
      exact ⟨⟨T, hb.1⟩, fun a => absurd (hb.2.2.symm.trans a) (by decide), fun a => absurd (hb.2.1.symm.trans a) (by decide)⟩
theorem xd {fut : List Int} {T : Tre} {c : Cl} (h : Inv fut T c) : Rn0 fut (zM T c) c (m8 c 0).1 := by
  unfold m8
  cases hl : c.link.to0 with
  | nil =>
    have e1 : (df c.link 0).2.2 = false := by unfold df; rw [hl]; rfl
    rw [e1]
    exact Rn0.same h rfl rfl rfl
  | cons x r =>
    have e1 : df c.link 0 = (x, { c.link with to0 := r }, true) := by unfold df; rw [hl]; rfl
    rw [e1]
    have hw : ∀ H0 H1, GrH T c.n0 c.n1 c.link H0 H1 → GrH T c.n0 c.n1 { c.link with to0 := r } H0 H1 := fun H0 H1 hg =>
      { hg with l0 := fun y hy => hg.l0 y (by rw [hl]; exact List.mem_cons_of_mem _ hy), l1 := hg.l1 }
    have hi : Inv fut T { c with link := { c.link with to0 := r } } := by
      refine ⟨h.1, ⟨h.2.dn, fun hk => ?_⟩⟩
      obtain ⟨H0, H1, hg⟩ := h.2.up hk
      exact ⟨H0, H1, hw _ _ hg⟩
    have hr := Cj h (b := x) (fun _ _ => by rw [hl]; simp)
    have hq := sk (S := zM T c) hi hr.1.2 (Or.inl hr.1.1) (fun a b => by
      obtain ⟨H0, H1, hg, _, _, s1, hs, v1, v2, v3⟩ := hr.2 a b
      exact ⟨⟨H0, H1, hg, s1, hs, v1, v2, v3⟩, H0, H1, hw _ _ hg, hs⟩)
    exact ⟨hq.inv, hq.oth, hq.own⟩
theorem uk {fut : List Int} {T : Tre} {S : Prop} {c : Cl} (h : Inv fut T c) (ks : List Bool) : Rn0 fut S c (bf c 0 (cc c.n0 ks).1) := by
  obtain ⟨hs, hq⟩ := gE h.1.tr h.1.na ks
  rcases hq with hq | ⟨hu, h0⟩
  · rw [hq]; exact Rn0.same h rfl rfl rfl
  · refine ⟨⟨T, h.1.stepA hs, ⟨fun hk => ?_, fun hk => ?_⟩⟩, fun a => a, fun a => ?_⟩
    · have := h.2.dn hk
      exact ⟨h0, this.2⟩
    · obtain ⟨H0, H1, hg⟩ := h.2.up hk
      exact absurd hg.u0 (by rw [hu]; simp)
    · have : (cc c.n0 ks).1.state = 4 := a
      omega
theorem BU {fut : List Int} {T : Tre} {c : Cl} (h : Inv fut T c) (e : Evt) (h13 : e.kind ≠ 13) : Rn0 fut (zM T c) c (gQ c e 0 c.n0).1 := by
  have hn : NI (PV T) c.n0 := h.1.na
  have hcp := ov T
  have pc : ∀ {b : Bool} {x y : Cl × List Ou}, Rn0 fut (zM T c) c x.1 → Rn0 fut (zM T c) c y.1 → Rn0 fut (zM T c) c (bif b then x else y).1 := by
    intro b x y hx hy
    cases b
    · exact hy
    · exact hx
  have hsame : Rn0 fut (zM T c) c (c, ([] : List Ou)).1 := Rn0.same h rfl rfl rfl
  unfold gQ
  refine pc (nK h (ml hcp hn _) (nc _ _)) ?_
  refine pc (nK h (nP hcp hn _) (qm _ _)) ?_
  refine pc (nK h (lY hcp hn _) (nE _ _)) ?_
  refine pc (nK h (qH hn _ _) (sm _ _ _)) ?_
  have hw := pL h.1.tr hn h.1.fa e.id e.block e.data
  have hq := rR c.n0 e.id e.block e.data
  refine pc (sk h hw.1 hw.2 (fun a b => absurd (hq.four a) b)) ?_
  refine pc (rh h) ?_
  refine pc (wU h (eg _ _ _) (ee _ _ _) (ez _ _ _)) ?_
  refine pc (wU h rfl rfl rfl) ?_
  refine pc (xd h) ?_
  refine pc (pc hsame (nK (x := (dv c.n0, [])) h ⟨Bec.down hn.d rfl rfl rfl, dc.nil⟩ (Or.inr rfl))) ?_
  refine pc (uk h _) ?_
  refine pc (nK (x := (dP c.n0 e.n, [])) h ⟨(jJ hn _).1, dc.nil⟩ (jJ hn _).2) ?_
  cases hk : e.kind == 13 with
  | true => exact absurd (eq_of_beq hk) h13
  | false =>
    rw [cond_false]
    refine pc ?_ hsame
    cases hf : (ap e.data c.link.ses).2 == 0 with
    | true => exact hsame
    | false =>
      have hr := Cj h (b := e.data) (fun _ h0 => by rw [h0] at hf; exact absurd hf (by simp))
      refine sk h hr.1.2 (Or.inl hr.1.1) (fun a b => ?_)
      obtain ⟨H0, H1, hg, _, _, s1, hs, v1, v2, v3⟩ := hr.2 a b
      exact ⟨⟨H0, H1, hg, s1, hs, v1, v2, v3⟩, H0, H1, hg, hs⟩
def zi (T : Tre) (c : Cl) : Prop := ∃ H0 H1, GrH T c.n0 c.n1 c.link H0 H1 ∧ c.n1.state = 1 ∧ (aj H0 H1).src = 0 ∧ (aW c.n1 H0).1.kind ≠ 4 ∧ (aW c.n1 H0).1.kind ≠ 1 ∧ (aW c.n1 H0).1.src ≠ c.n1.id
structure Rn1 (fut : List Int) (S : Prop) (c d : Cl) : Prop where
  inv : ∃ T', Inv fut T' d
  oth : d.n0.state = 4 → c.n0.state = 4
  own : d.n1.state = 4 → c.n1.state ≠ 4 → S
theorem Rn1.same {fut : List Int} {T : Tre} {S : Prop} {c d : Cl} (h : Inv fut T c) (e0 : d.n0 = c.n0) (e1 : d.n1 = c.n1) (ek : d.link = c.link) : Rn1 fut S c d :=
  ⟨⟨T, by unfold Inv; rw [e0, e1, ek]; exact h⟩, by rw [e0]; exact fun h => h, by rw [e1]; exact fun h k => absurd h k⟩
theorem vN {fut : List Int} {T : Tre} {c : Cl} {m : Nd} (l : List Ou) (hc : CI fut T c.n0 m) : Qs m (bD c 1 m l).1.n1 ∧ Qs c.n0 (bD c 1 m l).1.n0 := by
  rcases kF c m l with ⟨_, h1, h2, _⟩ | ⟨d, h1, h2, h3⟩
  · rw [h1, h2]; exact ⟨mq _, mq _⟩
  · have hc2 : CI fut T d.n0 d.n1 := by rw [h1, h2]; exact hc
    obtain ⟨_, _, s0, s1⟩ := iy hc2
    rw [h3]
    exact ⟨Or.inr s1, Or.inr s0⟩
theorem sE {fut : List Int} {T : Tre} {S : Prop} {c : Cl} (h : Inv fut T c) {x : Nd × List Ou} (ho : dc x.2) (hx : Bec (PV T) c.n1 x.1 ∨ (c.n1.state = 0 ∧ x.1.state = 0 ∧ ∃ T', Sx T T' c.n1 x.1))
    (h4 : x.1.state = 4 → c.n1.state ≠ 4 → S ∧ ∃ H0 H1, GrH T c.n0 c.n1 c.link H0 H1 ∧ (aj H0 H1).src = 0) : Rn1 fut S c (bD c 1 x.1 x.2).1 := by
  have hs : ∃ T', CI fut T' c.n0 x.1 := by
    rcases hx with hb | ⟨_, _, T', hs⟩
    · exact ⟨T, h.1.stepB (Sx.bec h.1.tr hb)⟩
    · exact ⟨T', h.1.stepB hs⟩
  obtain ⟨T', hs⟩ := hs
  have hq := vN x.2 hs
  exact ⟨AP h ho hx (fun a b _ => (h4 a b).2), hq.2.four, fun a b => (h4 (hq.1.four a) b).1⟩
theorem nI {fut : List Int} {T : Tre} {S : Prop} {c : Cl} (h : Inv fut T c) {x : Nd × List Ou} (hx : Rs (PV T) c.n1 x) (hq : Qs c.n1 x.1) : Rn1 fut S c (bD c 1 x.1 x.2).1 :=
  sE h hx.2 (Or.inl hx.1) (fun a b => absurd (hq.four a) b)
theorem vW {fut : List Int} {T : Tre} {S : Prop} {c d : Cl} (h : Inv fut T c) (e0 : d.n0 = c.n0) (e1 : d.n1 = c.n1) (ek : d.link = c.link) : Rn1 fut S c (zb d).1 := by
  unfold zb
  cases hk : !d.link.up with
  | true => exact Rn1.same h e0 e1 ek
  | false =>
    have hc : CI fut T d.n0 d.n1 := by rw [e0, e1]; exact h.1
    obtain ⟨T', hi, s0, s1⟩ := iy hc
    exact ⟨⟨T', hi⟩, fun h => by simp only [cond_false] at h; omega, fun h => by simp only [cond_false] at h; omega⟩
theorem qW {fut : List Int} {T : Tre} {S : Prop} {c : Cl} (h : Inv fut T c) : Rn1 fut S c (em c 1).1 := by
  unfold em
  cases hu : !(ig c 1).up with
  | true => exact Rn1.same h rfl rfl rfl
  | false =>
    cases hw : (!xb (aS c 1 true) (1 - 1) || !(ig c (1 - 1)).up || c.link.up) with
    | true => exact Rn1.same h (eg _ _ _) (ee _ _ _) (ez _ _ _)
    | false =>
      simp only [Bool.or_eq_false_iff, Bool.not_eq_false'] at hu hw
      have p0 : (aS c 1 true).n0 = c.n0 := eg _ _ _
      have p1 : (aS c 1 true).n1 = c.n1 := ee _ _ _
      have v1 : c.n1.up = true := hu
      have v0 : c.n0.up = true := hw.1.2
      have hb := mT (c := { aS c 1 true with link := ch c.link }) (T := T) (fut := fut) (k := c.link) (by show CI fut T (aS c 1 true).n0 (aS c 1 true).n1; rw [p0, p1]; exact h.1) (by show (aS c 1 true).n0.up = true; rw [p0]; exact v0) (by show (aS c 1 true).n1.up = true; rw [p1]; exact v1) rfl
      exact ⟨⟨T, hb.1⟩, fun a => absurd (hb.2.1.symm.trans a) (by decide), fun a => absurd (hb.2.2.symm.trans a) (by decide)⟩
theorem wR {fut : List Int} {T : Tre} {c : Cl} (h : Inv fut T c) : Rn1 fut (zi T c) c (m8 c 1).1 := by
  unfold m8
  cases hl : c.link.to1 with
  | nil =>
    have e1 : (df c.link 1).2.2 = false := by unfold df; rw [hl]; rfl
    rw [e1]
    exact Rn1.same h rfl rfl rfl
  | cons x r =>
    have e1 : df c.link 1 = (x, { c.link with to1 := r }, true) := by unfold df; rw [hl]; rfl
    rw [e1]
    have hw : ∀ H0 H1, GrH T c.n0 c.n1 c.link H0 H1 → GrH T c.n0 c.n1 { c.link with to1 := r } H0 H1 := fun H0 H1 hg =>
      { hg with l1 := fun y hy => hg.l1 y (by rw [hl]; exact List.mem_cons_of_mem _ hy), l0 := hg.l0 }
    have hi : Inv fut T { c with link := { c.link with to1 := r } } := by
      refine ⟨h.1, ⟨h.2.dn, fun hk => ?_⟩⟩
      obtain ⟨H0, H1, hg⟩ := h.2.up hk
      exact ⟨H0, H1, hw _ _ hg⟩
    have hr := Cn h (b := x) (fun _ _ => by rw [hl]; simp)
    have hq := sE (S := zi T c) hi hr.1.2 (Or.inl hr.1.1) (fun a b => by
      obtain ⟨H0, H1, hg, _, _, s1, hs, v1, v2, v3⟩ := hr.2 a b
      exact ⟨⟨H0, H1, hg, s1, hs, v1, v2, v3⟩, H0, H1, hw _ _ hg, hs⟩)
    exact ⟨hq.inv, hq.oth, hq.own⟩
theorem uD {fut : List Int} {T : Tre} {S : Prop} {c : Cl} (h : Inv fut T c) (ks : List Bool) : Rn1 fut S c (bf c 1 (cc c.n1 ks).1) := by
  obtain ⟨hs, hq⟩ := gE h.1.tr h.1.nb ks
  rcases hq with hq | ⟨hu, h0⟩
  · rw [hq]; exact Rn1.same h rfl rfl rfl
  · refine ⟨⟨T, h.1.stepB hs, ⟨fun hk => ?_, fun hk => ?_⟩⟩, fun a => a, fun a => ?_⟩
    · have := h.2.dn hk
      exact ⟨this.1, h0⟩
    · obtain ⟨H0, H1, hg⟩ := h.2.up hk
      exact absurd hg.u1 (by rw [hu]; simp)
    · have : (cc c.n1 ks).1.state = 4 := a
      omega
theorem Cx {fut : List Int} {T : Tre} {c : Cl} (h : Inv fut T c) (e : Evt) (h13 : e.kind ≠ 13) : Rn1 fut (zi T c) c (gQ c e 1 c.n1).1 := by
  have hn : NI (PV T) c.n1 := h.1.nb
  have hcp := ov T
  have pc : ∀ {b : Bool} {x y : Cl × List Ou}, Rn1 fut (zi T c) c x.1 → Rn1 fut (zi T c) c y.1 → Rn1 fut (zi T c) c (bif b then x else y).1 := by
    intro b x y hx hy
    cases b
    · exact hy
    · exact hx
  have hsame : Rn1 fut (zi T c) c (c, ([] : List Ou)).1 := Rn1.same h rfl rfl rfl
  unfold gQ
  refine pc (nI h (ml hcp hn _) (nc _ _)) ?_
  refine pc (nI h (nP hcp hn _) (qm _ _)) ?_
  refine pc (nI h (lY hcp hn _) (nE _ _)) ?_
  refine pc (nI h (qH hn _ _) (sm _ _ _)) ?_
  have hw := pL h.1.tr hn h.1.fb e.id e.block e.data
  have hq := rR c.n1 e.id e.block e.data
  refine pc (sE h hw.1 hw.2 (fun a b => absurd (hq.four a) b)) ?_
  refine pc (qW h) ?_
  refine pc (vW h (eg _ _ _) (ee _ _ _) (ez _ _ _)) ?_
  refine pc (vW h rfl rfl rfl) ?_
  refine pc (wR h) ?_
  refine pc (pc hsame (nI (x := (dv c.n1, [])) h ⟨Bec.down hn.d rfl rfl rfl, dc.nil⟩ (Or.inr rfl))) ?_
  refine pc (uD h _) ?_
  refine pc (nI (x := (dP c.n1 e.n, [])) h ⟨(jJ hn _).1, dc.nil⟩ (jJ hn _).2) ?_
  cases hk : e.kind == 13 with
  | true => exact absurd (eq_of_beq hk) h13
  | false =>
    rw [cond_false]
    refine pc ?_ hsame
    cases hf : (ap e.data c.link.ses).2 == 0 with
    | true => exact hsame
    | false =>
      have hr := Cn h (b := e.data) (fun _ h0 => by rw [h0] at hf; exact absurd hf (by simp))
      refine sE h hr.1.2 (Or.inl hr.1.1) (fun a b => ?_)
      obtain ⟨H0, H1, hg, _, _, s1, hs, v1, v2, v3⟩ := hr.2 a b
      exact ⟨⟨H0, H1, hg, s1, hs, v1, v2, v3⟩, H0, H1, hg, hs⟩
end Go.Dm
namespace Go.Dm
open Go
def jN (l : List Evt) : List Int := (l.filter (·.kind == 13)).map (·.n)
theorem ji {e : Evt} (h : e.kind = 13) (l : List Evt) : jN (e :: l) = e.n :: jN l := by
  have : (e.kind == 13) = true := by rw [h]; rfl
  unfold jN
  rw [List.filter_cons_of_pos (by simpa using this)]
  rfl
theorem jb {e : Evt} (h : e.kind ≠ 13) (l : List Evt) : jN (e :: l) = jN l := by
  unfold jN
  rw [List.filter_cons_of_neg (by simpa using h)]
theorem lv {T : Tre} {n : Nd} (h : NI (PV T) n) (g : Int) : NI (PV T) (dd n g) ∧ Sam n (dd n g) ∧ (dd n g).id = n.id ∧ (dd n g).mints = n.mints := by
  unfold dd
  exact av (p := fun (x : Nd) => NI (PV T) x ∧ Sam n x ∧ x.id = n.id ∧ x.mints = n.mints) ⟨⟨h.d, h.s, h.p, h.z⟩, ⟨rfl, rfl, rfl, rfl, rfl⟩, rfl, rfl⟩ ⟨h, ⟨rfl, rfl, rfl, rfl, rfl⟩, rfl, rfl⟩
theorem u2 {n : Nd} {g x : Int} (h : x ∈ (dd n g).draws) : x ∈ n.draws ∨ x = g := by
  unfold dd at h
  cases hb : decide ((n.draws.length : Int) < 1000) with
  | true =>
    rw [hb] at h
    have h : x ∈ n.draws ++ [g] := h
    simpa using h
  | false => rw [hb] at h; exact Or.inl h
theorem zz {α : Type} {x : α} {l m : List α} (h : l = m) (hx : x ∈ l) : x ∈ m := h ▸ hx
theorem u9 {n : Nd} {g : Int} (h : ∀ x ∈ n.draws, R64 x) (hg : R64 g) : ∀ x ∈ (dd n g).draws, R64 x := fun x hx => by
  rcases u2 hx with h5 | h5
  · exact h x h5
  · rw [h5]; exact hg
theorem me (n : Nd) (g x : Int) : (dd n g).draws.count x ≤ n.draws.count x + [g].count x := by
  unfold dd
  cases hb : decide ((n.draws.length : Int) < 1000) with
  | true => show (n.draws ++ [g]).count x ≤ _; rw [List.count_append]; exact Nat.le_refl _
  | false => exact Nat.le_add_right _ _
theorem u3 {fut : List Int} {T : Tre} {c : Cl} (h : Inv fut T c) {x g : Int} (hx : Kn T x) : inL (aL c) g x = (cF T x).contains g := by
  unfold inL
  rw [show eL (aL c) x = cF T x from h.1.mt.line h.1.tr hx]
theorem fj {x : Int} (h : x < 0) {c d : Cl} (hs : cB c d = x) : mD c d = true := by
  unfold mD
  have : decide (cB c d < 0) = true := by rw [hs]; exact decide_eq_true h
  rw [this]
  rfl
theorem vk {fut : List Int} {T : Tre} {c : Cl} {g : Int} (h : Inv (g :: fut) T c) : Inv fut T (bf c 0 (dd c.n0 g)) := by
  obtain ⟨k1, k2, k3, k4⟩ := lv h.1.na g
  have hr := u9 h.1.ra (h.1.rf g (by simp))
  have hd := me c.n0 g
  generalize dd c.n0 g = m at k1 k2 k3 k4 hr hd
  refine ⟨{ tr := h.1.tr, na := k1, nb := h.1.nb, ia := k3.trans h.1.ia, ib := h.1.ib, mt := ?_, ga := fun x hx => h.1.ga x (zz k4 hx), gb := h.1.gb, ct := fun x => ?_, ra := hr, rb := h.1.rb, rf := fun x hx => h.1.rf x (List.mem_cons_of_mem _ hx) }, ⟨fun hk => ?_, fun hk => ?_⟩⟩
  · show Mts ((bf c 0 m).n0.mints ++ (bf c 0 m).n1.mints) T
    have e : (bf c 0 m).n0.mints = c.n0.mints := k4
    rw [e]
    exact h.1.mt
  · have hc := h.1.ct x
    have hd := hd x
    rw [List.count_cons] at hc
    rw [List.count_singleton] at hd
    have e : (bf c 0 m).n0.draws = m.draws := rfl
    have e2 : (bf c 0 m).n1.draws = c.n1.draws := rfl
    rw [e, e2]
    omega
  · have := h.2.dn hk
    have e : m.state = c.n0.state := k2.st
    exact ⟨e.trans this.1, this.2⟩
  · obtain ⟨H0, H1, hg⟩ := h.2.up hk
    exact ⟨H0, H1, hg.sam0 k2⟩
theorem wE {fut : List Int} {T : Tre} {c : Cl} (h : Inv fut T c) (hs : zM T c) : c.n0.up = true ∧ c.n1.up = true ∧ (c.n0.store.super.inc = true ∨ c.n0.store.super.dis = true ∨ (cF T (gP c.n1)).contains (gP c.n0) = true) := by
  obtain ⟨H0, H1, hg, s1, hsrc, v1, v2, v3⟩ := hs
  refine ⟨hg.u0, hg.u1, ?_⟩
  have hd := oo (by have := h.1.ia; omega) v1 v2 v3
  have hcur : gP c.n1 = H1.v.cur := hg.d1 (by rw [hsrc]; decide)
  rw [hcur]
  rcases hd.2 with hd2 | hd2 | hd2 | hd2
  · exact Or.inl hd2
  · exact Or.inr (Or.inl hd2)
  · right; right
    rw [hd2]
    have := j0 T H1.v.cur
    simpa using this
  · right; right
    obtain ⟨p1, p2⟩ := pd hd2
    rcases hg.p1.2.2 hd.1 _ p2 with h5 | h5
    · exact absurd h5 p1
    · simpa using h5
theorem do0 {l : List Evt} {T : Tre} {c : Cl} {e : Evt} (h : Inv (jN (e :: l)) T c) (he : e.node = 0) : (∃ T', Inv (jN l) T' (doM c e).1) ∧ mD c (doM c e).1 = true := by
  have e1 : doM c e = gQ c e 0 c.n0 := by unfold doM; rw [he]; rfl
  rw [e1]
  by_cases h13 : e.kind = 13
  · have e2 : (gQ c e 0 c.n0).1 = bf c 0 (dd c.n0 e.n) := by unfold gQ; rw [h13]; rfl
    rw [e2]
    rw [ji h13] at h
    refine ⟨⟨T, vk h⟩, fj (x := -1) (by decide) ?_⟩
    have e3 : (bf c 0 (dd c.n0 e.n)).n0.state = c.n0.state := (lv h.1.na e.n).2.1.st
    have e4 : (bf c 0 (dd c.n0 e.n)).n1.state = c.n1.state := rfl
    unfold cB
    rw [e3, e4]
    cases c.n0.state == 4 <;> cases c.n1.state == 4 <;> rfl
  · rw [jb h13] at h
    have hr := BU h e h13
    refine ⟨hr.inv, ?_⟩
    by_cases hst : (gQ c e 0 c.n0).1.n0.state = 4 ∧ c.n0.state ≠ 4
    · obtain ⟨u0, u1, hf⟩ := wE h (hr.own hst.1 hst.2)
      have hsm : cB c (gQ c e 0 c.n0).1 = 0 := by
        have ho := hr.oth
        have b1 : ((gQ c e 0 c.n0).1.n0.state == 4) = true := by rw [hst.1]; rfl
        have b2 : (c.n0.state == 4) = false := by simpa using hst.2
        have b3 : ((gQ c e 0 c.n0).1.n1.state == 4 && !(c.n1.state == 4)) = false := by
          cases q : (gQ c e 0 c.n0).1.n1.state == 4 with
          | false => rfl
          | true => rw [ho (eq_of_beq q)]; rfl
        unfold cB
        rw [b1, b2]; rfl
      unfold mD
      rw [hsm]
      have kn1 : Kn T (iB c (1 - 0)) := (h.1.nb.s u1).2.1
      rw [u3 h kn1, u0, u1]
      rcases hf with hf | hf | hf
      · have : (ge c 0).inc = true := hf
        rw [this]; rfl
      · have : (ge c 0).dis = true := hf
        rw [this]
        cases (ge c 0).inc <;> rfl
      · have : (cF T (iB c (1 - 0))).contains (iB c 0) = true := hf
        rw [this]
        cases (ge c 0).inc <;> cases (ge c 0).dis <;> rfl
    · refine fj (x := -1) (by decide) ?_
      have ho := hr.oth
      have b1 : ((gQ c e 0 c.n0).1.n0.state == 4 && !(c.n0.state == 4)) = false := by
        cases q : (gQ c e 0 c.n0).1.n0.state == 4 with
        | false => rfl
        | true =>
          cases q2 : c.n0.state == 4 with
          | true => rfl
          | false => exact absurd ⟨eq_of_beq q, by simpa using q2⟩ hst
      have b3 : ((gQ c e 0 c.n0).1.n1.state == 4 && !(c.n1.state == 4)) = false := by
        cases q : (gQ c e 0 c.n0).1.n1.state == 4 with
        | false => rfl
        | true => rw [ho (eq_of_beq q)]; rfl
      unfold cB
      rw [b1, b3]
      rfl
theorem uO {fut : List Int} {T : Tre} {c : Cl} {g : Int} (h : Inv (g :: fut) T c) : Inv fut T (bf c 1 (dd c.n1 g)) := by
  obtain ⟨k1, k2, k3, k4⟩ := lv h.1.nb g
  have hr := u9 h.1.rb (h.1.rf g (by simp))
  have hd := me c.n1 g
  generalize dd c.n1 g = m at k1 k2 k3 k4 hr hd
  refine ⟨{ tr := h.1.tr, na := h.1.na, nb := k1, ia := h.1.ia, ib := k3.trans h.1.ib, mt := ?_, ga := h.1.ga, gb := fun x hx => h.1.gb x (zz k4 hx), ct := fun x => ?_, ra := h.1.ra, rb := hr, rf := fun x hx => h.1.rf x (List.mem_cons_of_mem _ hx) }, ⟨fun hk => ?_, fun hk => ?_⟩⟩
  · show Mts ((bf c 1 m).n0.mints ++ (bf c 1 m).n1.mints) T
    have e : (bf c 1 m).n1.mints = c.n1.mints := k4
    rw [e]
    exact h.1.mt
  · have hc := h.1.ct x
    have hd := hd x
    rw [List.count_cons] at hc
    rw [List.count_singleton] at hd
    have e : (bf c 1 m).n1.draws = m.draws := rfl
    have e2 : (bf c 1 m).n0.draws = c.n0.draws := rfl
    rw [e, e2]
    omega
  · have := h.2.dn hk
    have e : m.state = c.n1.state := k2.st
    exact ⟨this.1, e.trans this.2⟩
  · obtain ⟨H0, H1, hg⟩ := h.2.up hk
    exact ⟨H0, H1, hg.sam1 k2⟩
theorem vL {fut : List Int} {T : Tre} {c : Cl} (h : Inv fut T c) (hs : zi T c) : c.n0.up = true ∧ c.n1.up = true ∧ (c.n1.store.super.inc = true ∨ c.n1.store.super.dis = true ∨ (cF T (gP c.n0)).contains (gP c.n1) = true) := by
  obtain ⟨H0, H1, hg, s1, hsrc, v1, v2, v3⟩ := hs
  refine ⟨hg.u0, hg.u1, ?_⟩
  have hd := oo (by have := h.1.ib; omega) v1 v2 v3
  have hcur : gP c.n0 = H0.v.cur := hg.d0 (by rw [hsrc]; decide)
  rw [hcur]
  rcases hd.2 with hd2 | hd2 | hd2 | hd2
  · exact Or.inl hd2
  · exact Or.inr (Or.inl hd2)
  · right; right
    rw [hd2]
    have := j0 T H0.v.cur
    simpa using this
  · right; right
    obtain ⟨p1, p2⟩ := pd hd2
    rcases hg.p0.2.2 hd.1 _ p2 with h5 | h5
    · exact absurd h5 p1
    · simpa using h5
theorem do1 {l : List Evt} {T : Tre} {c : Cl} {e : Evt} (h : Inv (jN (e :: l)) T c) (he : e.node = 1) : (∃ T', Inv (jN l) T' (doM c e).1) ∧ mD c (doM c e).1 = true := by
  have e1 : doM c e = gQ c e 1 c.n1 := by unfold doM; rw [he]; rfl
  rw [e1]
  by_cases h13 : e.kind = 13
  · have e2 : (gQ c e 1 c.n1).1 = bf c 1 (dd c.n1 e.n) := by unfold gQ; rw [h13]; rfl
    rw [e2]
    rw [ji h13] at h
    refine ⟨⟨T, uO h⟩, fj (x := -1) (by decide) ?_⟩
    have e3 : (bf c 1 (dd c.n1 e.n)).n1.state = c.n1.state := (lv h.1.nb e.n).2.1.st
    have e4 : (bf c 1 (dd c.n1 e.n)).n0.state = c.n0.state := rfl
    unfold cB
    rw [e3, e4]
    cases c.n0.state == 4 <;> cases c.n1.state == 4 <;> rfl
  · rw [jb h13] at h
    have hr := Cx h e h13
    refine ⟨hr.inv, ?_⟩
    by_cases hst : (gQ c e 1 c.n1).1.n1.state = 4 ∧ c.n1.state ≠ 4
    · obtain ⟨u0, u1, hf⟩ := vL h (hr.own hst.1 hst.2)
      have hsm : cB c (gQ c e 1 c.n1).1 = 1 := by
        have ho := hr.oth
        have b1 : ((gQ c e 1 c.n1).1.n1.state == 4) = true := by rw [hst.1]; rfl
        have b2 : (c.n1.state == 4) = false := by simpa using hst.2
        have b3 : ((gQ c e 1 c.n1).1.n0.state == 4 && !(c.n0.state == 4)) = false := by
          cases q : (gQ c e 1 c.n1).1.n0.state == 4 with
          | false => rfl
          | true => rw [ho (eq_of_beq q)]; rfl
        unfold cB
        rw [b3, b1, b2]; rfl
      unfold mD
      rw [hsm]
      have kn0 : Kn T (iB c (1 - 1)) := (h.1.na.s u0).2.1
      rw [u3 h kn0, u0, u1]
      rcases hf with hf | hf | hf
      · have : (ge c 1).inc = true := hf
        rw [this]; rfl
      · have : (ge c 1).dis = true := hf
        rw [this]
        cases (ge c 1).inc <;> rfl
      · have : (cF T (iB c (1 - 1))).contains (iB c 1) = true := hf
        rw [this]
        cases (ge c 1).inc <;> cases (ge c 1).dis <;> rfl
    · refine fj (x := -1) (by decide) ?_
      have ho := hr.oth
      have b1 : ((gQ c e 1 c.n1).1.n1.state == 4 && !(c.n1.state == 4)) = false := by
        cases q : (gQ c e 1 c.n1).1.n1.state == 4 with
        | false => rfl
        | true =>
          cases q2 : c.n1.state == 4 with
          | true => rfl
          | false => exact absurd ⟨eq_of_beq q, by simpa using q2⟩ hst
      have b3 : ((gQ c e 1 c.n1).1.n0.state == 4 && !(c.n0.state == 4)) = false := by
        cases q : (gQ c e 1 c.n1).1.n0.state == 4 with
        | false => rfl
        | true => rw [ho (eq_of_beq q)]; rfl
      unfold cB
      rw [b1, b3]
      rfl
theorem yd {l : List Evt} {T : Tre} {c : Cl} {e : Evt} (h : Inv (jN (e :: l)) T c) : (∃ T', Inv (jN l) T' (doM c e).1) ∧ mD c (doM c e).1 = true := by
  by_cases h0 : e.node = 0
  · exact do0 h h0
  · by_cases h1 : e.node = 1
    · exact do1 h h1
    · have e1 : doM c e = (c, []) := by
        have b0 : (e.node == 0) = false := by simpa using h0
        have b1 : (e.node == 1) = false := by simpa using h1
        unfold doM
        rw [b0, b1]
        rfl
      rw [e1]
      refine ⟨⟨T, h.1.less fun x => ?_, h.2⟩, fj (x := -1) (by decide) ?_⟩
      · by_cases h13 : e.kind = 13
        · rw [ji h13, List.count_cons]; exact Nat.le_add_right _ _
        · rw [jb h13]; exact Nat.le_refl _
      · unfold cB
        cases c.n0.state == 4 <;> cases c.n1.state == 4 <;> rfl
theorem sh : ∀ (l r : List Evt) {T : Tre} {c : Cl}, Inv (jN (l ++ r)) T c → ∃ T', Inv (jN r) T' (iN c l).1
  | [], r, T, c, h => ⟨T, h⟩
  | e :: l, r, T, c, h => by
    obtain ⟨⟨T1, h1⟩, _⟩ := yd (l := l ++ r) h
    obtain ⟨T2, h2⟩ := sh l r h1
    refine ⟨T2, ?_⟩
    have key : ∀ (l : List Evt) (c : Cl) (o : List Ou), (l.foldl (fun x e => ((doM x.1 e).1, x.2 ++ (doM x.1 e).2)) (c, o)).1 = (iN c l).1 := by
      intro l
      induction l with
      | nil => intro c o; rfl
      | cons e l ih =>
        intro c o
        unfold iN
        rw [List.foldl_cons, List.foldl_cons, ih, ih]
    have : (iN c (e :: l)).1 = (iN (doM c e).1 l).1 := by
      unfold iN
      rw [List.foldl_cons]
      exact key _ _ _
    rw [this]
    exact h2
theorem tB {l : List Evt} {x : Evt} {i : Nat} (h : i < l.length) : j2 (l ++ [x]) i = j2 l i := by
  unfold j2
  rw [List.getElem?_append_left h]
  cases l[i]? with
  | none => rfl
  | some y => simp only [Bu]; rw [List.take_append_of_le_length (by omega)]
theorem n8 {l : List Evt} {x : Evt} (h : bN (l ++ [x]) = true) : bN l = true ∧ Bu (l ++ [x]) l.length x = false := by
  unfold bN at h ⊢
  rw [List.length_append, List.length_singleton, List.range_succ, List.any_append, Bool.not_eq_true', Bool.or_eq_false_iff] at h
  refine ⟨?_, ?_⟩
  · rw [Bool.not_eq_true', List.any_eq_false]
    intro i hi
    have := List.any_eq_false.1 h.1 i hi
    rw [tB (by simpa using hi)] at this
    exact this
  · have h2 := h.2
    simp only [List.any_cons, List.any_nil, Bool.or_false] at h2
    unfold j2 at h2
    rw [List.getElem?_append_right (Nat.le_refl _)] at h2
    simpa using h2
theorem vD (l : List Evt) (x : Evt) : jN (l ++ [x]) = jN l ++ jN [x] := by
  unfold jN
  rw [List.filter_append, List.map_append]
theorem yF {α : Type} {p : List α → Prop} (h0 : p []) (h1 : ∀ l x, p l → p (l ++ [x])) (l : List α) : p l := by
  have : ∀ m : List α, p m.reverse := by
    intro m
    induction m with
    | nil => exact h0
    | cons x m ih => rw [List.reverse_cons]; exact h1 _ _ ih
  have h := this l.reverse
  rwa [List.reverse_reverse] at h
theorem mG : ∀ l : List Evt, bN l = true → ∀ x : Int, (jN l).count x + one x 0 + one x 7 ≤ 1 := by
  refine yF ?_ ?_
  · intro _ x
    by_cases h0 : x = 0
    · subst h0; decide
    · by_cases h7 : x = 7
      · subst h7; decide
      · have a : one x 0 = 0 := if_neg h0
        have b : one x 7 = 0 := if_neg h7
        rw [a, b]; simp [jN]
  · intro l e ih hd x
    obtain ⟨h1, h2⟩ := n8 hd
    have hi := ih h1 x
    rw [vD, List.count_append]
    by_cases h13 : e.kind = 13
    · have ef : jN [e] = [e.n] := by rw [ji h13]; rfl
      rw [ef, List.count_singleton]
      unfold Bu at h2
      have b13 : (e.kind == 13) = true := by rw [h13]; rfl
      rw [b13, Bool.true_and, Bool.or_eq_false_iff, Bool.or_eq_false_iff] at h2
      by_cases hx : e.n = x
      · subst hx
        have a : one e.n 0 = 0 := if_neg (by simpa using h2.1)
        have b : one e.n 7 = 0 := if_neg (by simpa using h2.2.1)
        have c : (jN l).count e.n = 0 := by
          rw [List.count_eq_zero]
          intro hm
          unfold jN at hm
          obtain ⟨y, hy, hye⟩ := List.mem_map.1 hm
          obtain ⟨hy1, hy2⟩ := List.mem_filter.1 hy
          have h3 := List.any_eq_false.1 h2.2.2 y (by rw [List.take_append_of_le_length (Nat.le_refl _), List.take_length]; exact hy1)
          apply h3
          unfold gr
          have hy2 : (y.kind == 13) = true := hy2
          rw [hy2, hye]
          simp
        rw [a, b, c]
        simp
      · have : (e.n == x) = false := by simpa using hx
        rw [this]
        simpa using hi
    · have ef : jN [e] = [] := by rw [jb h13]; rfl
      rw [ef]
      simpa using hi
theorem y4 {l : List Evt} (hd : bN l = true) (hr : ∀ e ∈ l, R64 e.n) {a b : Nd} (na : NI (PV []) a) (nb : NI (PV []) b) (ia : a.id = 0) (ib : b.id = 1) (da : a.draws = []) (db : b.draws = []) (ma : a.mints = []) (mb : b.mints = []) : CI (jN l) [] a b := by
  refine ⟨trivial, na, nb, ia, ib, by rw [ma, mb]; exact ⟨by simp, by simp⟩, by rw [ma]; simp, by rw [mb]; simp, fun x => ?_, by rw [da]; simp, by rw [db]; simp, fun x hx => ?_⟩
  · have := mG l hd x
    rw [da, db]
    simpa [qD] using this
  · unfold jN at hx
    obtain ⟨y, hy, rfl⟩ := List.mem_map.1 hx
    exact hr y (List.mem_filter.1 hy).1
def rg (c : Cl) (i : Nat) (x : Mi) : Bool := decide ((i : Int) < (c.n0.mints.length : Int)) && !(x.n == 0) || decide ((i : Int) ≥ (c.n0.mints.length : Int)) && !(x.n == 1) || decide (dY c 7 x.g < 1)
theorem ED {l : List Int} {a : Int} (h7 : 7 ∈ l) (ha : ∃ r, l = a :: r) (hne : a ≠ 7) : decide (uM l 7 < 1) = false := by
  obtain ⟨r, rfl⟩ := ha
  have h1 : ((a :: r).any ((7 : Int) == ·)) = true := by
    rw [List.any_eq_true]
    exact ⟨7, h7, by decide⟩
  unfold uM
  rw [h1]
  have h2 : ((7 : Int) == a) = false := by simpa using fun h : 7 = a => hne h.symm
  rw [List.findIdx_cons, h2]
  simp
  omega
theorem uc {fut : List Int} {T : Tre} {c : Cl} (h : Inv fut T c) {i : Nat} {x : Mi} (hx : (aL c)[i]? = some x) : rg c i x = false := by
  have hm : x ∈ aL c := List.mem_of_getElem? hx
  have hk : Kn T x.g := Or.inr (List.mem_map.2 ⟨_, h.1.mt.to x hm, rfl⟩)
  have hne : x.g ≠ 7 := by
    have ht := h.1.tr
    have hT := h.1.mt.to x hm
    generalize T = S at ht hT
    clear h hk
    induction S with
    | nil => simp at hT
    | cons e S ih =>
      obtain ⟨a, p⟩ := e
      rcases List.mem_cons.1 hT with hT | hT
      · simp at hT; rw [hT.1]; exact ht.2.1
      · exact ih ht.2.2.2.2 hT
  have hb : decide (dY c 7 x.g < 1) = false := by
    unfold dY
    rw [show eL (aL c) x.g = cF T x.g from h.1.mt.line h.1.tr hk]
    exact ED (om h.1.tr hk).2.2 (ij T x.g) hne
  unfold rg
  rw [hb, Bool.or_false]
  unfold aL at hx
  by_cases hi : i < c.n0.mints.length
  · rw [List.getElem?_append_left hi] at hx
    have := h.1.ga x (List.mem_of_getElem? hx)
    rw [this, decide_eq_true (by omega : (i : Int) < (c.n0.mints.length : Int)), decide_eq_false (by omega : ¬ (i : Int) ≥ (c.n0.mints.length : Int))]
    rfl
  · rw [List.getElem?_append_right (by omega)] at hx
    have := h.1.gb x (List.mem_of_getElem? hx)
    rw [this, decide_eq_false (by omega : ¬ (i : Int) < (c.n0.mints.length : Int)), decide_eq_true (by omega : (i : Int) ≥ (c.n0.mints.length : Int))]
    rfl
theorem Ar {l : List Int} {a : Int} (h : a ∈ l) : decide (uM l a < 0) = false := by
  have := vZ l a
  rw [show l.contains a = true by simpa using h] at this
  simp at this ⊢
  omega
theorem nO {fut : List Int} {T : Tre} {c : Cl} (h : Inv fut T c) {n : Nd} (hn : NI (PV T) n) (hu : n.up = true) : decide (dY c 7 (gP n) < 0) = false := by
  have hk : Kn T (gP n) := (hn.s hu).2.1
  unfold dY
  rw [show eL (aL c) (gP n) = cF T (gP n) from h.1.mt.line h.1.tr hk]
  exact Ar (om h.1.tr hk).2.2
end Go.Dm
