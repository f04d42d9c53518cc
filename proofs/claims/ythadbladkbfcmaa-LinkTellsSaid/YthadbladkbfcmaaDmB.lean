/-
  The data machine, part B: what a frame's memory means in the model's world; how it lasts.
-/
import Derived.Test.YthadbladkbfcmaaDmA
namespace Go.Dm
open Go.RowKit

structure TkInfo where
  base : Option Addr
  cap : Nat
  sz : Nat
  deriving Inhabited

/-- The ghost: which cells stay for good; where each variable lies; what each token stands for. -/
structure Gh where
  fr : Nat → Nat → Prop
  loc : Nat → Option (Nat × Nat)
  tk : Nat → TkInfo

def capRep (γ : Gh) (w : World) : C ⊕ (Nat × Nat) → Value → Prop
  | .inl x, v => x.rep γ.fr w v
  | .inr (id, off), v => ∃ b o, γ.loc id = some (b, o) ∧ v = .pointer (some ⟨b, o + off, none⟩)

def tkRep (γ : Gh) (tok : Nat → Option Nat) (sz len : Nat) (v : Value) : Tk → Prop
  | .exact => ∃ a n, v = .slice a n n
  | .tok i => ∃ n, tok i = some n ∧ len ≤ n ∧ (len = n → v = .slice (γ.tk i).base n (γ.tk i).cap ∧ (γ.tk i).sz = sz)

def V.rep (γ : Gh) (tok : Nat → Option Nat) (w : World) : V → Value → Prop
  | .c x, v => x.rep γ.fr w v
  | .own sz es t, v => (C.slice sz es).rep γ.fr w v ∧ tkRep γ tok sz es.length v t
  | .ptr id off, v => ∃ b o, γ.loc id = some (b, o) ∧ v = .pointer (some ⟨b, o + off, none⟩)
  | .vsl id off _ n, v => ∃ b o cap, γ.loc id = some (b, o) ∧ v = .slice (some ⟨b, o + off, none⟩) n cap ∧ n ≤ cap
  | .clo f caps, v => ∃ vs : List Value, v = .func (.func f) #[] vs.toArray ∧ All2 (capRep γ w) caps vs

def K.rep (γ : Gh) (tok : Nat → Option Nat) (w : World) : K → Value → Prop
  | .v x, u => x.rep γ tok w u
  | .agg xs, u => ∃ vs : List Value, u = .agg vs.toArray ∧ All2 (V.rep γ tok w) xs vs

def T.rep (γ : Gh) (tok : Nat → Option Nat) (w : World) : T → Value → Prop
  | .k x, v => x.rep γ tok w v
  | .tup ks, v => ∃ vs : List Value, v = .tuple vs.toArray ∧ All2 (K.rep γ tok w) ks vs
  | .hole, _ => True
  | .skip, v => v = undef

theorem V.rep_one {γ : Gh} {tok : Nat → Option Nat} {w : World} {x : V} {v : Value} (h : x.rep γ tok w v) : v.oneCell' = true := by
  cases x <;> simp only [V.rep] at h
  case c x => exact C.rep_one h
  case own sz es t => exact C.rep_one h.1
  case ptr id off => obtain ⟨_, _, _, rfl⟩ := h; rfl
  case vsl id off sz n => obtain ⟨_, _, _, _, rfl, _⟩ := h; rfl
  case clo f caps => obtain ⟨_, rfl, _⟩ := h; rfl

/-- What stays of a frame's ghost, tokens and world. -/
structure Ex (γ γ' : Gh) (tok tok' : Nat → Option Nat) (w w' : World) : Prop where
  ev : Ev γ.fr γ'.fr w w'
  loc : ∀ id p, γ.loc id = some p → γ'.loc id = some p
  tok : ∀ i n, tok i = some n → (tok' i = some n ∧ γ'.tk i = γ.tk i) ∨ ∃ n', tok' i = some n' ∧ n < n'

theorem Ex.refl (γ : Gh) (tok : Nat → Option Nat) (w : World) : Ex γ γ tok tok w w := ⟨.refl _ _, fun _ _ h => h, fun _ _ h => .inl ⟨h, rfl⟩⟩

theorem capRep.mono {γ γ' : Gh} {tok tok' : Nat → Option Nat} {w w' : World} (he : Ex γ γ' tok tok' w w') (x : C ⊕ (Nat × Nat)) (v : Value) (h : capRep γ w x v) : capRep γ' w' x v := by
  cases x with
  | inl x => exact C.rep.mono he.ev x v h
  | inr p => obtain ⟨b, o, h1, h2⟩ := h; exact ⟨b, o, he.loc _ _ h1, h2⟩

theorem V.rep.mono {γ γ' : Gh} {tok tok' : Nat → Option Nat} {w w' : World} (he : Ex γ γ' tok tok' w w') (x : V) (v : Value) (h : x.rep γ tok w v) : x.rep γ' tok' w' v := by
  cases x <;> simp only [V.rep] at h ⊢
  case c x => exact C.rep.mono he.ev x v h
  case own sz es t =>
    refine ⟨C.rep.mono he.ev _ v h.1, ?_⟩
    cases t with
    | exact => exact h.2
    | tok i =>
      obtain ⟨n, h1, h2, h3⟩ := h.2
      rcases he.tok i n h1 with ⟨h4, h5⟩ | ⟨n', h4, h5⟩
      · exact ⟨n, h4, h2, by rw [h5]; exact h3⟩
      · exact ⟨n', h4, by omega, fun h => by omega⟩
  case ptr id off => obtain ⟨b, o, h1, h2⟩ := h; exact ⟨b, o, he.loc _ _ h1, h2⟩
  case vsl id off sz n => obtain ⟨b, o, cap, h1, h2⟩ := h; exact ⟨b, o, cap, he.loc _ _ h1, h2⟩
  case clo f caps => obtain ⟨vs, h1, h2⟩ := h; exact ⟨vs, h1, h2.mono (fun x v => capRep.mono he x v)⟩

theorem K.rep.mono {γ γ' : Gh} {tok tok' : Nat → Option Nat} {w w' : World} (he : Ex γ γ' tok tok' w w') (x : K) (v : Value) (h : x.rep γ tok w v) : x.rep γ' tok' w' v := by
  cases x <;> simp only [K.rep] at h ⊢
  case v x => exact V.rep.mono he x v h
  case agg xs => obtain ⟨vs, h1, h2⟩ := h; exact ⟨vs, h1, h2.mono (fun x v => V.rep.mono he x v)⟩

theorem T.rep.mono {γ γ' : Gh} {tok tok' : Nat → Option Nat} {w w' : World} (he : Ex γ γ' tok tok' w w') (x : T) (v : Value) (h : x.rep γ tok w v) : x.rep γ' tok' w' v := by
  cases x <;> simp only [T.rep] at h ⊢
  case k x => exact K.rep.mono he x v h
  case tup ks => obtain ⟨vs, h1, h2⟩ := h; exact ⟨vs, h1, h2.mono (fun x v => K.rep.mono he x v)⟩
  case skip => exact h

/-! ### Old memory -/
def Kept (p : Nat → Prop) (x y : Option Obj) : Prop :=
  match x with
  | some (.cells c e fz) => ∃ c', y = some (.cells c' e fz) ∧ c'.size = c.size ∧ ∀ j, ¬ p j → c'[j]? = c[j]?
  | o => y = o

theorem Kept.refl (p : Nat → Prop) (x : Option Obj) : Kept p x x := by
  unfold Kept
  split
  · exact ⟨_, rfl, rfl, fun _ _ => rfl⟩
  · rfl

theorem Kept.of_eq {p : Nat → Prop} {x y : Option Obj} (h : y = x) : Kept p x y := h ▸ Kept.refl p x

theorem Kept.trans {p : Nat → Prop} {x y z : Option Obj} (h : Kept p x y) (k : Kept p y z) : Kept p x z := by
  cases x with
  | none => simp only [Kept] at h; subst h; exact k
  | some x =>
    cases x with
    | cells c e fz =>
      obtain ⟨c', h1, h2, h3⟩ := h
      subst h1
      obtain ⟨c'', k1, k2, k3⟩ := k
      exact ⟨c'', k1, k2.trans h2, fun j hj => (k3 j hj).trans (h3 j hj)⟩
    | _ => simp only [Kept] at h; subst h; exact k

/-- Nothing that was there has turned, but (maybe) the cells of imp. -/
structure BelowBut (imp : Nat → Nat → Prop) (w w' : World) : Prop where
  os : w'.os = w.os
  tape : w'.tape = w.tape
  output : w'.output = w.output
  size : w.heap.size ≤ w'.heap.size
  blk : ∀ b, b < w.heap.size → Kept (imp b) w.heap[b]? w'.heap[b]?

theorem BelowBut.refl (imp : Nat → Nat → Prop) (w : World) : BelowBut imp w w := ⟨rfl, rfl, rfl, Nat.le_refl _, fun _ _ => Kept.refl _ _⟩

theorem BelowBut.trans {imp : Nat → Nat → Prop} {a b c : World} (h : BelowBut imp a b) (k : BelowBut imp b c) : BelowBut imp a c :=
  ⟨k.os.trans h.os, k.tape.trans h.tape, k.output.trans h.output, Nat.le_trans h.size k.size, fun i hi => (h.blk i hi).trans (k.blk i (Nat.lt_of_lt_of_le hi h.size))⟩

theorem BelowBut.of_below {imp : Nat → Nat → Prop} {w w' : World} (h : Below w.heap.size w w') : BelowBut imp w w' :=
  ⟨h.os, h.tape, h.output, h.size, fun b hb => Kept.of_eq (h.block b hb)⟩

theorem BelowBut.below {w w' : World} (h : BelowBut (fun _ _ => False) w w') : Below w.heap.size w w' :=
  ⟨h.os, h.tape, h.output, h.size, fun b hb => by
    have := h.blk b hb
    unfold Kept at this
    split at this
    · rename_i c e fz hx
      obtain ⟨c', h1, h2, h3⟩ := this
      rw [h1, hx]
      have : c' = c := by
        apply Array.ext h2
        intro i hi hi'
        have := h3 i (fun h => h)
        simpa [Array.getElem?_eq_getElem hi, Array.getElem?_eq_getElem hi'] using this
      rw [this]
    · exact this⟩

theorem BelowBut.mono {imp imp' : Nat → Nat → Prop} {w w' : World} (h : BelowBut imp w w') (hi : ∀ b o, imp b o → imp' b o) : BelowBut imp' w w' :=
  ⟨h.os, h.tape, h.output, h.size, fun b hb => by
    have := h.blk b hb
    unfold Kept at this ⊢
    split
    · rename_i c e fz hx
      simp only [hx] at this
      obtain ⟨c', h1, h2, h3⟩ := this
      exact ⟨c', h1, h2, fun j hj => h3 j (fun hp => hj (hi b j hp))⟩
    · rename_i hx
      split at this
      · rename_i c e fz hx'
        exact absurd hx' (hx c e fz)
      · exact this⟩

theorem Kept_setCell (w : World) (p : Nat → Nat → Prop) (b o : Nat) (v : Value) (i : Nat) (h : i = b → p b o) : Kept (p i) w.heap[i]? (w.setCell ⟨b, o, none⟩ v).heap[i]? := by
  by_cases hib : i = b
  · subst hib
    have hp := h rfl
    unfold Kept
    simp only [World.setCell, Array.getElem?_modify, ↓reduceIte]
    split
    · rename_i c e fz hx
      rw [hx]
      exact ⟨c.setIfInBounds o v, by simp, by simp, fun j hj => by
        by_cases hjo : o = j
        · subst hjo; exact absurd hp hj
        · rw [Array.getElem?_setIfInBounds_ne hjo]⟩
    · rename_i hx
      cases hh : w.heap[i]? with
      | none => simp
      | some x => cases x <;> simp_all
  · exact Kept.of_eq (Below.heap_setCell _ _ _ _ hib)

theorem BelowBut.setCell {imp : Nat → Nat → Prop} {a w : World} (h : BelowBut imp a w) {b o : Nat} (hp : imp b o ∨ a.heap.size ≤ b) (u : Value) : BelowBut imp a (w.setCell ⟨b, o, none⟩ u) :=
  ⟨h.os, h.tape, h.output, by simpa using h.size, fun i hi => (h.blk i hi).trans (Kept_setCell w imp b o u i (fun hb => by
    rcases hp with hp | hp
    · exact hp
    · omega))⟩

theorem BelowBut.setCells {imp : Nat → Nat → Prop} {a : World} {b : Nat} : ∀ {vs : List Value} {o : Nat} {w : World}, BelowBut imp a w → (∀ j, j < vs.length → imp b (o + j) ∨ a.heap.size ≤ b) → BelowBut imp a (w.setCells b o vs)
  | [], _, _, h, _ => h
  | v :: vs, o, w, h, hp => by
    rw [World.setCells]
    exact BelowBut.setCells (h.setCell (by simpa using hp 0 (by simp)) v) (fun j hj => by
      have := hp (j + 1) (by simpa using hj)
      rwa [show o + (j + 1) = o + 1 + j by omega] at this)

theorem BelowBut.alloc {imp : Nat → Nat → Prop} {a w : World} (h : BelowBut imp a w) (o : Obj) : BelowBut imp a (w.alloc o) :=
  h.trans (BelowBut.of_below ((Below.refl _ w).alloc (Nat.le_refl _) o))

theorem BelowBut.drew {imp : Nat → Nat → Prop} {a w : World} (h : BelowBut imp a w) : BelowBut imp a w.drew := ⟨h.os, h.tape, h.output, h.size, h.blk⟩

/-! ### A frame -/
/-- What a frame was handed: the cells that stay (fr0), the cells of others that it may write (imp), the world in which it began, how many temporaries. -/
structure Fm where
  fr0 : Nat → Nat → Prop
  imp : Nat → Nat → Prop
  w0 : World
  n : Nat
  locs : List (Nat × Nat)

def Fm.mine (F : Fm) (b o : Nat) : Prop := F.imp b o ∨ F.w0.heap.size ≤ b

structure Mem where
  tmp : Nat → T
  var : Nat → Option (List V)
  tok : Nat → Option Nat

def Mem.put (m : Mem) (d : Option Tmp) (x : T) : Mem :=
  match d with
  | some d => { m with tmp := fun t => if t = d then x else m.tmp t }
  | none => m

/-- A variable's cells hold its data, and may be written. -/
def VarOk (F : Fm) (γ : Gh) (tok : Nat → Option Nat) (w : World) (xs : List V) (b o : Nat) : Prop :=
  (∃ vs : List Value, All2 (V.rep γ tok w) xs vs ∧ w.rangeAt b o vs) ∧ w.there b o xs.length ∧ ∀ j, j < xs.length → ¬ γ.fr b (o + j) ∧ F.mine b (o + j)

/-- A live token: the length is the capacity; or the row is the frame's own, and what lies behind the length is nobody's. -/
def TokOk (F : Fm) (γ : Gh) (w : World) (i n : Nat) : Prop :=
  n ≤ (γ.tk i).cap ∧ ((γ.tk i).cap = n ∨ ∃ b, (γ.tk i).base = some ⟨b, 0, none⟩ ∧ F.w0.heap.size ≤ b ∧
    (∃ arr e, w.heap[b]? = some (.cells arr e (0, 0)) ∧ (γ.tk i).cap * (γ.tk i).sz ≤ arr.size) ∧ ∀ o, n * (γ.tk i).sz ≤ o → ¬ γ.fr b o)

structure Rel (F : Fm) (γ : Gh) (m : Mem) (a : Act) (w : World) : Prop where
  defers : a.defers = []
  size : a.tmps.size = F.n
  base : BelowBut F.imp F.w0 w
  fr0 : ∀ b o, F.fr0 b o → γ.fr b o
  frs : ∀ b o, γ.fr b o → F.fr0 b o ∨ F.mine b o
  frlt : ∀ b o, γ.fr b o → b < w.heap.size
  loclt : ∀ id b o, γ.loc id = some (b, o) → b < w.heap.size
  tmps : ∀ t, (m.tmp t).rep γ m.tok w (a.tmps.getD t undef)
  vars : ∀ id xs, m.var id = some xs → ∃ b o, γ.loc id = some (b, o) ∧ VarOk F γ m.tok w xs b o
  novar : ∀ id, m.var id = none → γ.loc id = none
  lentloc : ∀ (k : Nat) p, F.locs[k]? = some p → γ.loc k = some p
  apart : ∀ id id' xs xs' b o b' o', id ≠ id' → m.var id = some xs → m.var id' = some xs' → γ.loc id = some (b, o) → γ.loc id' = some (b', o') →
    b ≠ b' ∨ o + xs.length ≤ o' ∨ o' + xs'.length ≤ o
  toks : ∀ i n, m.tok i = some n → TokOk F γ w i n
  tapart : ∀ i j n k, i ≠ j → m.tok i = some n → m.tok j = some k → (γ.tk i).cap ≠ n → (γ.tk j).cap ≠ k → (γ.tk i).base.map (·.block) ≠ (γ.tk j).base.map (·.block)
  tvar : ∀ i n id xs b o, m.tok i = some n → m.var id = some xs → γ.loc id = some (b, o) → (γ.tk i).cap ≠ n → (γ.tk i).base.map (·.block) ≠ some b

theorem Act.getD_put {a : Act} {d : Option Tmp} {v : Value} {n : Nat} (hs : a.tmps.size = n) (hd : ∀ t, d = some t → t < n) (t : Nat) :
    (a.put d v).tmps.getD t undef = if d = some t then v else a.tmps.getD t undef := by
  cases d with
  | none => simp [Act.put]
  | some d =>
    have hlt : d < a.tmps.size := by rw [hs]; exact hd d rfl
    by_cases h : d = t
    · subst h; simp [Act.put, hlt]
    · simp [Act.put, h]

theorem Mem.put_var (m : Mem) (d : Option Tmp) (x : T) : (m.put d x).var = m.var := by cases d <;> rfl
theorem Mem.put_tok (m : Mem) (d : Option Tmp) (x : T) : (m.put d x).tok = m.tok := by cases d <;> rfl
theorem Mem.put_tmp (m : Mem) (d : Option Tmp) (x : T) (t : Nat) : (m.put d x).tmp t = if d = some t then x else m.tmp t := by
  cases d with
  | none => simp [Mem.put]
  | some d =>
    simp only [Mem.put, Option.some.injEq]
    by_cases h : d = t
    · simp [h]
    · simp [h, Ne.symm h]

theorem Act.put_size (a : Act) (d : Option Tmp) (v : Value) : (a.put d v).tmps.size = a.tmps.size := by cases d <;> simp [Act.put]
theorem Act.put_defers' (a : Act) (d : Option Tmp) (v : Value) : (a.put d v).defers = a.defers := by cases d <;> rfl

/-- A temporary is set; the world stands. -/
theorem Rel.put {F : Fm} {γ : Gh} {m : Mem} {a : Act} {w : World} (h : Rel F γ m a w) {d : Option Tmp} (hd : ∀ t, d = some t → t < F.n) {x : T} {v : Value} (hx : x.rep γ m.tok w v) :
    Rel F γ (m.put d x) (a.put d v) w where
  defers := by rw [Act.put_defers']; exact h.defers
  size := by rw [Act.put_size]; exact h.size
  base := h.base
  fr0 := h.fr0
  frs := h.frs
  frlt := h.frlt
  loclt := h.loclt
  tmps t := by
    rw [Act.getD_put h.size hd, Mem.put_tmp, Mem.put_tok]
    split
    · exact hx
    · exact h.tmps t
  vars := by simpa only [Mem.put_var, Mem.put_tok] using h.vars
  novar := by simpa only [Mem.put_var] using h.novar
  lentloc := h.lentloc
  apart := by simpa only [Mem.put_var] using h.apart
  toks := by simpa only [Mem.put_tok] using h.toks
  tapart := by simpa only [Mem.put_tok] using h.tapart
  tvar := by simpa only [Mem.put_tok, Mem.put_var] using h.tvar

theorem rangeAt_below {w w' : World} {b o : Nat} {vs : List Value} (h : w.rangeAt b o vs) (hb : Below w.heap.size w w') : w'.rangeAt b o vs := fun j v hv => by
  have := h j v hv
  rw [hb.cell (p := ⟨b, o + j, none⟩) (World.block_lt_of_cell? w _ this)]
  exact this

theorem there_below {w w' : World} {b o n : Nat} (h : w.there b o n) (hb : Below w.heap.size w w') : w'.there b o n := fun j hj => by
  obtain ⟨h1, h2⟩ := h j hj
  obtain ⟨u, hu⟩ := Option.isSome_iff_exists.1 h1
  have hlt := World.block_lt_of_cell? w _ hu
  exact ⟨by rw [hb.cell (p := ⟨b, o + j, none⟩) hlt]; exact h1, by rw [hb.frozen (p := ⟨b, o + j, none⟩) hlt]; exact h2⟩

theorem Ev.of_below {Fr Fr' : Nat → Nat → Prop} {w w' : World} (hb : Below w.heap.size w w') (hf : ∀ b o, Fr b o → Fr' b o) : Ev Fr Fr' w w' where
  fr := hf
  cell b o v _ hv := by rw [hb.cell (p := ⟨b, o, none⟩) (World.block_lt_of_cell? w _ hv)]; exact hv
  obj b es c _ hv := by
    have hlt : b < w.heap.size := by
      rcases Nat.lt_or_ge b w.heap.size with h | h
      · exact h
      · rw [Array.getElem?_eq_none h] at hv; cases hv
    rw [hb.block b hlt]; exact hv

/-- The world has grown; more cells of the new blocks stay. -/
theorem Rel.grow {F : Fm} {γ : Gh} {m : Mem} {a : Act} {w w' : World} (h : Rel F γ m a w) (hb : Below w.heap.size w w') {fr' : Nat → Nat → Prop} (hf : ∀ b o, γ.fr b o → fr' b o)
    (hn : ∀ b o, fr' b o → γ.fr b o ∨ (w.heap.size ≤ b ∧ b < w'.heap.size)) : Rel F { γ with fr := fr' } m a w' ∧ Ex γ { γ with fr := fr' } m.tok m.tok w w' := by
  have hex : Ex γ { γ with fr := fr' } m.tok m.tok w w' := ⟨.of_below hb hf, fun _ _ h => h, fun _ _ h => .inl ⟨h, rfl⟩⟩
  refine ⟨?_, hex⟩
  have old : ∀ b o, b < w.heap.size → fr' b o → γ.fr b o := fun b o hlt hx => (hn b o hx).resolve_right (by omega)
  exact {
    defers := h.defers
    size := h.size
    base := h.base.trans (.of_below hb)
    fr0 := fun b o x => hf b o (h.fr0 b o x)
    frs := fun b o x => by
      rcases hn b o x with x | x
      · exact h.frs b o x
      · exact .inr (.inr (by have := h.base.size; omega))
    frlt := fun b o x => by
      rcases hn b o x with x | x
      · exact Nat.lt_of_lt_of_le (h.frlt b o x) hb.size
      · exact x.2
    loclt := fun id b o hl => Nat.lt_of_lt_of_le (h.loclt id b o hl) hb.size
    tmps := fun t => T.rep.mono hex _ _ (h.tmps t)
    vars := fun id xs hv => by
      obtain ⟨b, o, h1, ⟨vs, h2, h3⟩, h4, h5⟩ := h.vars id xs hv
      refine ⟨b, o, h1, ⟨vs, h2.mono (fun x v => V.rep.mono hex x v), rangeAt_below h3 hb⟩, there_below h4 hb, fun j hj => ⟨fun hx => ?_, (h5 j hj).2⟩⟩
      obtain ⟨u, hu⟩ := Option.isSome_iff_exists.1 (h4 j hj).1
      exact (h5 j hj).1 (old b _ (World.block_lt_of_cell? w _ hu) hx)
    novar := h.novar
    lentloc := h.lentloc
    apart := h.apart
    toks := fun i n hi => by
      obtain ⟨h1, h2⟩ := h.toks i n hi
      refine ⟨h1, ?_⟩
      rcases h2 with h2 | ⟨b, hbs, hge, ⟨arr, e, harr, hcap⟩, hfr⟩
      · exact .inl h2
      · have hlt : b < w.heap.size := by
          rcases Nat.lt_or_ge b w.heap.size with h | h
          · exact h
          · rw [Array.getElem?_eq_none h] at harr; cases harr
        exact .inr ⟨b, hbs, hge, ⟨arr, e, by rw [hb.block b hlt]; exact harr, hcap⟩, fun o ho hx => hfr o ho (old b o hlt hx)⟩
    tapart := h.tapart
    tvar := h.tvar }

/-- A new variable, in a new block. -/
theorem Rel.newVar {F : Fm} {γ : Gh} {m : Mem} {a : Act} {w : World} (h : Rel F γ m a w) {id : Nat} (hid : m.var id = none) {xs : List V} {vs : List Value} (hx : All2 (V.rep γ m.tok w) xs vs) (t : TypeId) :
    let γ' : Gh := { γ with loc := fun i => if i = id then some (w.heap.size, 0) else γ.loc i }
    let m' : Mem := { m with var := fun i => if i = id then some xs else m.var i }
    Rel F γ' m' a (w.alloc (.cells vs.toArray t)) ∧ Ex γ γ' m.tok m.tok w (w.alloc (.cells vs.toArray t)) := by
  intro γ' m'
  have hb : Below w.heap.size w (w.alloc (.cells vs.toArray t)) := (Below.refl _ w).alloc (Nat.le_refl _) _
  have hloc := h.novar id hid
  have hne : ∀ i p, γ.loc i = some p → i ≠ id := fun i p hp he => by rw [he, hloc] at hp; cases hp
  have hnv : ∀ i xs, m.var i = some xs → i ≠ id := fun i xs hv he => by rw [he, hid] at hv; cases hv
  have hex : Ex γ γ' m.tok m.tok w (w.alloc (.cells vs.toArray t)) :=
    ⟨.of_below hb (fun _ _ h => h), fun i p hp => by show (if i = id then _ else _) = _; rw [if_neg (hne i p hp)]; exact hp, fun _ _ h => .inl ⟨h, rfl⟩⟩
  have hg := (h.grow hb (fr' := γ.fr) (fun _ _ h => h) (fun _ _ h => .inl h)).1
  refine ⟨?_, hex⟩
  exact {
    defers := hg.defers
    size := hg.size
    base := hg.base
    fr0 := hg.fr0
    frs := hg.frs
    frlt := hg.frlt
    loclt := fun i b o hl => by
      simp only [γ'] at hl
      split at hl
      · cases hl; simp
      · exact Nat.lt_of_lt_of_le (h.loclt i b o hl) hb.size
    tmps := fun t => T.rep.mono hex _ _ (h.tmps t)
    vars := fun i ys hv => by
      by_cases hi : i = id
      · subst hi
        have : xs = ys := by simpa [m'] using hv
        subst this
        refine ⟨w.heap.size, 0, by simp [γ'], ⟨vs, hx.mono (fun x v => V.rep.mono hex x v), fun j v hj => ?_⟩, fun j hj => ?_, fun j hj => ⟨fun hf => ?_, .inr ?_⟩⟩
        · simpa using hj
        · have hl := hx.length
          constructor
          · simp; omega
          · simp
        · have := h.frlt _ _ hf; omega
        · exact h.base.size
      · have hv' : m.var i = some ys := by simpa [m', hi] using hv
        obtain ⟨b, o, h1, ⟨vs', h2, h3⟩, h4, h5⟩ := h.vars i ys hv'
        exact ⟨b, o, by simp [γ', hi, h1], ⟨vs', h2.mono (fun x v => V.rep.mono hex x v), rangeAt_below h3 hb⟩, there_below h4 hb, h5⟩
    novar := fun i hi => by
      by_cases he : i = id
      · subst he; simp [m'] at hi
      · simp [m', he] at hi; simp [γ', he, h.novar i hi]
    lentloc := fun k p hk => by
      have h1 := h.lentloc k p hk
      simp only [γ']
      rw [if_neg (hne k p h1)]
      exact h1
    apart := fun i j ys zs b o b' o' hij hi hj hl hl' => by
      by_cases he : i = id
      · subst he
        have hje : j ≠ i := Ne.symm hij
        simp only [m', γ', hje, if_false, if_true, Option.some.injEq, Prod.mk.injEq] at hi hj hl hl'
        obtain ⟨rfl, rfl⟩ := hl
        left; have := h.loclt j b' o' hl'; omega
      · by_cases he' : j = id
        · subst he'
          simp only [m', γ', he, if_false, if_true, Option.some.injEq, Prod.mk.injEq] at hi hj hl hl'
          obtain ⟨rfl, rfl⟩ := hl'
          left; have := h.loclt i b o hl; omega
        · simp only [m', γ', he, he', if_false] at hi hj hl hl'
          exact h.apart i j ys zs b o b' o' hij hi hj hl hl'
    toks := hg.toks
    tapart := hg.tapart
    tvar := fun i n j ys b o hi hj hl hc => by
      by_cases he : j = id
      · subst he
        simp only [γ', if_true, Option.some.injEq, Prod.mk.injEq] at hl
        obtain ⟨rfl, rfl⟩ := hl
        obtain ⟨_, h2⟩ := h.toks i n hi
        rcases h2 with h2 | ⟨b', hbs, _, ⟨arr, e, harr, _⟩, _⟩
        · exact absurd h2 hc
        · rw [show (γ'.tk i).base = some ⟨b', 0, none⟩ from hbs]
          intro heq
          simp at heq
          subst heq
          simp at harr
      · simp only [m', γ', he, if_false] at hj hl
        exact h.tvar i n j ys b o hi hj hl hc }
end Go.Dm
