/-
  The data machine, part A: data, what they stand for in memory, and what a frame's memory means.
-/
import Derived.Orders
import Derived.Below
import Derived.Deep.AppendSrc
import Derived.Deep.MidRow
namespace Go.Dm
open Go.RowKit

/-- A cell's data, free of the frame: a value that names no memory; a slice as the list of its elements (each as its cells); a function with what it captured; a pointer to cells that stay; a map that stays. -/
inductive C where
  | raw (v : Value)
  | slice (sz : Nat) (es : List (List C))
  | fn (f : FuncId) (caps : List C)
  | rptr (cells : List C)
  | map (es : List (Value × Value))
  deriving Inhabited

/-- May one append in place? 'exact': length and capacity are one; 'tok i': while token i says this very length. -/
inductive Tk where
  | exact
  | tok (i : Nat)
  deriving Inhabited

/-- A cell's data in a frame. -/
inductive V where
  | c (x : C)
  | own (sz : Nat) (es : List (List C)) (t : Tk)
  | ptr (id off : Nat)
  | vsl (id off sz n : Nat)
  | clo (f : FuncId) (caps : List (C ⊕ (Nat × Nat)))
  deriving Inhabited

inductive K where
  | v (x : V)
  | agg (xs : List V)
  deriving Inhabited

/-- What a temporary holds. 'hole': whatever; 'skip': nothing yet. -/
inductive T where
  | k (x : K)
  | tup (ks : List K)
  | hole
  | skip
  deriving Inhabited

def All2 {α β : Type} (R : α → β → Prop) : List α → List β → Prop
  | [], [] => True
  | a :: as, b :: bs => R a b ∧ All2 R as bs
  | _, _ => False

theorem All2.length {α β : Type} {R : α → β → Prop} : ∀ {as : List α} {bs : List β}, All2 R as bs → as.length = bs.length
  | [], [], _ => rfl
  | _ :: _, _ :: _, h => by simp [All2.length h.2]
  | [], _ :: _, h => h.elim
  | _ :: _, [], h => h.elim

theorem All2.mono {α β : Type} {R R' : α → β → Prop} (hr : ∀ a b, R a b → R' a b) : ∀ {as : List α} {bs : List β}, All2 R as bs → All2 R' as bs
  | [], [], _ => trivial
  | _ :: _, _ :: _, h => ⟨hr _ _ h.1, All2.mono hr h.2⟩
  | [], _ :: _, h => h.elim
  | _ :: _, [], h => h.elim

theorem All2.get {α β : Type} {R : α → β → Prop} : ∀ {as : List α} {bs : List β}, All2 R as bs → ∀ (i : Nat) (a : α), as[i]? = some a → ∃ b, bs[i]? = some b ∧ R a b
  | _ :: _, b :: _, h, 0, a, ha => by simp at ha; subst ha; exact ⟨b, rfl, h.1⟩
  | _ :: _, _ :: _, h, i + 1, a, ha => by simp at ha ⊢; exact All2.get h.2 i a ha
  | [], [], _, i, a, ha => by simp at ha
  | [], _ :: _, h, _, _, _ => h.elim
  | _ :: _, [], h, _, _, _ => h.elim

theorem All2.append {α β : Type} {R : α → β → Prop} : ∀ {as : List α} {bs : List β} {as' : List α} {bs' : List β}, All2 R as bs → All2 R as' bs' → All2 R (as ++ as') (bs ++ bs')
  | [], [], _, _, _, h' => h'
  | _ :: _, _ :: _, _, _, h, h' => ⟨h.1, All2.append h.2 h'⟩
  | [], _ :: _, _, _, h, _ => h.elim
  | _ :: _, [], _, _, h, _ => h.elim

theorem All2.take {α β : Type} {R : α → β → Prop} : ∀ {as : List α} {bs : List β} (n : Nat), All2 R as bs → All2 R (as.take n) (bs.take n)
  | _, _, 0, _ => by simp [All2]
  | [], [], _ + 1, h => h
  | _ :: _, _ :: _, n + 1, h => ⟨h.1, All2.take n h.2⟩
  | [], _ :: _, _ + 1, h => h.elim
  | _ :: _, [], _ + 1, h => h.elim

theorem All2.drop {α β : Type} {R : α → β → Prop} : ∀ {as : List α} {bs : List β} (n : Nat), All2 R as bs → All2 R (as.drop n) (bs.drop n)
  | _, _, 0, h => by simpa using h
  | [], [], _ + 1, h => h
  | _ :: _, _ :: _, n + 1, h => All2.drop n h.2
  | [], _ :: _, _ + 1, h => h.elim
  | _ :: _, [], _ + 1, h => h.elim

theorem All2.map_left {α α' β : Type} {R : α' → β → Prop} (f : α → α') : ∀ {as : List α} {bs : List β}, All2 (fun a b => R (f a) b) as bs → All2 R (as.map f) bs
  | [], [], _ => trivial
  | _ :: _, _ :: _, h => ⟨h.1, All2.map_left f h.2⟩
  | [], _ :: _, h => h.elim
  | _ :: _, [], h => h.elim

mutual
/-- What a cell's data say of the value that stands there. -/
def C.rep (Fr : Nat → Nat → Prop) (w : World) : C → Value → Prop
  | .raw x, v => v = x ∧ x.oneCell' = true
  | .slice sz es, v => ∃ a len cap, v = .slice a len cap ∧ len = es.length ∧ len ≤ cap ∧
      ((len = 0 ∧ cap = 0) ∨ ∃ b o, a = some ⟨b, o, none⟩ ∧ rowsAt Fr w sz b es o)
  | .fn f caps, v => ∃ vs : List Value, v = .func (.func f) #[] vs.toArray ∧ listRep Fr w caps vs
  | .rptr cells, v => ∃ b o, v = .pointer (some ⟨b, o, none⟩) ∧ cellsAt Fr w b cells o
  | .map es, v => ∃ b ents clock, v = .map (some b) ∧ Fr b 0 ∧ w.heap[b]? = some (.map ents clock) ∧ ents.toList.map (fun e => (e.key, e.val)) = es
def cellsAt (Fr : Nat → Nat → Prop) (w : World) (b : Nat) : List C → Nat → Prop
  | [], _ => True
  | c :: cs, o => (Fr b o ∧ ∃ v, w.cell? ⟨b, o, none⟩ = some v ∧ C.rep Fr w c v) ∧ cellsAt Fr w b cs (o + 1)
def rowsAt (Fr : Nat → Nat → Prop) (w : World) (sz b : Nat) : List (List C) → Nat → Prop
  | [], _ => True
  | e :: es, o => e.length = sz ∧ cellsAt Fr w b e o ∧ rowsAt Fr w sz b es (o + sz)
def listRep (Fr : Nat → Nat → Prop) (w : World) : List C → List Value → Prop
  | [], vs => vs = []
  | c :: cs, vs => ∃ v r, vs = v :: r ∧ C.rep Fr w c v ∧ listRep Fr w cs r
end

/-- What stays. -/
structure Ev (Fr Fr' : Nat → Nat → Prop) (w w' : World) : Prop where
  fr : ∀ b o, Fr b o → Fr' b o
  cell : ∀ b o v, Fr b o → w.cell? ⟨b, o, none⟩ = some v → w'.cell? ⟨b, o, none⟩ = some v
  obj : ∀ b es c, Fr b 0 → w.heap[b]? = some (.map es c) → w'.heap[b]? = some (.map es c)

theorem Ev.refl (Fr : Nat → Nat → Prop) (w : World) : Ev Fr Fr w w := ⟨fun _ _ h => h, fun _ _ _ _ h => h, fun _ _ _ _ h => h⟩
theorem Ev.trans {Fr Fr' Fr'' : Nat → Nat → Prop} {w w' w'' : World} (h : Ev Fr Fr' w w') (k : Ev Fr' Fr'' w' w'') : Ev Fr Fr'' w w'' :=
  ⟨fun b o x => k.fr b o (h.fr b o x), fun b o v x y => k.cell b o v (h.fr b o x) (h.cell b o v x y), fun b es c x y => k.obj b es c (h.fr b 0 x) (h.obj b es c x y)⟩

mutual
theorem C.rep.mono {Fr Fr' : Nat → Nat → Prop} {w w' : World} (he : Ev Fr Fr' w w') : (x : C) → (v : Value) → x.rep Fr w v → x.rep Fr' w' v
  | .raw _, _, h => h
  | .slice sz es, v, h => by
    simp only [C.rep] at h ⊢
    obtain ⟨a, len, cap, h1, h2, h3, h4⟩ := h
    refine ⟨a, len, cap, h1, h2, h3, ?_⟩
    rcases h4 with h4 | ⟨b, o, h4, h5⟩
    · exact .inl h4
    · exact .inr ⟨b, o, h4, rowsAt.mono he sz b es o h5⟩
  | .fn f caps, v, h => by
    simp only [C.rep] at h ⊢
    obtain ⟨vs, h1, h2⟩ := h
    exact ⟨vs, h1, listRep.mono he caps vs h2⟩
  | .rptr cells, v, h => by
    simp only [C.rep] at h ⊢
    obtain ⟨b, o, h1, h2⟩ := h
    exact ⟨b, o, h1, cellsAt.mono he b cells o h2⟩
  | .map es, v, h => by
    simp only [C.rep] at h ⊢
    obtain ⟨b, ents, clock, h1, h2, h3, h4⟩ := h
    exact ⟨b, ents, clock, h1, he.fr _ _ h2, he.obj _ _ _ h2 h3, h4⟩
theorem cellsAt.mono {Fr Fr' : Nat → Nat → Prop} {w w' : World} (he : Ev Fr Fr' w w') (b : Nat) : (cs : List C) → (o : Nat) → cellsAt Fr w b cs o → cellsAt Fr' w' b cs o
  | [], _, _ => by simp only [cellsAt]
  | c :: cs, o, h => by
    simp only [cellsAt] at h ⊢
    obtain ⟨⟨h1, v, h2, h3⟩, h4⟩ := h
    exact ⟨⟨he.fr _ _ h1, v, he.cell _ _ _ h1 h2, C.rep.mono he c v h3⟩, cellsAt.mono he b cs (o + 1) h4⟩
theorem rowsAt.mono {Fr Fr' : Nat → Nat → Prop} {w w' : World} (he : Ev Fr Fr' w w') (sz b : Nat) : (es : List (List C)) → (o : Nat) → rowsAt Fr w sz b es o → rowsAt Fr' w' sz b es o
  | [], _, _ => by simp only [rowsAt]
  | e :: es, o, h => by
    simp only [rowsAt] at h ⊢
    exact ⟨h.1, cellsAt.mono he b e o h.2.1, rowsAt.mono he sz b es (o + sz) h.2.2⟩
theorem listRep.mono {Fr Fr' : Nat → Nat → Prop} {w w' : World} (he : Ev Fr Fr' w w') : (cs : List C) → (vs : List Value) → listRep Fr w cs vs → listRep Fr' w' cs vs
  | [], _, h => by simpa only [listRep] using h
  | c :: cs, vs, h => by
    simp only [listRep] at h ⊢
    obtain ⟨v, r, h1, h2, h3⟩ := h
    exact ⟨v, r, h1, C.rep.mono he c v h2, listRep.mono he cs r h3⟩
end

theorem C.rep_one {Fr : Nat → Nat → Prop} {w : World} {x : C} {v : Value} (h : x.rep Fr w v) : v.oneCell' = true := by
  cases x <;> simp only [C.rep] at h
  case raw x => rw [h.1]; exact h.2
  case slice sz es => obtain ⟨_, _, _, rfl, _⟩ := h; rfl
  case fn f caps => obtain ⟨_, rfl, _⟩ := h; rfl
  case rptr cells => obtain ⟨_, _, rfl, _⟩ := h; rfl
  case map es => obtain ⟨_, _, _, rfl, _⟩ := h; rfl

/-! ### Rows and cells, read -/
theorem cellsAt_get {Fr : Nat → Nat → Prop} {w : World} {b : Nat} : ∀ {cs : List C} {o : Nat}, cellsAt Fr w b cs o → ∀ (i : Nat) (c : C), cs[i]? = some c →
    Fr b (o + i) ∧ ∃ v, w.cell? ⟨b, o + i, none⟩ = some v ∧ c.rep Fr w v
  | [], _, _, i, c, hi => by simp at hi
  | x :: cs, o, h, 0, c, hi => by simp at hi; subst hi; simp only [cellsAt] at h; exact h.1
  | x :: cs, o, h, i + 1, c, hi => by
    simp at hi; simp only [cellsAt] at h
    have := cellsAt_get h.2 i c hi
    rwa [show o + 1 + i = o + (i + 1) by omega] at this

theorem cellsAt_of {Fr : Nat → Nat → Prop} {w : World} {b : Nat} : ∀ {cs : List C} {o : Nat}, (∀ (i : Nat) (c : C), cs[i]? = some c →
    Fr b (o + i) ∧ ∃ v, w.cell? ⟨b, o + i, none⟩ = some v ∧ c.rep Fr w v) → cellsAt Fr w b cs o
  | [], _, _ => by simp only [cellsAt]
  | x :: cs, o, h => by
    simp only [cellsAt]
    refine ⟨h 0 x rfl, cellsAt_of fun i c hi => ?_⟩
    have := h (i + 1) c (by simpa using hi)
    rwa [show o + (i + 1) = o + 1 + i by omega] at this

theorem cellsAt_drop {Fr : Nat → Nat → Prop} {w : World} {b : Nat} {cs : List C} {o : Nat} (h : cellsAt Fr w b cs o) (n : Nat) : cellsAt Fr w b (cs.drop n) (o + n) :=
  cellsAt_of fun i c hi => by
    rw [List.getElem?_drop] at hi
    have := cellsAt_get h (n + i) c hi
    rwa [show o + (n + i) = o + n + i by omega] at this

theorem cellsAt_take {Fr : Nat → Nat → Prop} {w : World} {b : Nat} {cs : List C} {o : Nat} (h : cellsAt Fr w b cs o) (n : Nat) : cellsAt Fr w b (cs.take n) o :=
  cellsAt_of fun i c hi => by
    rw [List.getElem?_take] at hi
    split at hi
    · exact cellsAt_get h i c hi
    · cases hi

theorem cellsAt_append {Fr : Nat → Nat → Prop} {w : World} {b : Nat} : ∀ {cs : List C} {o : Nat} {ds : List C}, cellsAt Fr w b cs o → cellsAt Fr w b ds (o + cs.length) → cellsAt Fr w b (cs ++ ds) o
  | [], o, ds, _, h => by simpa using h
  | c :: cs, o, ds, h, h' => by
    simp only [List.cons_append, cellsAt] at h ⊢
    refine ⟨h.1, cellsAt_append h.2 ?_⟩
    rwa [show o + 1 + cs.length = o + (c :: cs).length by simp; omega]

/-- The values that stand in the cells. -/
theorem cellsAt_vals {Fr : Nat → Nat → Prop} {w : World} {b : Nat} : ∀ {cs : List C} {o : Nat}, cellsAt Fr w b cs o →
    ∃ vs : List Value, All2 (C.rep Fr w) cs vs ∧ w.rangeAt b o vs
  | [], o, _ => ⟨[], trivial, fun j v h => by simp at h⟩
  | c :: cs, o, h => by
    simp only [cellsAt] at h
    obtain ⟨⟨_, v, hv, hr⟩, h2⟩ := h
    obtain ⟨vs, h3, h4⟩ := cellsAt_vals h2
    refine ⟨v :: vs, ⟨hr, h3⟩, fun j u hj => ?_⟩
    cases j with
    | zero => simp at hj; subst hj; simpa using hv
    | succ j =>
      have := h4 j u (by simpa using hj)
      rwa [show o + 1 + j = o + (j + 1) by omega] at this

theorem rowsAt_cells {Fr : Nat → Nat → Prop} {w : World} {sz b : Nat} : ∀ {es : List (List C)} {o : Nat}, rowsAt Fr w sz b es o → cellsAt Fr w b es.flatten o
  | [], _, _ => by simp [cellsAt]
  | e :: es, o, h => by
    simp only [rowsAt] at h
    simp only [List.flatten_cons]
    exact cellsAt_append h.2.1 (by rw [h.1]; exact rowsAt_cells h.2.2)

theorem rowsAt_length {Fr : Nat → Nat → Prop} {w : World} {sz b : Nat} : ∀ {es : List (List C)} {o : Nat}, rowsAt Fr w sz b es o → es.flatten.length = es.length * sz
  | [], _, _ => by simp
  | e :: es, o, h => by
    simp only [rowsAt] at h
    simp only [List.flatten_cons, List.length_append, List.length_cons, rowsAt_length h.2.2, h.1, Nat.succ_mul]
    omega

theorem rowsAt_get {Fr : Nat → Nat → Prop} {w : World} {sz b : Nat} : ∀ {es : List (List C)} {o : Nat}, rowsAt Fr w sz b es o → ∀ (i : Nat) (e : List C), es[i]? = some e →
    e.length = sz ∧ cellsAt Fr w b e (o + i * sz)
  | [], _, _, i, e, hi => by simp at hi
  | x :: es, o, h, 0, e, hi => by simp at hi; subst hi; simp only [rowsAt] at h; simpa using ⟨h.1, h.2.1⟩
  | x :: es, o, h, i + 1, e, hi => by
    simp at hi; simp only [rowsAt] at h
    have := rowsAt_get h.2.2 i e hi
    rwa [show o + sz + i * sz = o + (i + 1) * sz by rw [Nat.succ_mul]; omega] at this

theorem rowsAt_drop {Fr : Nat → Nat → Prop} {w : World} {sz b : Nat} : ∀ {es : List (List C)} {o : Nat} (n : Nat), rowsAt Fr w sz b es o → n ≤ es.length → rowsAt Fr w sz b (es.drop n) (o + n * sz)
  | es, o, 0, h, _ => by simpa using h
  | [], o, n + 1, h, hn => by simp at hn
  | e :: es, o, n + 1, h, hn => by
    simp only [rowsAt] at h
    have := rowsAt_drop (o := o + sz) n h.2.2 (by simpa using hn)
    rwa [show o + sz + n * sz = o + (n + 1) * sz by rw [Nat.succ_mul]; omega] at this

theorem rowsAt_take {Fr : Nat → Nat → Prop} {w : World} {sz b : Nat} : ∀ {es : List (List C)} {o : Nat} (n : Nat), rowsAt Fr w sz b es o → rowsAt Fr w sz b (es.take n) o
  | es, o, 0, h => by simp [rowsAt]
  | [], o, n + 1, h => by simp [rowsAt]
  | e :: es, o, n + 1, h => by
    simp only [rowsAt, List.take_succ_cons] at h ⊢
    exact ⟨h.1, h.2.1, rowsAt_take n h.2.2⟩

theorem rowsAt_append {Fr : Nat → Nat → Prop} {w : World} {sz b : Nat} : ∀ {es : List (List C)} {o : Nat} {fs : List (List C)}, rowsAt Fr w sz b es o → rowsAt Fr w sz b fs (o + es.length * sz) → rowsAt Fr w sz b (es ++ fs) o
  | [], o, fs, _, h => by simpa using h
  | e :: es, o, fs, h, h' => by
    simp only [List.cons_append, rowsAt] at h ⊢
    refine ⟨h.1, h.2.1, rowsAt_append h.2.2 ?_⟩
    rwa [show o + sz + es.length * sz = o + (e :: es).length * sz by simp only [List.length_cons, Nat.succ_mul]; omega]

/-- Rows out of their cells. -/
theorem rowsAt_of_cells {Fr : Nat → Nat → Prop} {w : World} {sz b : Nat} : ∀ {es : List (List C)} {o : Nat}, (∀ e ∈ es, e.length = sz) → cellsAt Fr w b es.flatten o → rowsAt Fr w sz b es o
  | [], _, _, _ => by simp only [rowsAt]
  | e :: es, o, hl, h => by
    have he := hl e (by simp)
    simp only [rowsAt]
    refine ⟨he, ?_, rowsAt_of_cells (fun x hx => hl x (by simp [hx])) ?_⟩
    · have := cellsAt_take h e.length
      simpa using this
    · have := cellsAt_drop h e.length
      simpa [he] using this

theorem rowsAt_sizes {Fr : Nat → Nat → Prop} {w : World} {sz b : Nat} {es : List (List C)} {o : Nat} (h : rowsAt Fr w sz b es o) : ∀ e ∈ es, e.length = sz := fun e he => by
  obtain ⟨i, hi, rfl⟩ := List.getElem_of_mem he
  exact (rowsAt_get h i _ (List.getElem?_eq_getElem hi)).1

theorem listRep_iff {Fr : Nat → Nat → Prop} {w : World} : ∀ {cs : List C} {vs : List Value}, listRep Fr w cs vs ↔ All2 (C.rep Fr w) cs vs
  | [], [] => by simp [listRep, All2]
  | [], _ :: _ => by simp [listRep, All2]
  | c :: cs, [] => by simp [listRep, All2]
  | c :: cs, v :: vs => by
    simp only [listRep, All2, List.cons.injEq]
    constructor
    · rintro ⟨v', r, ⟨rfl, rfl⟩, h1, h2⟩; exact ⟨h1, listRep_iff.1 h2⟩
    · rintro ⟨h1, h2⟩; exact ⟨v, vs, ⟨rfl, rfl⟩, h1, listRep_iff.2 h2⟩
end Go.Dm
