/-
  A part of the proofs over this seat: a machine over data (the file in which the theorems stand says what is proved).
-/
import Derived.Below
import Derived.ChangeKeysEq
import Derived.Deep.AppendSrc
import Derived.Deep.MidRow
import Derived.Deep.Upon
import Derived.Laws.BytesString
import Derived.Laws.Cells
import Derived.Laws.StructEq
import Derived.MapKept
import Derived.Orders
namespace Go.Dm
open Go.RowKit
inductive C where
  | raw (v : Value)
  | slice (sz : Nat) (es : List (List C))
  | fn (f : FuncId) (caps : List C)
  | rptr (cells : List C)
  | map (es : List (Value × Value))
  deriving Inhabited
inductive Tk where
  | exact
  | tok (i : Nat)
  deriving Inhabited
inductive V where
  | c (x : C)
  | own (sz : Nat) (es : List (List C)) (t : Tk)
  | ptr (id off : Nat)
  | vsl (id off sz n : Nat)
  | clo (f : FuncId) (caps : List (C ⊕ (Nat × Nat)))
  deriving Inhabited
inductive K where
  | v (x : V)
  | agg (xs : List V)
  deriving Inhabited
inductive T where
  | k (x : K)
  | tup (ks : List K)
  | hole
  | skip
  deriving Inhabited
def aJ {α β : Type} (R : α → β → Prop) : List α → List β → Prop
  | [], [] => True
  | a :: as, b :: bs => R a b ∧ aJ R as bs
  | _, _ => False
theorem aJ.length {α β : Type} {R : α → β → Prop} : ∀ {as : List α} {bs : List β}, aJ R as bs → as.length = bs.length
  | [], [], _ => rfl
  | _ :: _, _ :: _, h => by simp [aJ.length h.2]
  | [], _ :: _, h => h.elim
  | _ :: _, [], h => h.elim
theorem aJ.mono {α β : Type} {R R' : α → β → Prop} (hr : ∀ a b, R a b → R' a b) : ∀ {as : List α} {bs : List β}, aJ R as bs → aJ R' as bs
  | [], [], _ => trivial
  | _ :: _, _ :: _, h => ⟨hr _ _ h.1, aJ.mono hr h.2⟩
  | [], _ :: _, h => h.elim
  | _ :: _, [], h => h.elim
theorem aJ.get {α β : Type} {R : α → β → Prop} : ∀ {as : List α} {bs : List β}, aJ R as bs → ∀ (i : Nat) (a : α), as[i]? = some a → ∃ b, bs[i]? = some b ∧ R a b
  | _ :: _, b :: _, h, 0, a, ha => by simp at ha; subst ha; exact ⟨b, rfl, h.1⟩
  | _ :: _, _ :: _, h, i + 1, a, ha => by simp at ha ⊢; exact aJ.get h.2 i a ha
  | [], [], _, i, a, ha => by simp at ha
  | [], _ :: _, h, _, _, _ => h.elim
  | _ :: _, [], h, _, _, _ => h.elim
theorem aJ.append {α β : Type} {R : α → β → Prop} : ∀ {as : List α} {bs : List β} {as' : List α} {bs' : List β}, aJ R as bs → aJ R as' bs' → aJ R (as ++ as') (bs ++ bs')
  | [], [], _, _, _, h' => h'
  | _ :: _, _ :: _, _, _, h, h' => ⟨h.1, aJ.append h.2 h'⟩
  | [], _ :: _, _, _, h, _ => h.elim
  | _ :: _, [], _, _, h, _ => h.elim
theorem aJ.take {α β : Type} {R : α → β → Prop} : ∀ {as : List α} {bs : List β} (n : Nat), aJ R as bs → aJ R (as.take n) (bs.take n)
  | _, _, 0, _ => by simp [aJ]
  | [], [], _ + 1, h => h
  | _ :: _, _ :: _, n + 1, h => ⟨h.1, aJ.take n h.2⟩
  | [], _ :: _, _ + 1, h => h.elim
  | _ :: _, [], _ + 1, h => h.elim
theorem aJ.drop {α β : Type} {R : α → β → Prop} : ∀ {as : List α} {bs : List β} (n : Nat), aJ R as bs → aJ R (as.drop n) (bs.drop n)
  | _, _, 0, h => by simpa using h
  | [], [], _ + 1, h => h
  | _ :: _, _ :: _, n + 1, h => aJ.drop n h.2
  | [], _ :: _, _ + 1, h => h.elim
  | _ :: _, [], _ + 1, h => h.elim
theorem aJ.map_left {α α' β : Type} {R : α' → β → Prop} (f : α → α') : ∀ {as : List α} {bs : List β}, aJ (fun a b => R (f a) b) as bs → aJ R (as.map f) bs
  | [], [], _ => trivial
  | _ :: _, _ :: _, h => ⟨h.1, aJ.map_left f h.2⟩
  | [], _ :: _, h => h.elim
  | _ :: _, [], h => h.elim
mutual
def C.rep (Fr : Nat → Nat → Prop) (w : World) : C → Value → Prop
  | .raw x, v => v = x ∧ x.oneCell' = true
  | .slice sz es, v => ∃ a len cap, v = .slice a len cap ∧ len = es.length ∧ len ≤ cap ∧
      ((len = 0 ∧ cap = 0) ∨ ∃ b o, a = some ⟨b, o, none⟩ ∧ be Fr w sz b es o)
  | .fn f caps, v => ∃ vs : List Value, v = .func (.func f) #[] vs.toArray ∧ dt Fr w caps vs
  | .rptr cells, v => ∃ b o, v = .pointer (some ⟨b, o, none⟩) ∧ aZ Fr w b cells o
  | .map es, v => ∃ b ents clock, v = .map (some b) ∧ Fr b 0 ∧ w.heap[b]? = some (.map ents clock) ∧ ents.toList.map (fun e => (e.key, e.val)) = es
def aZ (Fr : Nat → Nat → Prop) (w : World) (b : Nat) : List C → Nat → Prop
  | [], _ => True
  | c :: cs, o => (Fr b o ∧ ∃ v, w.cell? ⟨b, o, none⟩ = some v ∧ C.rep Fr w c v) ∧ aZ Fr w b cs (o + 1)
def be (Fr : Nat → Nat → Prop) (w : World) (sz b : Nat) : List (List C) → Nat → Prop
  | [], _ => True
  | e :: es, o => e.length = sz ∧ aZ Fr w b e o ∧ be Fr w sz b es (o + sz)
def dt (Fr : Nat → Nat → Prop) (w : World) : List C → List Value → Prop
  | [], vs => vs = []
  | c :: cs, vs => ∃ v r, vs = v :: r ∧ C.rep Fr w c v ∧ dt Fr w cs r
end
structure Ev (Fr Fr' : Nat → Nat → Prop) (w w' : World) : Prop where
  fr : ∀ b o, Fr b o → Fr' b o
  cell : ∀ b o v, Fr b o → w.cell? ⟨b, o, none⟩ = some v → w'.cell? ⟨b, o, none⟩ = some v
  obj : ∀ b es c, Fr b 0 → w.heap[b]? = some (.map es c) → w'.heap[b]? = some (.map es c)
theorem Ev.refl (Fr : Nat → Nat → Prop) (w : World) : Ev Fr Fr w w := ⟨fun _ _ h => h, fun _ _ _ _ h => h, fun _ _ _ _ h => h⟩
theorem Ev.trans {Fr Fr' Fr'' : Nat → Nat → Prop} {w w' w'' : World} (h : Ev Fr Fr' w w') (k : Ev Fr' Fr'' w' w'') : Ev Fr Fr'' w w'' :=
  ⟨fun b o x => k.fr b o (h.fr b o x), fun b o v x y => k.cell b o v (h.fr b o x) (h.cell b o v x y), fun b es c x y => k.obj b es c (h.fr b 0 x) (h.obj b es c x y)⟩
mutual
theorem C.rep.mono {Fr Fr' : Nat → Nat → Prop} {w w' : World} (he : Ev Fr Fr' w w') : (x : C) → (v : Value) → x.rep Fr w v → x.rep Fr' w' v
  | .raw _, _, h => h
  | .slice sz es, v, h => by
    simp only [C.rep] at h ⊢
    obtain ⟨a, len, cap, h1, h2, h3, h4⟩ := h
    refine ⟨a, len, cap, h1, h2, h3, ?_⟩
    rcases h4 with h4 | ⟨b, o, h4, h5⟩
    · exact .inl h4
    · exact .inr ⟨b, o, h4, be.mono he sz b es o h5⟩
  | .fn f caps, v, h => by
    simp only [C.rep] at h ⊢
    obtain ⟨vs, h1, h2⟩ := h
    exact ⟨vs, h1, dt.mono he caps vs h2⟩
  | .rptr cells, v, h => by
    simp only [C.rep] at h ⊢
    obtain ⟨b, o, h1, h2⟩ := h
    exact ⟨b, o, h1, aZ.mono he b cells o h2⟩
  | .map es, v, h => by
    simp only [C.rep] at h ⊢
    obtain ⟨b, ents, clock, h1, h2, h3, h4⟩ := h
    exact ⟨b, ents, clock, h1, he.fr _ _ h2, he.obj _ _ _ h2 h3, h4⟩
theorem aZ.mono {Fr Fr' : Nat → Nat → Prop} {w w' : World} (he : Ev Fr Fr' w w') (b : Nat) : (cs : List C) → (o : Nat) → aZ Fr w b cs o → aZ Fr' w' b cs o
  | [], _, _ => by simp only [aZ]
  | c :: cs, o, h => by
    simp only [aZ] at h ⊢
    obtain ⟨⟨h1, v, h2, h3⟩, h4⟩ := h
    exact ⟨⟨he.fr _ _ h1, v, he.cell _ _ _ h1 h2, C.rep.mono he c v h3⟩, aZ.mono he b cs (o + 1) h4⟩
theorem be.mono {Fr Fr' : Nat → Nat → Prop} {w w' : World} (he : Ev Fr Fr' w w') (sz b : Nat) : (es : List (List C)) → (o : Nat) → be Fr w sz b es o → be Fr' w' sz b es o
  | [], _, _ => by simp only [be]
  | e :: es, o, h => by
    simp only [be] at h ⊢
    exact ⟨h.1, aZ.mono he b e o h.2.1, be.mono he sz b es (o + sz) h.2.2⟩
theorem dt.mono {Fr Fr' : Nat → Nat → Prop} {w w' : World} (he : Ev Fr Fr' w w') : (cs : List C) → (vs : List Value) → dt Fr w cs vs → dt Fr' w' cs vs
  | [], _, h => by simpa only [dt] using h
  | c :: cs, vs, h => by
    simp only [dt] at h ⊢
    obtain ⟨v, r, h1, h2, h3⟩ := h
    exact ⟨v, r, h1, C.rep.mono he c v h2, dt.mono he cs r h3⟩
end
theorem C.rep_one {Fr : Nat → Nat → Prop} {w : World} {x : C} {v : Value} (h : x.rep Fr w v) : v.oneCell' = true := by
  cases x <;> simp only [C.rep] at h
  case raw x => rw [h.1]; exact h.2
  case slice sz es => obtain ⟨_, _, _, rfl, _⟩ := h; rfl
  case fn f caps => obtain ⟨_, rfl, _⟩ := h; rfl
  case rptr cells => obtain ⟨_, _, rfl, _⟩ := h; rfl
  case map es => obtain ⟨_, _, _, rfl, _⟩ := h; rfl
theorem ci {Fr : Nat → Nat → Prop} {w : World} {b : Nat} : ∀ {cs : List C} {o : Nat}, aZ Fr w b cs o → ∀ (i : Nat) (c : C), cs[i]? = some c →
    Fr b (o + i) ∧ ∃ v, w.cell? ⟨b, o + i, none⟩ = some v ∧ c.rep Fr w v
  | [], _, _, i, c, hi => by simp at hi
  | x :: cs, o, h, 0, c, hi => by simp at hi; subst hi; simp only [aZ] at h; exact h.1
  | x :: cs, o, h, i + 1, c, hi => by
    simp at hi; simp only [aZ] at h
    have := ci h.2 i c hi
    rwa [show o + 1 + i = o + (i + 1) by omega] at this
theorem db {Fr : Nat → Nat → Prop} {w : World} {b : Nat} : ∀ {cs : List C} {o : Nat}, (∀ (i : Nat) (c : C), cs[i]? = some c →
    Fr b (o + i) ∧ ∃ v, w.cell? ⟨b, o + i, none⟩ = some v ∧ c.rep Fr w v) → aZ Fr w b cs o
  | [], _, _ => by simp only [aZ]
  | x :: cs, o, h => by
    simp only [aZ]
    refine ⟨h 0 x rfl, db fun i c hi => ?_⟩
    have := h (i + 1) c (by simpa using hi)
    rwa [show o + (i + 1) = o + 1 + i by omega] at this
theorem fc {Fr : Nat → Nat → Prop} {w : World} {b : Nat} {cs : List C} {o : Nat} (h : aZ Fr w b cs o) (n : Nat) : aZ Fr w b (cs.drop n) (o + n) :=
  db fun i c hi => by
    rw [List.getElem?_drop] at hi
    have := ci h (n + i) c hi
    rwa [show o + (n + i) = o + n + i by omega] at this
theorem j7 {Fr : Nat → Nat → Prop} {w : World} {b : Nat} {cs : List C} {o : Nat} (h : aZ Fr w b cs o) (n : Nat) : aZ Fr w b (cs.take n) o :=
  db fun i c hi => by
    rw [List.getElem?_take] at hi
    split at hi
    · exact ci h i c hi
    · cases hi
theorem gZ {Fr : Nat → Nat → Prop} {w : World} {b : Nat} : ∀ {cs : List C} {o : Nat} {ds : List C}, aZ Fr w b cs o → aZ Fr w b ds (o + cs.length) → aZ Fr w b (cs ++ ds) o
  | [], o, ds, _, h => by simpa using h
  | c :: cs, o, ds, h, h' => by
    simp only [List.cons_append, aZ] at h ⊢
    refine ⟨h.1, gZ h.2 ?_⟩
    rwa [show o + 1 + cs.length = o + (c :: cs).length by simp; omega]
theorem gB {Fr : Nat → Nat → Prop} {w : World} {b : Nat} : ∀ {cs : List C} {o : Nat}, aZ Fr w b cs o →
    ∃ vs : List Value, aJ (C.rep Fr w) cs vs ∧ w.rangeAt b o vs
  | [], o, _ => ⟨[], trivial, fun j v h => by simp at h⟩
  | c :: cs, o, h => by
    simp only [aZ] at h
    obtain ⟨⟨_, v, hv, hr⟩, h2⟩ := h
    obtain ⟨vs, h3, h4⟩ := gB h2
    refine ⟨v :: vs, ⟨hr, h3⟩, fun j u hj => ?_⟩
    cases j with
    | zero => simp at hj; subst hj; simpa using hv
    | succ j =>
      have := h4 j u (by simpa using hj)
      rwa [show o + 1 + j = o + (j + 1) by omega] at this
theorem kf {Fr : Nat → Nat → Prop} {w : World} {sz b : Nat} : ∀ {es : List (List C)} {o : Nat}, be Fr w sz b es o → aZ Fr w b es.flatten o
  | [], _, _ => by simp [aZ]
  | e :: es, o, h => by
    simp only [be] at h
    simp only [List.flatten_cons]
    exact gZ h.2.1 (by rw [h.1]; exact kf h.2.2)
theorem em {Fr : Nat → Nat → Prop} {w : World} {sz b : Nat} : ∀ {es : List (List C)} {o : Nat}, be Fr w sz b es o → ∀ (i : Nat) (e : List C), es[i]? = some e →
    e.length = sz ∧ aZ Fr w b e (o + i * sz)
  | [], _, _, i, e, hi => by simp at hi
  | x :: es, o, h, 0, e, hi => by simp at hi; subst hi; simp only [be] at h; simpa using ⟨h.1, h.2.1⟩
  | x :: es, o, h, i + 1, e, hi => by
    simp at hi; simp only [be] at h
    have := em h.2.2 i e hi
    rwa [show o + sz + i * sz = o + (i + 1) * sz by rw [Nat.succ_mul]; omega] at this
theorem lu {Fr : Nat → Nat → Prop} {w : World} {sz b : Nat} : ∀ {es : List (List C)} {o : Nat} (n : Nat), be Fr w sz b es o → n ≤ es.length → be Fr w sz b (es.drop n) (o + n * sz)
  | es, o, 0, h, _ => by simpa using h
  | [], o, n + 1, h, hn => by simp at hn
  | e :: es, o, n + 1, h, hn => by
    simp only [be] at h
    have := lu (o := o + sz) n h.2.2 (by simpa using hn)
    rwa [show o + sz + n * sz = o + (n + 1) * sz by rw [Nat.succ_mul]; omega] at this
theorem lT {Fr : Nat → Nat → Prop} {w : World} {sz b : Nat} : ∀ {es : List (List C)} {o : Nat} (n : Nat), be Fr w sz b es o → be Fr w sz b (es.take n) o
  | es, o, 0, h => by simp [be]
  | [], o, n + 1, h => by simp [be]
  | e :: es, o, n + 1, h => by
    simp only [be, List.take_succ_cons] at h ⊢
    exact ⟨h.1, h.2.1, lT n h.2.2⟩
theorem ji {Fr : Nat → Nat → Prop} {w : World} {sz b : Nat} : ∀ {es : List (List C)} {o : Nat} {fs : List (List C)}, be Fr w sz b es o → be Fr w sz b fs (o + es.length * sz) → be Fr w sz b (es ++ fs) o
  | [], o, fs, _, h => by simpa using h
  | e :: es, o, fs, h, h' => by
    simp only [List.cons_append, be] at h ⊢
    refine ⟨h.1, h.2.1, ji h.2.2 ?_⟩
    rwa [show o + sz + es.length * sz = o + (e :: es).length * sz by simp only [List.length_cons, Nat.succ_mul]; omega]
theorem dj {Fr : Nat → Nat → Prop} {w : World} {sz b : Nat} : ∀ {es : List (List C)} {o : Nat}, (∀ e ∈ es, e.length = sz) → aZ Fr w b es.flatten o → be Fr w sz b es o
  | [], _, _, _ => by simp only [be]
  | e :: es, o, hl, h => by
    have he := hl e (by simp)
    simp only [be]
    refine ⟨he, ?_, dj (fun x hx => hl x (by simp [hx])) ?_⟩
    · have := j7 h e.length
      simpa using this
    · have := fc h e.length
      simpa [he] using this
theorem o6 {Fr : Nat → Nat → Prop} {w : World} {sz b : Nat} {es : List (List C)} {o : Nat} (h : be Fr w sz b es o) : ∀ e ∈ es, e.length = sz := fun e he => by
  obtain ⟨i, hi, rfl⟩ := List.getElem_of_mem he
  exact (em h i _ (List.getElem?_eq_getElem hi)).1
theorem dJ {Fr : Nat → Nat → Prop} {w : World} : ∀ {cs : List C} {vs : List Value}, dt Fr w cs vs ↔ aJ (C.rep Fr w) cs vs
  | [], [] => by simp [dt, aJ]
  | [], _ :: _ => by simp [dt, aJ]
  | c :: cs, [] => by simp [dt, aJ]
  | c :: cs, v :: vs => by
    simp only [dt, aJ, List.cons.injEq]
    constructor
    · rintro ⟨v', r, ⟨rfl, rfl⟩, h1, h2⟩; exact ⟨h1, dJ.1 h2⟩
    · rintro ⟨h1, h2⟩; exact ⟨v, vs, ⟨rfl, rfl⟩, h1, dJ.2 h2⟩
end Go.Dm
namespace Go.Dm
open Go.RowKit
structure TkInfo where
  base : Option Addr
  cap : Nat
  sz : Nat
  deriving Inhabited
structure Gh where
  fr : Nat → Nat → Prop
  loc : Nat → Option (Nat × Nat)
  tk : Nat → TkInfo
def gc (γ : Gh) (w : World) : C ⊕ (Nat × Nat) → Value → Prop
  | .inl x, v => x.rep γ.fr w v
  | .inr (id, off), v => ∃ b o, γ.loc id = some (b, o) ∧ v = .pointer (some ⟨b, o + off, none⟩)
def ig (γ : Gh) (tok : Nat → Option Nat) (sz len : Nat) (v : Value) : Tk → Prop
  | .exact => ∃ a n, v = .slice a n n
  | .tok i => ∃ n, tok i = some n ∧ len ≤ n ∧ (len = n → v = .slice (γ.tk i).base n (γ.tk i).cap ∧ (γ.tk i).sz = sz)
def V.rep (γ : Gh) (tok : Nat → Option Nat) (w : World) : V → Value → Prop
  | .c x, v => x.rep γ.fr w v
  | .own sz es t, v => (C.slice sz es).rep γ.fr w v ∧ ig γ tok sz es.length v t
  | .ptr id off, v => ∃ b o, γ.loc id = some (b, o) ∧ v = .pointer (some ⟨b, o + off, none⟩)
  | .vsl id off _ n, v => ∃ b o cap, γ.loc id = some (b, o) ∧ v = .slice (some ⟨b, o + off, none⟩) n cap ∧ n ≤ cap
  | .clo f caps, v => ∃ vs : List Value, v = .func (.func f) #[] vs.toArray ∧ aJ (gc γ w) caps vs
def K.rep (γ : Gh) (tok : Nat → Option Nat) (w : World) : K → Value → Prop
  | .v x, u => x.rep γ tok w u
  | .agg xs, u => ∃ vs : List Value, u = .agg vs.toArray ∧ aJ (V.rep γ tok w) xs vs
def T.rep (γ : Gh) (tok : Nat → Option Nat) (w : World) : T → Value → Prop
  | .k x, v => x.rep γ tok w v
  | .tup ks, v => ∃ vs : List Value, v = .tuple vs.toArray ∧ aJ (K.rep γ tok w) ks vs
  | .hole, _ => True
  | .skip, v => v = undef
theorem V.rep_one {γ : Gh} {tok : Nat → Option Nat} {w : World} {x : V} {v : Value} (h : x.rep γ tok w v) : v.oneCell' = true := by
  cases x <;> simp only [V.rep] at h
  case c x => exact C.rep_one h
  case own sz es t => exact C.rep_one h.1
  case ptr id off => obtain ⟨_, _, _, rfl⟩ := h; rfl
  case vsl id off sz n => obtain ⟨_, _, _, _, rfl, _⟩ := h; rfl
  case clo f caps => obtain ⟨_, rfl, _⟩ := h; rfl
def Gh.upto (γ : Gh) (n : Nat) : Gh := { γ with loc := fun i => if i < n then γ.loc i else none }
def upto (tok : Nat → Option Nat) (k : Nat) : Nat → Option Nat := fun i => if i < k then tok i else none
theorem Gh.upto_upto (γ : Gh) {m n : Nat} (h : m ≤ n) : (γ.upto n).upto m = γ.upto m := by
  unfold Gh.upto
  congr 1
  funext i
  simp only
  by_cases hi : i < m
  · rw [if_pos hi, if_pos hi, if_pos (by omega)]
  · rw [if_neg hi, if_neg hi]
theorem upto_upto (tok : Nat → Option Nat) {m n : Nat} (h : m ≤ n) : upto (upto tok n) m = upto tok m := by
  funext i
  unfold upto
  by_cases hi : i < m
  · rw [if_pos hi, if_pos hi, if_pos (by omega)]
  · rw [if_neg hi, if_neg hi]
structure Ex (γ γ' : Gh) (tok tok' : Nat → Option Nat) (w w' : World) : Prop where
  ev : Ev γ.fr γ'.fr w w'
  loc : ∀ id p, γ.loc id = some p → γ'.loc id = some p
  tok : ∀ i n, tok i = some n → (tok' i = some n ∧ γ'.tk i = γ.tk i) ∨ ∃ n', tok' i = some n' ∧ n < n'
theorem Ex.upto {γ γ' : Gh} {tok tok' : Nat → Option Nat} {w w' : World} (h : Ex γ γ' tok tok' w w') (n k : Nat) : Ex (γ.upto n) (γ'.upto n) (Dm.upto tok k) (Dm.upto tok' k) w w' where
  ev := h.ev
  loc := fun id p hp => by
    simp only [Gh.upto] at hp ⊢
    by_cases hi : id < n
    · rw [if_pos hi] at hp ⊢; exact h.loc id p hp
    · rw [if_neg hi] at hp; cases hp
  tok := fun i l hl => by
    simp only [Dm.upto] at hl ⊢
    by_cases hi : i < k
    · rw [if_pos hi] at hl ⊢; exact h.tok i l hl
    · rw [if_neg hi] at hl; cases hl
theorem Ex.all (γ : Gh) (tok : Nat → Option Nat) (w : World) (n k : Nat) : Ex (γ.upto n) γ (Dm.upto tok k) tok w w where
  ev := .refl _ _
  loc := fun id p hp => by
    simp only [Gh.upto] at hp
    by_cases hi : id < n
    · rw [if_pos hi] at hp; exact hp
    · rw [if_neg hi] at hp; cases hp
  tok := fun i x hx => by
    simp only [Dm.upto] at hx
    by_cases hi : i < k
    · rw [if_pos hi] at hx; exact .inl ⟨hx, rfl⟩
    · rw [if_neg hi] at hx; cases hx
theorem Ex.refl (γ : Gh) (tok : Nat → Option Nat) (w : World) : Ex γ γ tok tok w w := ⟨.refl _ _, fun _ _ h => h, fun _ _ h => .inl ⟨h, rfl⟩⟩
theorem gc.mono {γ γ' : Gh} {tok tok' : Nat → Option Nat} {w w' : World} (he : Ex γ γ' tok tok' w w') (x : C ⊕ (Nat × Nat)) (v : Value) (h : gc γ w x v) : gc γ' w' x v := by
  cases x with
  | inl x => exact C.rep.mono he.ev x v h
  | inr p => obtain ⟨b, o, h1, h2⟩ := h; exact ⟨b, o, he.loc _ _ h1, h2⟩
theorem V.rep.mono {γ γ' : Gh} {tok tok' : Nat → Option Nat} {w w' : World} (he : Ex γ γ' tok tok' w w') (x : V) (v : Value) (h : x.rep γ tok w v) : x.rep γ' tok' w' v := by
  cases x <;> simp only [V.rep] at h ⊢
  case c x => exact C.rep.mono he.ev x v h
  case own sz es t =>
    refine ⟨C.rep.mono he.ev _ v h.1, ?_⟩
    cases t with
    | exact => exact h.2
    | tok i =>
      obtain ⟨n, h1, h2, h3⟩ := h.2
      rcases he.tok i n h1 with ⟨h4, h5⟩ | ⟨n', h4, h5⟩
      · exact ⟨n, h4, h2, by rw [h5]; exact h3⟩
      · exact ⟨n', h4, by omega, fun h => by omega⟩
  case ptr id off => obtain ⟨b, o, h1, h2⟩ := h; exact ⟨b, o, he.loc _ _ h1, h2⟩
  case vsl id off sz n => obtain ⟨b, o, cap, h1, h2⟩ := h; exact ⟨b, o, cap, he.loc _ _ h1, h2⟩
  case clo f caps => obtain ⟨vs, h1, h2⟩ := h; exact ⟨vs, h1, h2.mono (fun x v => gc.mono he x v)⟩
theorem K.rep.mono {γ γ' : Gh} {tok tok' : Nat → Option Nat} {w w' : World} (he : Ex γ γ' tok tok' w w') (x : K) (v : Value) (h : x.rep γ tok w v) : x.rep γ' tok' w' v := by
  cases x <;> simp only [K.rep] at h ⊢
  case v x => exact V.rep.mono he x v h
  case agg xs => obtain ⟨vs, h1, h2⟩ := h; exact ⟨vs, h1, h2.mono (fun x v => V.rep.mono he x v)⟩
theorem T.rep.mono {γ γ' : Gh} {tok tok' : Nat → Option Nat} {w w' : World} (he : Ex γ γ' tok tok' w w') (x : T) (v : Value) (h : x.rep γ tok w v) : x.rep γ' tok' w' v := by
  cases x <;> simp only [T.rep] at h ⊢
  case k x => exact K.rep.mono he x v h
  case tup ks => obtain ⟨vs, h1, h2⟩ := h; exact ⟨vs, h1, h2.mono (fun x v => K.rep.mono he x v)⟩
  case skip => exact h
def kQ (p : Nat → Prop) (x y : Option Obj) : Prop :=
  match x with
  | some (.cells c e fz) => ∃ c', y = some (.cells c' e fz) ∧ c'.size = c.size ∧ ∀ j, ¬ p j → c'[j]? = c[j]?
  | o => y = o
theorem kQ.refl (p : Nat → Prop) (x : Option Obj) : kQ p x x := by
  unfold kQ
  split
  · exact ⟨_, rfl, rfl, fun _ _ => rfl⟩
  · rfl
theorem kQ.of_eq {p : Nat → Prop} {x y : Option Obj} (h : y = x) : kQ p x y := h ▸ kQ.refl p x
theorem kQ.trans {p : Nat → Prop} {x y z : Option Obj} (h : kQ p x y) (k : kQ p y z) : kQ p x z := by
  cases x with
  | none => simp only [kQ] at h; subst h; exact k
  | some x =>
    cases x with
    | cells c e fz =>
      obtain ⟨c', h1, h2, h3⟩ := h
      subst h1
      obtain ⟨c'', k1, k2, k3⟩ := k
      exact ⟨c'', k1, k2.trans h2, fun j hj => (k3 j hj).trans (h3 j hj)⟩
    | _ => simp only [kQ] at h; subst h; exact k
structure BelowBut (imp : Nat → Nat → Prop) (w w' : World) : Prop where
  os : w'.os = w.os
  tape : w'.tape = w.tape
  output : w'.output = w.output
  size : w.heap.size ≤ w'.heap.size
  blk : ∀ b, b < w.heap.size → kQ (imp b) w.heap[b]? w'.heap[b]?
theorem BelowBut.refl (imp : Nat → Nat → Prop) (w : World) : BelowBut imp w w := ⟨rfl, rfl, rfl, Nat.le_refl _, fun _ _ => kQ.refl _ _⟩
theorem BelowBut.trans {imp : Nat → Nat → Prop} {a b c : World} (h : BelowBut imp a b) (k : BelowBut imp b c) : BelowBut imp a c :=
  ⟨k.os.trans h.os, k.tape.trans h.tape, k.output.trans h.output, Nat.le_trans h.size k.size, fun i hi => (h.blk i hi).trans (k.blk i (Nat.lt_of_lt_of_le hi h.size))⟩
theorem BelowBut.of_below {imp : Nat → Nat → Prop} {w w' : World} (h : Below w.heap.size w w') : BelowBut imp w w' :=
  ⟨h.os, h.tape, h.output, h.size, fun b hb => kQ.of_eq (h.block b hb)⟩
theorem BelowBut.below {w w' : World} (h : BelowBut (fun _ _ => False) w w') : Below w.heap.size w w' :=
  ⟨h.os, h.tape, h.output, h.size, fun b hb => by
    have := h.blk b hb
    unfold kQ at this
    split at this
    · rename_i c e fz hx
      obtain ⟨c', h1, h2, h3⟩ := this
      rw [h1, hx]
      have : c' = c := by
        apply Array.ext h2
        intro i hi hi'
        have := h3 i (fun h => h)
        simpa [Array.getElem?_eq_getElem hi, Array.getElem?_eq_getElem hi'] using this
      rw [this]
    · exact this⟩
theorem BelowBut.mono {imp imp' : Nat → Nat → Prop} {w w' : World} (h : BelowBut imp w w') (hi : ∀ b o, imp b o → imp' b o) : BelowBut imp' w w' :=
  ⟨h.os, h.tape, h.output, h.size, fun b hb => by
    have := h.blk b hb
    unfold kQ at this ⊢
    split
    · rename_i c e fz hx
      simp only [hx] at this
      obtain ⟨c', h1, h2, h3⟩ := this
      exact ⟨c', h1, h2, fun j hj => h3 j (fun hp => hj (hi b j hp))⟩
    · rename_i hx
      split at this
      · rename_i c e fz hx'
        exact absurd hx' (hx c e fz)
      · exact this⟩
theorem qh (w : World) (p : Nat → Nat → Prop) (b o : Nat) (v : Value) (i : Nat) (h : i = b → p b o) : kQ (p i) w.heap[i]? (w.setCell ⟨b, o, none⟩ v).heap[i]? := by
  by_cases hib : i = b
  · subst hib
    have hp := h rfl
    unfold kQ
    simp only [World.setCell, Array.getElem?_modify, ↓reduceIte]
    split
    · rename_i c e fz hx
      rw [hx]
      exact ⟨c.setIfInBounds o v, by simp, by simp, fun j hj => by
        by_cases hjo : o = j
        · subst hjo; exact absurd hp hj
        · rw [Array.getElem?_setIfInBounds_ne hjo]⟩
    · rename_i hx
      cases hh : w.heap[i]? with
      | none => simp
      | some x => cases x <;> simp_all
  · exact kQ.of_eq (Below.heap_setCell _ _ _ _ hib)
theorem BelowBut.setCell {imp : Nat → Nat → Prop} {a w : World} (h : BelowBut imp a w) {b o : Nat} (hp : imp b o ∨ a.heap.size ≤ b) (u : Value) : BelowBut imp a (w.setCell ⟨b, o, none⟩ u) :=
  ⟨h.os, h.tape, h.output, by simpa using h.size, fun i hi => (h.blk i hi).trans (qh w imp b o u i (fun hb => by
    rcases hp with hp | hp
    · exact hp
    · omega))⟩
theorem BelowBut.setCells {imp : Nat → Nat → Prop} {a : World} {b : Nat} : ∀ {vs : List Value} {o : Nat} {w : World}, BelowBut imp a w → (∀ j, j < vs.length → imp b (o + j) ∨ a.heap.size ≤ b) → BelowBut imp a (w.setCells b o vs)
  | [], _, _, h, _ => h
  | v :: vs, o, w, h, hp => by
    rw [World.setCells]
    exact BelowBut.setCells (h.setCell (by simpa using hp 0 (by simp)) v) (fun j hj => by
      have := hp (j + 1) (by simpa using hj)
      rwa [show o + (j + 1) = o + 1 + j by omega] at this)
theorem BelowBut.alloc {imp : Nat → Nat → Prop} {a w : World} (h : BelowBut imp a w) (o : Obj) : BelowBut imp a (w.alloc o) :=
  h.trans (BelowBut.of_below ((Below.refl _ w).alloc (Nat.le_refl _) o))
theorem BelowBut.drew {imp : Nat → Nat → Prop} {a w : World} (h : BelowBut imp a w) : BelowBut imp a w.drew := ⟨h.os, h.tape, h.output, h.size, h.blk⟩
structure Fm where
  fr0 : Nat → Nat → Prop
  imp : Nat → Nat → Prop
  w0 : World
  n : Nat
  locs : List (Nat × Nat)
  tb : Nat → Prop
  gh : T → Value → Nat → Nat → Prop
  gn : Nat
  gk : Nat
def Fm.mine (F : Fm) (b o : Nat) : Prop := F.imp b o ∨ F.w0.heap.size ≤ b
def Fm.spare (F : Fm) (b lo : Nat) : Prop := F.w0.heap.size ≤ b ∨ (F.tb b ∧ ∀ o, lo ≤ o → F.imp b o)
theorem Fm.spare.mine {F : Fm} {b lo : Nat} (h : F.spare b lo) {o : Nat} (ho : lo ≤ o) : F.mine b o := by
  rcases h with h | h
  · exact .inr h
  · exact .inl (h.2 o ho)
theorem Fm.spare.mono {F : Fm} {b lo lo' : Nat} (h : F.spare b lo) (hl : lo ≤ lo') : F.spare b lo' := by
  rcases h with h | h
  · exact .inl h
  · exact .inr ⟨h.1, fun o ho => h.2 o (Nat.le_trans hl ho)⟩
structure Mem where
  tmp : Nat → T
  var : Nat → Option (List V)
  tok : Nat → Option Nat
def Mem.put (m : Mem) (d : Option Tmp) (x : T) : Mem :=
  match d with
  | some d => { m with tmp := fun t => if t = d then x else m.tmp t }
  | none => m
def Gz (F : Fm) (γ : Gh) (tok : Nat → Option Nat) (w : World) (xs : List V) (b o : Nat) : Prop :=
  (∃ vs : List Value, aJ (V.rep γ tok w) xs vs ∧ w.rangeAt b o vs) ∧ w.there b o xs.length ∧ ∀ j, j < xs.length → ¬ γ.fr b (o + j) ∧ F.mine b (o + j)
def qI (F : Fm) (γ : Gh) (w : World) (i n : Nat) : Prop :=
  n ≤ (γ.tk i).cap ∧ ((γ.tk i).cap = n ∨ ∃ b, (γ.tk i).base = some ⟨b, 0, none⟩ ∧ F.spare b (n * (γ.tk i).sz) ∧
    (∃ arr e, w.heap[b]? = some (.cells arr e (0, 0)) ∧ (γ.tk i).cap * (γ.tk i).sz ≤ arr.size) ∧ ∀ o, n * (γ.tk i).sz ≤ o → ¬ γ.fr b o)
structure Rel (F : Fm) (γ : Gh) (m : Mem) (a : Act) (w : World) : Prop where
  defers : a.defers = []
  size : a.tmps.size = F.n
  base : BelowBut F.imp F.w0 w
  fr0 : ∀ b o, F.fr0 b o → γ.fr b o
  frs : ∀ b o, γ.fr b o → F.fr0 b o ∨ F.mine b o
  frlt : ∀ b o, γ.fr b o → b < w.heap.size
  loclt : ∀ id b o, γ.loc id = some (b, o) → b < w.heap.size
  tmps : ∀ t, (m.tmp t).rep γ m.tok w (a.tmps.getD t undef)
  gh : ∀ x v n k, F.gh x v n k → (n ≤ F.gn ∧ k ≤ F.gk) ∧ x.rep (γ.upto n) (upto m.tok k) w v
  vars : ∀ id xs, m.var id = some xs → ∃ b o, γ.loc id = some (b, o) ∧ Gz F γ m.tok w xs b o
  novar : ∀ id, m.var id = none → γ.loc id = none
  lentloc : ∀ (k : Nat) p, F.locs[k]? = some p → γ.loc k = some p
  apart : ∀ id id' xs xs' b o b' o', id ≠ id' → m.var id = some xs → m.var id' = some xs' → γ.loc id = some (b, o) → γ.loc id' = some (b', o') →
    b ≠ b' ∨ o + xs.length ≤ o' ∨ o' + xs'.length ≤ o
  toks : ∀ i n, m.tok i = some n → qI F γ w i n
  tapart : ∀ i j n k, i ≠ j → m.tok i = some n → m.tok j = some k → (γ.tk i).cap ≠ n → (γ.tk j).cap ≠ k → (γ.tk i).base.map (·.block) ≠ (γ.tk j).base.map (·.block)
  tvar : ∀ i n id xs b o, m.tok i = some n → m.var id = some xs → γ.loc id = some (b, o) → (γ.tk i).cap ≠ n → (γ.tk i).base.map (·.block) ≠ some b
theorem Act.getD_put {a : Act} {d : Option Tmp} {v : Value} {n : Nat} (hs : a.tmps.size = n) (hd : ∀ t, d = some t → t < n) (t : Nat) :
    (a.put d v).tmps.getD t undef = if d = some t then v else a.tmps.getD t undef := by
  cases d with
  | none => simp [Act.put]
  | some d =>
    have hlt : d < a.tmps.size := by rw [hs]; exact hd d rfl
    by_cases h : d = t
    · subst h; simp [Act.put, hlt]
    · simp [Act.put, h]
theorem Mem.put_var (m : Mem) (d : Option Tmp) (x : T) : (m.put d x).var = m.var := by cases d <;> rfl
theorem Mem.put_tok (m : Mem) (d : Option Tmp) (x : T) : (m.put d x).tok = m.tok := by cases d <;> rfl
theorem Mem.put_tmp (m : Mem) (d : Option Tmp) (x : T) (t : Nat) : (m.put d x).tmp t = if d = some t then x else m.tmp t := by
  cases d with
  | none => simp [Mem.put]
  | some d =>
    simp only [Mem.put, Option.some.injEq]
    by_cases h : d = t
    · simp [h]
    · simp [h, Ne.symm h]
theorem Act.put_size (a : Act) (d : Option Tmp) (v : Value) : (a.put d v).tmps.size = a.tmps.size := by cases d <;> simp [Act.put]
theorem Act.put_defers' (a : Act) (d : Option Tmp) (v : Value) : (a.put d v).defers = a.defers := by cases d <;> rfl
theorem Rel.put {F : Fm} {γ : Gh} {m : Mem} {a : Act} {w : World} (h : Rel F γ m a w) {d : Option Tmp} (hd : ∀ t, d = some t → t < F.n) {x : T} {v : Value} (hx : x.rep γ m.tok w v) :
    Rel F γ (m.put d x) (a.put d v) w where
  defers := by rw [Act.put_defers']; exact h.defers
  size := by rw [Act.put_size]; exact h.size
  base := h.base
  fr0 := h.fr0
  frs := h.frs
  frlt := h.frlt
  loclt := h.loclt
  tmps t := by
    rw [Act.getD_put h.size hd, Mem.put_tmp, Mem.put_tok]
    split
    · exact hx
    · exact h.tmps t
  gh := by simpa only [Mem.put_tok] using h.gh
  vars := by simpa only [Mem.put_var, Mem.put_tok] using h.vars
  novar := by simpa only [Mem.put_var] using h.novar
  lentloc := h.lentloc
  apart := by simpa only [Mem.put_var] using h.apart
  toks := by simpa only [Mem.put_tok] using h.toks
  tapart := by simpa only [Mem.put_tok] using h.tapart
  tvar := by simpa only [Mem.put_tok, Mem.put_var] using h.tvar
theorem ei {w w' : World} {b o : Nat} {vs : List Value} (h : w.rangeAt b o vs) (hb : Below w.heap.size w w') : w'.rangeAt b o vs := fun j v hv => by
  have := h j v hv
  rw [hb.cell (p := ⟨b, o + j, none⟩) (World.block_lt_of_cell? w _ this)]
  exact this
theorem ir {w w' : World} {b o n : Nat} (h : w.there b o n) (hb : Below w.heap.size w w') : w'.there b o n := fun j hj => by
  obtain ⟨h1, h2⟩ := h j hj
  obtain ⟨u, hu⟩ := Option.isSome_iff_exists.1 h1
  have hlt := World.block_lt_of_cell? w _ hu
  exact ⟨by rw [hb.cell (p := ⟨b, o + j, none⟩) hlt]; exact h1, by rw [hb.frozen (p := ⟨b, o + j, none⟩) hlt]; exact h2⟩
theorem Ev.of_below {Fr Fr' : Nat → Nat → Prop} {w w' : World} (hb : Below w.heap.size w w') (hf : ∀ b o, Fr b o → Fr' b o) : Ev Fr Fr' w w' where
  fr := hf
  cell b o v _ hv := by rw [hb.cell (p := ⟨b, o, none⟩) (World.block_lt_of_cell? w _ hv)]; exact hv
  obj b es c _ hv := by
    have hlt : b < w.heap.size := by
      rcases Nat.lt_or_ge b w.heap.size with h | h
      · exact h
      · rw [Array.getElem?_eq_none h] at hv; cases hv
    rw [hb.block b hlt]; exact hv
theorem Rel.grow {F : Fm} {γ : Gh} {m : Mem} {a : Act} {w w' : World} (h : Rel F γ m a w) (hb : Below w.heap.size w w') {fr' : Nat → Nat → Prop} (hf : ∀ b o, γ.fr b o → fr' b o)
    (hn : ∀ b o, fr' b o → γ.fr b o ∨ (w.heap.size ≤ b ∧ b < w'.heap.size)) : Rel F { γ with fr := fr' } m a w' ∧ Ex γ { γ with fr := fr' } m.tok m.tok w w' := by
  have hex : Ex γ { γ with fr := fr' } m.tok m.tok w w' := ⟨.of_below hb hf, fun _ _ h => h, fun _ _ h => .inl ⟨h, rfl⟩⟩
  refine ⟨?_, hex⟩
  have old : ∀ b o, b < w.heap.size → fr' b o → γ.fr b o := fun b o hlt hx => (hn b o hx).resolve_right (by omega)
  exact {
    defers := h.defers
    size := h.size
    base := h.base.trans (.of_below hb)
    fr0 := fun b o x => hf b o (h.fr0 b o x)
    frs := fun b o x => by
      rcases hn b o x with x | x
      · exact h.frs b o x
      · exact .inr (.inr (by have := h.base.size; omega))
    frlt := fun b o x => by
      rcases hn b o x with x | x
      · exact Nat.lt_of_lt_of_le (h.frlt b o x) hb.size
      · exact x.2
    loclt := fun id b o hl => Nat.lt_of_lt_of_le (h.loclt id b o hl) hb.size
    tmps := fun t => T.rep.mono hex _ _ (h.tmps t)
    gh := fun x v n k hp => ⟨(h.gh x v n k hp).1, T.rep.mono (hex.upto _ _) _ _ (h.gh x v n k hp).2⟩
    vars := fun id xs hv => by
      obtain ⟨b, o, h1, ⟨vs, h2, h3⟩, h4, h5⟩ := h.vars id xs hv
      refine ⟨b, o, h1, ⟨vs, h2.mono (fun x v => V.rep.mono hex x v), ei h3 hb⟩, ir h4 hb, fun j hj => ⟨fun hx => ?_, (h5 j hj).2⟩⟩
      obtain ⟨u, hu⟩ := Option.isSome_iff_exists.1 (h4 j hj).1
      exact (h5 j hj).1 (old b _ (World.block_lt_of_cell? w _ hu) hx)
    novar := h.novar
    lentloc := h.lentloc
    apart := h.apart
    toks := fun i n hi => by
      obtain ⟨h1, h2⟩ := h.toks i n hi
      refine ⟨h1, ?_⟩
      rcases h2 with h2 | ⟨b, hbs, hge, ⟨arr, e, harr, hcap⟩, hfr⟩
      · exact .inl h2
      · have hlt : b < w.heap.size := by
          rcases Nat.lt_or_ge b w.heap.size with h | h
          · exact h
          · rw [Array.getElem?_eq_none h] at harr; cases harr
        exact .inr ⟨b, hbs, hge, ⟨arr, e, by rw [hb.block b hlt]; exact harr, hcap⟩, fun o ho hx => hfr o ho (old b o hlt hx)⟩
    tapart := h.tapart
    tvar := h.tvar }
theorem Rel.newVar {F : Fm} {γ : Gh} {m : Mem} {a : Act} {w : World} (h : Rel F γ m a w) {id : Nat} (hid : m.var id = none) {xs : List V} {vs : List Value} (hx : aJ (V.rep γ m.tok w) xs vs) (t : TypeId) :
    let γ' : Gh := { γ with loc := fun i => if i = id then some (w.heap.size, 0) else γ.loc i }
    let m' : Mem := { m with var := fun i => if i = id then some xs else m.var i }
    Rel F γ' m' a (w.alloc (.cells vs.toArray t)) ∧ Ex γ γ' m.tok m.tok w (w.alloc (.cells vs.toArray t)) := by
  intro γ' m'
  have hb : Below w.heap.size w (w.alloc (.cells vs.toArray t)) := (Below.refl _ w).alloc (Nat.le_refl _) _
  have hloc := h.novar id hid
  have hne : ∀ i p, γ.loc i = some p → i ≠ id := fun i p hp he => by rw [he, hloc] at hp; cases hp
  have hnv : ∀ i xs, m.var i = some xs → i ≠ id := fun i xs hv he => by rw [he, hid] at hv; cases hv
  have hex : Ex γ γ' m.tok m.tok w (w.alloc (.cells vs.toArray t)) :=
    ⟨.of_below hb (fun _ _ h => h), fun i p hp => by show (if i = id then _ else _) = _; rw [if_neg (hne i p hp)]; exact hp, fun _ _ h => .inl ⟨h, rfl⟩⟩
  have hg := (h.grow hb (fr' := γ.fr) (fun _ _ h => h) (fun _ _ h => .inl h)).1
  refine ⟨?_, hex⟩
  exact {
    defers := hg.defers
    size := hg.size
    base := hg.base
    fr0 := hg.fr0
    frs := hg.frs
    frlt := hg.frlt
    loclt := fun i b o hl => by
      simp only [γ'] at hl
      split at hl
      · cases hl; simp
      · exact Nat.lt_of_lt_of_le (h.loclt i b o hl) hb.size
    tmps := fun t => T.rep.mono hex _ _ (h.tmps t)
    gh := fun x v n k hp => ⟨(h.gh x v n k hp).1, T.rep.mono (hex.upto _ _) _ _ (h.gh x v n k hp).2⟩
    vars := fun i ys hv => by
      by_cases hi : i = id
      · subst hi
        have : xs = ys := by simpa [m'] using hv
        subst this
        refine ⟨w.heap.size, 0, by simp [γ'], ⟨vs, hx.mono (fun x v => V.rep.mono hex x v), fun j v hj => ?_⟩, fun j hj => ?_, fun j hj => ⟨fun hf => ?_, .inr ?_⟩⟩
        · simpa using hj
        · have hl := hx.length
          constructor
          · simp; omega
          · simp
        · have := h.frlt _ _ hf; omega
        · exact h.base.size
      · have hv' : m.var i = some ys := by simpa [m', hi] using hv
        obtain ⟨b, o, h1, ⟨vs', h2, h3⟩, h4, h5⟩ := h.vars i ys hv'
        exact ⟨b, o, by simp [γ', hi, h1], ⟨vs', h2.mono (fun x v => V.rep.mono hex x v), ei h3 hb⟩, ir h4 hb, h5⟩
    novar := fun i hi => by
      by_cases he : i = id
      · subst he; simp [m'] at hi
      · simp [m', he] at hi; simp [γ', he, h.novar i hi]
    lentloc := fun k p hk => by
      have h1 := h.lentloc k p hk
      simp only [γ']
      rw [if_neg (hne k p h1)]
      exact h1
    apart := fun i j ys zs b o b' o' hij hi hj hl hl' => by
      by_cases he : i = id
      · subst he
        have hje : j ≠ i := Ne.symm hij
        simp only [m', γ', hje, if_false, if_true, Option.some.injEq, Prod.mk.injEq] at hi hj hl hl'
        obtain ⟨rfl, rfl⟩ := hl
        left; have := h.loclt j b' o' hl'; omega
      · by_cases he' : j = id
        · subst he'
          simp only [m', γ', he, if_false, if_true, Option.some.injEq, Prod.mk.injEq] at hi hj hl hl'
          obtain ⟨rfl, rfl⟩ := hl'
          left; have := h.loclt i b o hl; omega
        · simp only [m', γ', he, he', if_false] at hi hj hl hl'
          exact h.apart i j ys zs b o b' o' hij hi hj hl hl'
    toks := hg.toks
    tapart := hg.tapart
    tvar := fun i n j ys b o hi hj hl hc => by
      by_cases he : j = id
      · subst he
        simp only [γ', if_true, Option.some.injEq, Prod.mk.injEq] at hl
        obtain ⟨rfl, rfl⟩ := hl
        obtain ⟨_, h2⟩ := h.toks i n hi
        rcases h2 with h2 | ⟨b', hbs, _, ⟨arr, e, harr, _⟩, _⟩
        · exact absurd h2 hc
        · rw [show (γ'.tk i).base = some ⟨b', 0, none⟩ from hbs]
          intro heq
          simp at heq
          subst heq
          simp at harr
      · simp only [m', γ', he, if_false] at hj hl
        exact h.tvar i n j ys b o hi hj hl hc }
end Go.Dm
namespace Go.Dm
open Go.RowKit
theorem dX (b : Nat) : ∀ (vs : List Value) (o : Nat) (w : World) (k : Nat), k ≠ b → (w.setCells b o vs).heap[k]? = w.heap[k]?
  | [], _, _, _, _ => rfl
  | v :: r, o, w, k, h => by
    rw [World.setCells, dX b r (o + 1) _ k h]
    exact Below.heap_setCell _ _ _ _ h
theorem fC (b : Nat) : ∀ (vs : List Value) (o : Nat) (w : World) (k : Nat) (es : Array MapEntry) (c : Nat), w.heap[k]? = some (.map es c) → (w.setCells b o vs).heap[k]? = some (.map es c)
  | [], _, _, _, _, _, h => h
  | v :: r, o, w, k, es, c, h => by
    rw [World.setCells]
    refine fC b r (o + 1) _ k es c ?_
    simp only [World.setCell, Array.getElem?_modify]
    split
    · rename_i hb; have hb' : b = k := hb; subst hb'; rw [h]; rfl
    · exact h
theorem dv (b : Nat) : ∀ (vs : List Value) (o : Nat) (w : World), (w.setCells b o vs).heap.size = w.heap.size
  | [], _, _ => rfl
  | v :: r, o, w => by rw [World.setCells, dv b r]; simp
theorem e7 (b : Nat) : ∀ (vs : List Value) (o : Nat) (w : World) (arr : Array Value) (e : TypeId) (fz : Nat × Nat), w.heap[b]? = some (.cells arr e fz) →
    ∃ arr', (w.setCells b o vs).heap[b]? = some (.cells arr' e fz) ∧ arr'.size = arr.size
  | [], _, _, arr, _, _, h => ⟨arr, h, rfl⟩
  | v :: r, o, w, arr, e, fz, h => by
    rw [World.setCells]
    have h1 : (w.setCell ⟨b, o, none⟩ v).heap[b]? = some (.cells (arr.setIfInBounds o v) e fz) := by
      simp only [World.setCell, Array.getElem?_modify, if_true, h]; rfl
    obtain ⟨arr', h2, h3⟩ := e7 b r (o + 1) _ _ e fz h1
    exact ⟨arr', h2, by rw [h3]; simp⟩
theorem Ev.setCells {Fr Fr' : Nat → Nat → Prop} {w : World} (b o : Nat) (vs : List Value) (hf : ∀ b o, Fr b o → Fr' b o) (hno : ∀ j, j < vs.length → ¬ Fr b (o + j)) : Ev Fr Fr' w (w.setCells b o vs) where
  fr := hf
  cell b' o' v hfr hv := by
    rw [World.cell?_setCells_out b vs o w ⟨b', o', none⟩ (fun hb _ => ?_)]
    · exact hv
    · simp only at hb
      subst hb
      rcases Nat.lt_or_ge o' o with h | h
      · exact .inl h
      · rcases Nat.lt_or_ge o' (o + vs.length) with h' | h'
        · exfalso
          have := hno (o' - o) (by omega)
          rw [show o + (o' - o) = o' by omega] at this
          exact this hfr
        · exact .inr h'
  obj b' es c _ hv := fC b vs o w b' es c hv
theorem aJ.splice {R : V → Value → Prop} {xs ys : List V} {vs us : List Value} (h : aJ R xs vs) (k : aJ R ys us) (off : Nat) :
    aJ R (xs.take off ++ ys ++ xs.drop (off + ys.length)) (vs.take off ++ us ++ vs.drop (off + us.length)) := by
  rw [k.length]
  exact ((h.take off).append k).append (h.drop _)
theorem ea {α : Type} (xs ys : List α) (off : Nat) (h : off + ys.length ≤ xs.length) : (xs.take off ++ ys ++ xs.drop (off + ys.length)).length = xs.length := by
  simp only [List.length_append, List.length_take, List.length_drop]; omega
theorem mu {w : World} {b o : Nat} {vs us : List Value} (h : w.rangeAt b o vs) (ht : w.there b o vs.length) (off : Nat) (hin : off + us.length ≤ vs.length) :
    (w.setCells b (o + off) us).rangeAt b o (vs.take off ++ us ++ vs.drop (off + us.length)) := by
  intro j v hv
  by_cases h1 : j < off
  · rw [World.cell?_setCells_out b us (o + off) w _ (fun _ _ => .inl (by simp; omega))]
    rw [List.append_assoc, List.getElem?_append_left (by simp; omega), List.getElem?_take, if_pos h1] at hv
    exact h j v hv
  · by_cases h2 : j < off + us.length
    · have hsome : ∀ i, i < us.length → (w.cell? ⟨b, o + off + i, none⟩).isSome = true := fun i hi => by
        have := (ht (off + i) (by omega)).1
        rwa [show o + off + i = o + (off + i) by omega]
      have := World.cell?_setCells_in b us (o + off) w hsome (j - off) (by omega)
      rw [show o + off + (j - off) = o + j by omega] at this
      rw [this, ← hv]
      rw [List.append_assoc, List.getElem?_append_right (by simp; omega), List.getElem?_append_left (by simp; omega)]
      simp only [List.length_take]
      rw [show j - min off vs.length = j - off by omega, List.getElem?_eq_getElem (by omega)]
    · rw [World.cell?_setCells_out b us (o + off) w _ (fun _ _ => .inr (by simp; omega))]
      rw [List.getElem?_append_right (by simp; omega), List.getElem?_drop] at hv
      refine h j v ?_
      rw [← hv]
      congr 1
      simp; omega
theorem Rel.store {F : Fm} {γ : Gh} {m : Mem} {a : Act} {w : World} (h : Rel F γ m a w) {id b o : Nat} {xs : List V} (hv : m.var id = some xs) (hl : γ.loc id = some (b, o)) (off : Nat) {ys : List V} {us : List Value}
    (hy : aJ (V.rep γ m.tok w) ys us) (hin : off + ys.length ≤ xs.length) :
    let m' : Mem := { m with var := fun i => if i = id then some (xs.take off ++ ys ++ xs.drop (off + ys.length)) else m.var i }
    Rel F γ m' a (w.setCells b (o + off) us) := by
  intro m'
  obtain ⟨b', o', h1, ⟨vs, h2, h3⟩, h4, h5⟩ := h.vars id xs hv
  rw [h1] at hl; cases hl
  have hyl := hy.length
  have hvl := h2.length
  have hno : ∀ j, j < us.length → ¬ γ.fr b (o + off + j) := fun j hj => by
    have := (h5 (off + j) (by omega)).1
    rwa [show o + off + j = o + (off + j) by omega]
  have hex : Ex γ γ m.tok m.tok w (w.setCells b (o + off) us) := ⟨.setCells b (o + off) us (fun _ _ h => h) hno, fun _ _ h => h, fun _ _ h => .inl ⟨h, rfl⟩⟩
  exact {
    defers := h.defers
    size := h.size
    base := h.base.setCells fun j hj => by
      have := (h5 (off + j) (by omega)).2
      rwa [show o + off + j = o + (off + j) by omega]
    fr0 := h.fr0
    frs := h.frs
    frlt := fun b o hx => by rw [dv]; exact h.frlt b o hx
    loclt := fun i b o hx => by rw [dv]; exact h.loclt i b o hx
    tmps := fun t => T.rep.mono hex _ _ (h.tmps t)
    gh := fun x v n k hp => ⟨(h.gh x v n k hp).1, T.rep.mono (hex.upto _ _) _ _ (h.gh x v n k hp).2⟩
    vars := fun i zs hi => by
      by_cases he : i = id
      · subst he
        simp only [m', if_true, Option.some.injEq] at hi
        subst hi
        refine ⟨b, o, h1, ⟨_, ((h2.mono (fun x v => V.rep.mono hex x v)).splice (hy.mono (fun x v => V.rep.mono hex x v)) off), mu h3 (by rw [← hvl]; exact h4) off (by omega)⟩, ?_, ?_⟩
        · rw [ea _ _ _ hin]; exact World.there_setCells h4 _ _ _
        · rw [ea _ _ _ hin]; exact h5
      · simp only [m', he, if_false] at hi
        obtain ⟨b', o', k1, ⟨vs', k2, k3⟩, k4, k5⟩ := h.vars i zs hi
        refine ⟨b', o', k1, ⟨vs', k2.mono (fun x v => V.rep.mono hex x v), World.rangeAt_setCells_apart k3 _ _ _ ?_⟩, World.there_setCells k4 _ _ _, k5⟩
        have := h.apart i id zs xs b' o' b o he hi hv k1 h1
        have hk := k2.length
        omega
    novar := fun i hi => by
      by_cases he : i = id
      · subst he; simp [m'] at hi
      · simp [m', he] at hi; exact h.novar i hi
    lentloc := h.lentloc
    apart := fun i j ys' zs b1 o1 b2 o2 hij hi hj hl1 hl2 => by
      have key : ∀ k zs', m'.var k = some zs' → ∃ zs, m.var k = some zs ∧ zs.length = zs'.length := fun k zs' hk => by
        by_cases he : k = id
        · subst he
          simp only [m', if_true, Option.some.injEq] at hk
          subst hk
          exact ⟨xs, hv, (ea _ _ _ hin).symm⟩
        · simp only [m', he, if_false] at hk; exact ⟨zs', hk, rfl⟩
      obtain ⟨zs1, hz1, e1⟩ := key i _ hi
      obtain ⟨zs2, hz2, e2⟩ := key j _ hj
      have := h.apart i j zs1 zs2 b1 o1 b2 o2 hij hz1 hz2 hl1 hl2
      omega
    toks := fun i n hi => by
      obtain ⟨k1, k2⟩ := h.toks i n hi
      refine ⟨k1, ?_⟩
      by_cases hc : (γ.tk i).cap = n
      · exact .inl hc
      · obtain ⟨b', hbs, hge, ⟨arr, e, harr, hcap⟩, hfr⟩ := k2.resolve_left hc
        have hne : b' ≠ b := fun he => by
          have := h.tvar i n id xs b o hi hv h1 hc
          rw [hbs] at this
          exact this (by simp [he])
        exact .inr ⟨b', hbs, hge, ⟨arr, e, by rw [dX _ _ _ _ _ hne]; exact harr, hcap⟩, hfr⟩
    tapart := h.tapart
    tvar := fun i n j zs b1 o1 hi hj hl1 hc => by
      by_cases he : j = id
      · subst he; exact h.tvar i n j xs b1 o1 hi hv hl1 hc
      · simp only [m', he, if_false] at hj; exact h.tvar i n j zs b1 o1 hi hj hl1 hc }
theorem Rel.store_ex {F : Fm} {γ : Gh} {m : Mem} {a : Act} {w : World} (h : Rel F γ m a w) {id b o : Nat} {xs : List V} (hv : m.var id = some xs) (hl : γ.loc id = some (b, o)) (off : Nat) {us : List Value} (hin : off + us.length ≤ xs.length) :
    Ex γ γ m.tok m.tok w (w.setCells b (o + off) us) := by
  obtain ⟨b', o', h1, _, _, h5⟩ := h.vars id xs hv
  rw [h1] at hl; cases hl
  exact ⟨.setCells b (o + off) us (fun _ _ h => h) (fun j hj => by
    have := (h5 (off + j) (by omega)).1
    rwa [show o + off + j = o + (off + j) by omega]), fun _ _ h => h, fun _ _ h => .inl ⟨h, rfl⟩⟩
theorem Rel.inPlace {F : Fm} {γ : Gh} {m : Mem} {a : Act} {w : World} (h : Rel F γ m a w) {i n k b : Nat} (hi : m.tok i = some n) (hc : (γ.tk i).cap ≠ n) (hb : (γ.tk i).base = some ⟨b, 0, none⟩)
    (us : List Value) (hus : us.length = k * (γ.tk i).sz) (hcap : n + k ≤ (γ.tk i).cap) (hk : 0 < k) :
    let γ' : Gh := { γ with fr := fun b' o => γ.fr b' o ∨ (b' = b ∧ o < (n + k) * (γ.tk i).sz ∧ n * (γ.tk i).sz ≤ o) }
    let m' : Mem := { m with tok := fun j => if j = i then some (n + k) else m.tok j }
    Rel F γ' m' a (w.setCells b (n * (γ.tk i).sz) us) ∧ Ex γ γ' m.tok m'.tok w (w.setCells b (n * (γ.tk i).sz) us) ∧ w.there b (n * (γ.tk i).sz) us.length := by
  intro γ' m'
  obtain ⟨k1, k2⟩ := h.toks i n hi
  obtain ⟨b', hbs, hge, ⟨arr, e, harr, hcapsz⟩, hfr⟩ := k2.resolve_left hc
  rw [hb] at hbs; cases hbs
  have hblt : b < w.heap.size := by
    rcases Nat.lt_or_ge b w.heap.size with h | h
    · exact h
    · rw [Array.getElem?_eq_none h] at harr; cases harr
  have hmul : n * (γ.tk i).sz + us.length ≤ arr.size := by
    rw [hus, ← Nat.add_mul]
    exact Nat.le_trans (Nat.mul_le_mul_right _ hcap) hcapsz
  have hex : Ex γ γ' m.tok m'.tok w (w.setCells b (n * (γ.tk i).sz) us) := by
    refine ⟨.setCells b _ us (fun _ _ h => .inl h) (fun j hj => hfr _ (by omega)), fun _ _ h => h, fun j l hj => ?_⟩
    by_cases he : j = i
    · subst he
      rw [hi] at hj; cases hj
      exact .inr ⟨n + k, by simp [m'], by omega⟩
    · exact .inl ⟨by simp [m', he, hj], rfl⟩
  have hvb : ∀ id xs b1 o1, m.var id = some xs → γ.loc id = some (b1, o1) → b1 ≠ b := fun id xs b1 o1 hv hl he => by
    have := h.tvar i n id xs b1 o1 hi hv hl hc
    rw [hb] at this
    exact this (by simp [he])
  refine ⟨?_, hex, fun j hj => ?_⟩
  · exact {
      defers := h.defers
      size := h.size
      base := h.base.setCells fun j hj => hge.mine (by omega)
      fr0 := fun b o hx => .inl (h.fr0 b o hx)
      frs := fun b1 o hx => by
        rcases hx with hx | ⟨rfl, _, hx⟩
        · exact h.frs b1 o hx
        · exact .inr (hge.mine hx)
      frlt := fun b1 o hx => by
        rw [dv]
        rcases hx with hx | ⟨rfl, _⟩
        · exact h.frlt b1 o hx
        · exact hblt
      loclt := fun j b o hx => by rw [dv]; exact h.loclt j b o hx
      tmps := fun t => T.rep.mono hex _ _ (h.tmps t)
      gh := fun x v n k hp => ⟨(h.gh x v n k hp).1, T.rep.mono (hex.upto _ _) _ _ (h.gh x v n k hp).2⟩
      vars := fun id xs hv => by
        obtain ⟨b1, o1, h1, ⟨vs, h2, h3⟩, h4, h5⟩ := h.vars id xs hv
        have hne := hvb id xs b1 o1 hv h1
        refine ⟨b1, o1, h1, ⟨vs, h2.mono (fun x v => V.rep.mono hex x v), World.rangeAt_setCells_apart h3 _ _ _ (.inl hne)⟩, World.there_setCells h4 _ _ _, fun j hj => ⟨fun hx => ?_, (h5 j hj).2⟩⟩
        rcases hx with hx | ⟨he, _⟩
        · exact (h5 j hj).1 hx
        · exact hne he
      novar := h.novar
      lentloc := h.lentloc
      apart := h.apart
      toks := fun j l hj => by
        by_cases he : j = i
        · subst he
          simp only [m', if_true, Option.some.injEq] at hj
          subst hj
          refine ⟨hcap, .inr ⟨b, hb, hge.mono (Nat.mul_le_mul_right _ (Nat.le_add_right _ _)), ?_, fun o ho hx => ?_⟩⟩
          · obtain ⟨arr', g1, g2⟩ := e7 b us (n * (γ.tk j).sz) w arr e (0, 0) harr
            exact ⟨arr', e, g1, by rw [g2]; exact hcapsz⟩
          · rcases hx with hx | ⟨_, hx, _⟩
            · refine hfr o (Nat.le_trans (Nat.mul_le_mul_right _ (by omega)) ho) hx
            · exact absurd ho (Nat.not_le.2 hx)
        · simp only [m', he, if_false] at hj
          obtain ⟨k1', k2'⟩ := h.toks j l hj
          refine ⟨k1', ?_⟩
          by_cases hc' : (γ.tk j).cap = l
          · exact .inl hc'
          · obtain ⟨b2, hbs, hge2, ⟨arr2, e2, harr2, hcap2⟩, hfr2⟩ := k2'.resolve_left hc'
            have hne : b2 ≠ b := fun hq => by
              have := h.tapart j i l n he hj hi hc' hc
              rw [hbs, hb] at this
              exact this (by simp [hq])
            refine .inr ⟨b2, hbs, hge2, ⟨arr2, e2, by rw [dX _ _ _ _ _ hne]; exact harr2, hcap2⟩, fun o ho hx => ?_⟩
            rcases hx with hx | ⟨hq, _⟩
            · exact hfr2 o ho hx
            · exact hne hq
      tapart := fun j l x y hjl hj hl hcj hcl => by
        have key : ∀ j x, m'.tok j = some x → (γ.tk j).cap ≠ x → ∃ x', m.tok j = some x' ∧ (γ.tk j).cap ≠ x' := fun j x hj hcj => by
          by_cases he : j = i
          · subst he; exact ⟨n, hi, hc⟩
          · simp only [m', he, if_false] at hj; exact ⟨x, hj, hcj⟩
        obtain ⟨x', a1, a2⟩ := key j x hj hcj
        obtain ⟨y', b1, b2⟩ := key l y hl hcl
        exact h.tapart j l x' y' hjl a1 b1 a2 b2
      tvar := fun j x id xs b1 o1 hj hv hl hcj => by
        by_cases he : j = i
        · subst he; exact h.tvar j n id xs b1 o1 hi hv hl hc
        · simp only [m', he, if_false] at hj; exact h.tvar j x id xs b1 o1 hj hv hl hcj }
  · have hlt : n * (γ.tk i).sz + j < arr.size := by omega
    constructor
    · simp [World.cell?, harr, hlt]
    · simp [World.frozen?, harr]
theorem Rel.newRow {F : Fm} {γ : Gh} {m : Mem} {a : Act} {w w' : World} (h : Rel F γ m a w) (hb : Below w.heap.size w w') {i n n' cap sz : Nat} (hi : m.tok i = none ∨ (m.tok i = some n ∧ n < n'))
    {arr : Array Value} {e : TypeId} (harr : w'.heap[w.heap.size]? = some (.cells arr e (0, 0))) (hcap : n' ≤ cap) (hsz : cap * sz ≤ arr.size) :
    let γ' : Gh := { fr := fun b o => γ.fr b o ∨ (b = w.heap.size ∧ o < n' * sz), loc := γ.loc, tk := fun j => if j = i then ⟨some ⟨w.heap.size, 0, none⟩, cap, sz⟩ else γ.tk j }
    let m' : Mem := { m with tok := fun j => if j = i then some n' else m.tok j }
    Rel F γ' m' a w' ∧ Ex γ γ' m.tok m'.tok w w' := by
  intro γ' m'
  have hlt' : w.heap.size < w'.heap.size := by
    rcases Nat.lt_or_ge w.heap.size w'.heap.size with h | h
    · exact h
    · rw [Array.getElem?_eq_none h] at harr; cases harr
  have hg := (h.grow hb (fr' := γ'.fr) (fun _ _ h => .inl h) (fun b o hx => by
    rcases hx with hx | ⟨rfl, _⟩
    · exact .inl hx
    · exact .inr ⟨Nat.le_refl _, hlt'⟩)).1
  have hex : Ex γ γ' m.tok m'.tok w w' := by
    refine ⟨.of_below hb (fun _ _ h => .inl h), fun _ _ h => h, fun j l hj => ?_⟩
    by_cases he : j = i
    · subst he
      rcases hi with hi | ⟨hi, hlt⟩
      · rw [hi] at hj; cases hj
      · rw [hi] at hj; cases hj; exact .inr ⟨n', by simp [m'], hlt⟩
    · exact .inl ⟨by simp [m', he, hj], by simp [γ', he]⟩
  have oldTok : ∀ j x, j ≠ i → m.tok j = some x → (γ.tk j).cap ≠ x → (γ.tk j).base.map (·.block) ≠ some w.heap.size := fun j x _ hj hc heq => by
    obtain ⟨b2, hbs, _, ⟨arr2, e2, harr2, _⟩, _⟩ := (h.toks j x hj).2.resolve_left hc
    rw [hbs] at heq
    simp at heq
    subst heq
    simp at harr2
  refine ⟨?_, hex⟩
  exact {
    defers := h.defers
    size := h.size
    base := hg.base
    fr0 := hg.fr0
    frs := hg.frs
    frlt := hg.frlt
    loclt := hg.loclt
    tmps := fun t => T.rep.mono hex _ _ (h.tmps t)
    gh := fun x v n k hp => ⟨(h.gh x v n k hp).1, T.rep.mono (hex.upto _ _) _ _ (h.gh x v n k hp).2⟩
    vars := fun id xs hv => by
      obtain ⟨b1, o1, h1, ⟨vs, h2, h3⟩, h4, h5⟩ := hg.vars id xs hv
      obtain ⟨b1', o1', h1', ⟨vs', h2', h3'⟩, _⟩ := h.vars id xs hv
      simp only at h1
      rw [h1] at h1'; cases h1'
      exact ⟨b1, o1, h1, ⟨vs', h2'.mono (fun x v => V.rep.mono hex x v), ei h3' hb⟩, h4, h5⟩
    novar := h.novar
    lentloc := h.lentloc
    apart := h.apart
    toks := fun j l hj => by
      by_cases he : j = i
      · subst he
        simp only [m', if_true, Option.some.injEq] at hj
        subst hj
        refine ⟨by simp [γ', hcap], .inr ⟨w.heap.size, by simp [γ'], .inl h.base.size, ⟨arr, e, harr, by simp [γ', hsz]⟩, fun o ho hx => ?_⟩⟩
        simp only [γ', if_true] at ho hx
        rcases hx with hx | ⟨_, hx⟩
        · exact absurd (h.frlt _ _ hx) (Nat.lt_irrefl _)
        · omega
      · simp only [m', he, if_false] at hj
        obtain ⟨k1, k2⟩ := hg.toks j l hj
        simpa [qI, γ', he] using And.intro k1 k2
    tapart := fun j l x y hjl hj hl hcj hcl => by
      by_cases he : j = i
      · subst he
        have hl' : l ≠ j := Ne.symm hjl
        simp only [m', γ', hl', if_false, if_true] at hl hcl ⊢
        intro heq
        exact oldTok l y hl' hl hcl (by rw [← heq]; rfl)
      · by_cases he' : l = i
        · subst he'
          simp only [m', γ', he, if_false, if_true] at hj hcj ⊢
          intro heq
          exact oldTok j x he hj hcj (by rw [heq]; rfl)
        · simp only [m', γ', he, he', if_false] at hj hl hcj hcl ⊢
          exact h.tapart j l x y hjl hj hl hcj hcl
    tvar := fun j x id xs b1 o1 hj hv hl hcj => by
      by_cases he : j = i
      · subst he
        simp only [γ', if_true, Option.map_some]
        intro heq
        simp at heq
        have := h.loclt id b1 o1 hl
        omega
      · simp only [m', γ', he, if_false] at hj hcj ⊢
        exact h.tvar j x id xs b1 o1 hj hv hl hcj }
theorem Rel.newRowVar {F : Fm} {γ : Gh} {m : Mem} {a : Act} {w w' : World} (h : Rel F γ m a w) (hb : Below w.heap.size w w') {id : Nat} (hid : m.var id = none) {xs : List V} {vs : List Value} (hx : aJ (V.rep γ m.tok w) xs vs) (hr : w'.rangeAt w.heap.size 0 vs) (ht : w'.there w.heap.size 0 xs.length) (hlt : w.heap.size < w'.heap.size) :
    let γ' : Gh := { γ with loc := fun i => if i = id then some (w.heap.size, 0) else γ.loc i }
    let m' : Mem := { m with var := fun i => if i = id then some xs else m.var i }
    Rel F γ' m' a w' ∧ Ex γ γ' m.tok m.tok w w' := by
  intro γ' m'
  have hloc := h.novar id hid
  have hne : ∀ i p, γ.loc i = some p → i ≠ id := fun i p hp he => by rw [he, hloc] at hp; cases hp
  have hnv : ∀ i xs, m.var i = some xs → i ≠ id := fun i xs hv he => by rw [he, hid] at hv; cases hv
  have hex : Ex γ γ' m.tok m.tok w w' :=
    ⟨.of_below hb (fun _ _ h => h), fun i p hp => by show (if i = id then _ else _) = _; rw [if_neg (hne i p hp)]; exact hp, fun _ _ h => .inl ⟨h, rfl⟩⟩
  have hg := (h.grow hb (fr' := γ.fr) (fun _ _ h => h) (fun _ _ h => .inl h)).1
  refine ⟨?_, hex⟩
  exact {
    defers := hg.defers
    size := hg.size
    base := hg.base
    fr0 := hg.fr0
    frs := hg.frs
    frlt := hg.frlt
    loclt := fun i b o hl => by
      simp only [γ'] at hl
      split at hl
      · cases hl; exact hlt
      · exact Nat.lt_of_lt_of_le (h.loclt i b o hl) hb.size
    tmps := fun t => T.rep.mono hex _ _ (h.tmps t)
    gh := fun x v n k hp => ⟨(h.gh x v n k hp).1, T.rep.mono (hex.upto _ _) _ _ (h.gh x v n k hp).2⟩
    vars := fun i ys hv => by
      by_cases hi : i = id
      · subst hi
        have : xs = ys := by simpa [m'] using hv
        subst this
        refine ⟨w.heap.size, 0, by simp [γ'], ⟨vs, hx.mono (fun x v => V.rep.mono hex x v), hr⟩, ht, fun j hj => ⟨fun hf => ?_, .inr ?_⟩⟩
        · have := h.frlt _ _ hf; omega
        · exact h.base.size
      · have hv' : m.var i = some ys := by simpa [m', hi] using hv
        obtain ⟨b, o, h1, ⟨vs', h2, h3⟩, h4, h5⟩ := h.vars i ys hv'
        exact ⟨b, o, by simp [γ', hi, h1], ⟨vs', h2.mono (fun x v => V.rep.mono hex x v), ei h3 hb⟩, ir h4 hb, h5⟩
    novar := fun i hi => by
      by_cases he : i = id
      · subst he; simp [m'] at hi
      · simp [m', he] at hi; simp [γ', he, h.novar i hi]
    lentloc := fun k p hk => by
      have h1 := h.lentloc k p hk
      simp only [γ']
      rw [if_neg (hne k p h1)]
      exact h1
    apart := fun i j ys zs b o b' o' hij hi hj hl hl' => by
      by_cases he : i = id
      · subst he
        have hje : j ≠ i := Ne.symm hij
        simp only [m', γ', hje, if_false, if_true, Option.some.injEq, Prod.mk.injEq] at hi hj hl hl'
        obtain ⟨rfl, rfl⟩ := hl
        left; have := h.loclt j b' o' hl'; omega
      · by_cases he' : j = id
        · subst he'
          simp only [m', γ', he, if_false, if_true, Option.some.injEq, Prod.mk.injEq] at hi hj hl hl'
          obtain ⟨rfl, rfl⟩ := hl'
          left; have := h.loclt i b o hl; omega
        · simp only [m', γ', he, he', if_false] at hi hj hl hl'
          exact h.apart i j ys zs b o b' o' hij hi hj hl hl'
    toks := hg.toks
    tapart := hg.tapart
    tvar := fun i n j ys b o hi hj hl hc => by
      by_cases he : j = id
      · subst he
        simp only [γ', if_true, Option.some.injEq, Prod.mk.injEq] at hl
        obtain ⟨rfl, rfl⟩ := hl
        obtain ⟨_, h2⟩ := h.toks i n hi
        rcases h2 with h2 | ⟨b', hbs, _, ⟨arr, e, harr, _⟩, _⟩
        · exact absurd h2 hc
        · rw [show (γ'.tk i).base = some ⟨b', 0, none⟩ from hbs]
          intro heq
          simp at heq
          subst heq
          simp at harr
      · simp only [m', γ', he, if_false] at hj hl
        exact h.tvar i n j ys b o hi hj hl hc }
end Go.Dm
namespace Go.Dm
open Go.RowKit
inductive A where
  | c (x : C)
  | agg (xs : List C)
  | imp (k : Nat)
  | nil
  | top (sz : Nat) (es : List (List C))
  deriving Inhabited
inductive Res where
  | c (x : C)
  | agg (xs : List C)
  | top (sz : Nat) (es : List (List C))
  deriving Inhabited
structure Eff where
  dst : T
  nv : Option (List V) := none
  uv : List (Nat × List V) := []
  ut : List (Nat × Nat) := []
  rv : List Nat := []
  rt : List Nat := []
  al : Bool := false
  deriving Inhabited
structure St where
  tmps : List T
  vars : List (List V)
  toks : List Nat
  deriving Inhabited
inductive Ext where
  | normal
  | exit (id : Nat)
  | ret
  deriving Inhabited, DecidableEq
inductive G where
  | b (v : Bool)
  | call (rs : List Res) (ims : List (List C))
  | idx (j : Nat) (c : List C)
  | at (j : Nat)
  | look (n : Int) (b : Bool)
  | byte (j : Nat) (x : UInt8)
  | cut (l h : Nat) (es : List (List C))
  | len (n : Nat)
  | str (ns : List Int)
  | app (es : List (List C))
  | ok
  | e (x : Eff)
  | rowv (ys : List V)
  | vat (j : Nat)
  | sto (ys : List V)
  | rows (es : List (List C))
  | loop (x : Ext) (s : St)
  | un
  | frz (ess : List (List (List C)))
  deriving Inhabited
abbrev jo := FuncId → List A → List (List C) → Option (List Res × List (List C))
abbrev wZ := FuncId → List K → List (List V) → List Nat → Option (List K × List (List V) × List Nat)
abbrev wR := FuncId → List K → List (List V) → List Nat → List G → Option ((List K × List (List V) × List Nat) × List G × List Prop)
structure Env where
  P : Program
  F : jo
  gl : Nat → Option (List C)
  tp : FuncId → Bool
  vs : Nat → Nat → Bool
  il : FuncId → Bool
  cl : FuncId → Option Nat
  I : wZ
  J : wR
def tu : Value → Bool | .int _ _ => true | _ => false
def vS : Value → Bool
  | .bool _ | .int _ _ | .string _ | .pointer none | .nilFunc | .nilIface | .map none => true
  | _ => false
def ofValue : Value → Option V
  | .slice none 0 0 => some (.own 0 [] .exact)
  | v => if vS v then some (.c (.raw v)) else none
def kS : Value → Option K
  | .agg cs => (cs.toList.mapM ofValue).map .agg
  | v => (ofValue v).map .v
def K.cells : K → List V
  | .v x => [x]
  | .agg xs => xs
def V.toC : V → Option C
  | .c x => some x
  | .own sz es _ => some (.slice sz es)
  | _ => none
def T.cell? : T → Option V
  | .k (.v x) => some x
  | _ => none
def T.k? (t : T) : Option K :=
  match t with
  | .k x => some x
  | _ => none
def T.raw? : T → Option Value
  | .k (.v (.c (.raw x))) => some x
  | _ => none
def T.int? (t : T) : Option (IntKind × Int) :=
  match t.raw? with
  | some (.int q n) => some (q, n)
  | _ => none
def T.bool? (t : T) : Option Bool :=
  match t.raw? with
  | some (.bool b) => some b
  | _ => none
def T.pure (v : Value) : T := .k (.v (.c (.raw v)))
def fY (P : Program) (t : TypeId) : Option Bool := (P.underlying t).map (·.isRow)
def na (P : Program) (t : TypeId) (xs : List V) : Option K :=
  match fY P t with
  | some true => if P.cellsOf t ≤ xs.length then some (.agg (xs.take (P.cellsOf t))) else none
  | some false => xs.head?.map .v
  | none => none
def Env.ev (E : Env) (m : Mem) : Operand → T
  | .tmp t => m.tmp t
  | .const v => match kS v with | some k => .k k | none => .hole
  | .global g => match E.gl g with | some cs => .k (.v (.c (.rptr cs))) | none => .hole
  | .func f => .k (.v (.clo f []))
def pD (k : IntKind) (x y : Int) (f : BitVec k.bits → BitVec k.bits → BitVec k.bits) : Value :=
  .int k (k.wrap (f (BitVec.ofInt k.bits x) (BitVec.ofInt k.bits y)).toNat)
def mR (op : BinOp) (k : IntKind) (a b : Int) : Option Value :=
  match op with
  | .add => some (.int k (k.wrap (a + b)))
  | .sub => some (.int k (k.wrap (a - b)))
  | .mul => some (.int k (k.wrap (a * b)))
  | .quo => if b = 0 then none else some (.int k (k.wrap (a.tdiv b)))
  | .rem => if b = 0 then none else some (.int k (a.tmod b))
  | .and => some (pD k a b (· &&& ·))
  | .or => some (pD k a b (· ||| ·))
  | .xor => some (pD k a b (· ^^^ ·))
  | .andNot => some (pD k a b (fun x y => x &&& ~~~y))
  | .eql => some (.bool (a == b))
  | .neq => some (.bool (a != b))
  | .lss => some (.bool (decide (a < b)))
  | .leq => some (.bool (decide (a ≤ b)))
  | .gtr => some (.bool (decide (a > b)))
  | .geq => some (.bool (decide (a ≥ b)))
  | _ => none
def fM (op : BinOp) (k : IntKind) (a b : Int) : Option Value :=
  if b < 0 then none else
  match op with
  | .shl => some (.int k (k.wrap (a * 2 ^ (min b.toNat k.bits))))
  | .shr => some (.int k (a.fdiv (2 ^ (min b.toNat k.bits))))
  | _ => none
def qf (op : BinOp) (a b : ByteArray) : Option Value :=
  match op with
  | .add => if a.size + b.size ≤ 9223372036854775807 then some (.string (a ++ b)) else none
  | .eql => some (.bool (a == b))
  | .neq => some (.bool (!(a == b)))
  | _ => none
def ky (op : BinOp) (x y : Value) : Option Value :=
  match x, y with
  | .int k a, .int k' b =>
    match op with
    | .shl | .shr => fM op k a b
    | _ => if k = k' then mR op k a b else none
  | .string a, .string b => qf op a b
  | _, _ => none
def fy (P : Program) : Nat → TypeId → List Value → List Value → Option Bool
  | 0, _, _, _ => none
  | f + 1, t, xs, ys =>
    match P.underlying t with
    | some .bool => match xs, ys with | [.bool a], [.bool b] => some (a == b) | _, _ => none
    | some (.int _) => match xs, ys with | [.int k a], [.int k' b] => if k = k' then some (a == b) else none | _, _ => none
    | some .string => match xs, ys with | [.string a], [.string b] => some (a == b) | _, _ => none
    | some (.struct fs) =>
      if P.stoodInHeld t then none else
      fs.toList.foldr (fun g acc =>
        if g.name = "_" then none else
        match fy P f g.type ((xs.drop g.offset).take (P.cellsOf g.type)) ((ys.drop g.offset).take (P.cellsOf g.type)), acc with
        | some a, some b => some (a && b)
        | _, _ => none) (some true)
    | some (.array n e) =>
      if (P.info? e).isNone then none else
      (List.range n).foldr (fun i acc =>
        match fy P f e ((xs.drop (i * P.cellsOf e)).take (P.cellsOf e)) ((ys.drop (i * P.cellsOf e)).take (P.cellsOf e)), acc with
        | some a, some b => some (a && b)
        | _, _ => none) (some true)
    | _ => none
def V.raw? : V → Option Value
  | .c (.raw v) => some v
  | _ => none
def Da (P : Program) (op : BinOp) (t : TypeId) (x y : T) : Option T :=
  match x, y with
  | .k (.v (.c (.raw a))), .k (.v (.c (.raw b))) =>
    match a, b with
    | .bool p, .bool q =>
      match op, P.underlying t with
      | .eql, some .bool => some (.pure (.bool (p == q)))
      | .neq, some .bool => some (.pure (.bool (!(p == q))))
      | _, _ => none
    | a, b => (ky op a b).map .pure
  | .k (.agg xs), .k (.agg ys) =>
    match xs.mapM V.raw?, ys.mapM V.raw? with
    | some as, some bs =>
      if P.eqGuardType P.depth t = true ∨ fY P t ≠ some true then none else
      match fy P 100 t as bs with
      | some r =>
        match op with
        | .eql => some (.pure (.bool r))
        | .neq => some (.pure (.bool (!r)))
        | _ => none
      | none => none
    | _, _ => none
  | _, _ => none
def unT (op : UnOp) (x : T) : Option T :=
  match op, x.raw? with
  | .not, some (.bool b) => some (.pure (.bool (!b)))
  | .neg, some (.int k n) => some (.pure (.int k (k.wrap (0 - n))))
  | _, _ => none
def bH (ns : List Int) : ByteArray := ns.foldl (fun r n => r.push (UInt8.ofNat n.toNat)) ByteArray.empty
def iA : List (List C) → Option (List Int)
  | [] => some []
  | [.raw (.int .u8 n)] :: r => (iA r).map (n :: ·)
  | _ :: _ => none
def yJ (P : Program) (src dst : TypeId) (x : T) : Option (List (List C)) :=
  match P.underlying src, P.underlying dst, x with
  | some (.slice e), some .string, .k (.v (.c (.slice sz es))) => match P.underlying e with | some (.int .u8) => if sz = 1 ∨ es = [] then some es else none | _ => none
  | some (.slice e), some .string, .k (.v (.own sz es _)) => match P.underlying e with | some (.int .u8) => if sz = 1 ∨ es = [] then some es else none | _ => none
  | _, _, _ => none
def yB (P : Program) (src dst : TypeId) (x : T) : Option T :=
  match yJ P src dst x with
  | some es => (iA es).map fun ns => .pure (.string (bH ns))
  | none =>
  match P.underlying src, P.underlying dst, x.raw? with
  | some _, some (.int k), some (.int _ n) => some (.pure (.int k (k.wrap n)))
  | some _, some .string, some (.string s) => some (.pure (.string s))
  | _, _, _ => none
def xJ (place : Nat → Option (Nat × Nat)) : List V → List (Nat × T) → Option (List V)
  | cells, [] => some cells
  | cells, (i, x) :: rest =>
    match place i, x.k? with
    | some (off, size), some k =>
      if k.cells.length = size ∧ off + size ≤ cells.length then xJ place (cells.take off ++ k.cells ++ cells.drop (off + size)) rest else none
    | _, _ => none
def rT (P : Program) (t : TypeId) : Option (Nat → Option (Nat × Nat)) :=
  match P.underlying t with
  | some (.struct fs) => if fs.toList.all (fun f => (P.info? f.type).isSome) then some fun i => (fs[i]?).map fun f => (f.offset, P.cellsOf f.type) else none
  | some (.array _ e) => if (P.info? e).isSome then some fun i => some (i * P.cellsOf e, P.cellsOf e) else none
  | _ => none
def ln (P : Program) : Nat → TypeId → List Nat
  | 0, _ => []
  | f + 1, t => match P.underlying t with
    | some (.slice e) => [P.cellsOf e]
    | some (.struct fs) => fs.toList.flatMap fun g => ln P f g.type
    | some (.array n e) => (List.replicate n (ln P f e)).flatten
    | _ => List.replicate (P.cellsOf t) 0
def V.fit (sz : Nat) : V → V
  | .own 0 [] .exact => .own sz [] .exact
  | v => v
def V.isNil : V → Bool
  | .own 0 [] .exact => true
  | _ => false
def BB : List Nat → List V → List V
  | s :: ss, v :: vs => v.fit s :: BB ss vs
  | _, vs => vs
def nj (P : Program) (t : TypeId) (xs : List V) : List V := if xs.any V.isNil then BB (ln P 20 t) xs else xs
def FA (P : Program) (t : TypeId) (x : V) : V :=
  match x with
  | .own 0 [] .exact => match P.underlying t with | some (.slice e) => .own (P.cellsOf e) [] .exact | _ => x
  | _ => x
def Be (P : Program) (t : TypeId) : T → T
  | .k (.v x) => .k (.v (FA P t x))
  | .k (.agg xs) => .k (.agg (nj P t xs))
  | x => x
def ex (P : Program) : List TypeId → List T → List T
  | t :: ts, .k (.agg xs) :: r => .k (.agg (nj P t xs)) :: ex P ts r
  | _ :: ts, x :: r => x :: ex P ts r
  | _, r => r
def oA (P : Program) (t : TypeId) (ps : List (Nat × T)) : List (Nat × T) := ps.map fun p => (p.1, Be P t p.2)
def xH (P : Program) (t : TypeId) : TypeId := match P.underlying t with | some (.slice e) => e | _ => 0
def kz (P : Program) (t : TypeId) : Option (List V) :=
  match (P.info? t).bind (·.zero) with
  | some z => (kS z).map fun k => nj P t k.cells
  | none => none
def xr (P : Program) (t : TypeId) (parts : List (Nat × T)) : Option T :=
  match kz P t, rT P t with
  | some z, some place => (xJ place z parts).map fun cs => .k (.agg (nj P t cs))
  | _, _ => none
def vF (size len : Nat) : List (List C) → List (Nat × T) → Option (List (List C))
  | es, [] => some es
  | es, (i, x) :: rest =>
    match x.k? with
    | some k => match k.cells.mapM V.toC with
      | some e => if e.length = size ∧ i < len then vF size len (es.set i e) rest else none
      | none => none
    | none => none
def nJ (P : Program) (t : TypeId) (len : Nat) (parts : List (Nat × T)) : Option T :=
  match P.underlying t with
  | some (.slice e) =>
    match kz P e with
    | some z => match z.mapM V.toC with
      | some z =>
        if z.length = P.cellsOf e ∧ 0 < P.cellsOf e ∧ len * P.cellsOf e ≤ 16777216 then
          (vF (P.cellsOf e) len (List.replicate len z) parts).map fun es => .k (.v (.own (P.cellsOf e) es .exact))
        else none
      | none => none
    | none => none
  | _ => none
def nF (P : Program) (s : TypeId) (i : Nat) : Option Field :=
  match P.underlying s with
  | some (.struct fs) => fs[i]?
  | _ => none
def jX (P : Program) (s : TypeId) (x : T) (i : Nat) : Option T :=
  match nF P s i, x.cell? with
  | some f, some (.ptr id off) => if P.cellsOf f.type = 0 then none else some (.k (.v (.ptr id (off + f.offset))))
  | some f, some (.c (.rptr cells)) => if P.cellsOf f.type = 0 then none else some (.k (.v (.c (.rptr (cells.drop f.offset)))))
  | _, _ => none
def wm (P : Program) (t : TypeId) (xs : List V) (off : Nat) : Option T :=
  match fY P t with
  | some true => if off + P.cellsOf t ≤ xs.length then some (.k (.agg ((xs.drop off).take (P.cellsOf t)))) else none
  | some false => (xs[off]?).map fun x => .k (.v x)
  | none => none
def wj (P : Program) (s : TypeId) (x : T) (i : Nat) : Option T :=
  match nF P s i, x with
  | some f, .k (.agg xs) => wm P f.type xs f.offset
  | _, _ => none
def iR (i : T) (n : Nat) : Option Nat :=
  match i.int? with
  | some (_, i) => if 0 ≤ i ∧ i < n then some i.toNat else none
  | none => none
def V.sliceOf : V → Option (Nat × List (List C))
  | .c (.slice sz es) => some (sz, es)
  | .own sz es _ => some (sz, es)
  | _ => none
def eq (P : Program) (t : TypeId) (x i : T) : Option T :=
  match P.underlying t with
  | some (.array n e) =>
    if (P.info? e).isNone then none else
    match x.cell? with
    | some (.ptr id off) => (iR i n).map fun j => .k (.v (.ptr id (off + j * P.cellsOf e)))
    | some (.c (.rptr cells)) => (iR i n).map fun j => .k (.v (.c (.rptr (cells.drop (j * P.cellsOf e)))))
    | _ => none
  | some (.slice e) =>
    if (P.info? e).isNone then none else
    match x.cell? with
    | some (.vsl id off sz n) => if sz = P.cellsOf e then (iR i n).map fun j => .k (.v (.ptr id (off + j * sz))) else none
    | some v =>
      match v.sliceOf with
      | some (sz, es) =>
        if sz = P.cellsOf e then
          match iR i es.length with
          | some j => match es[j]? with | some c => some (.k (.v (.c (.rptr c)))) | none => none
          | none => none
        else none
      | none => none
    | none => none
  | _ => none
def qp (P : Program) (t : TypeId) (x i : T) : Option T :=
  match P.underlying t, x with
  | some (.array n e), .k (.agg xs) => match iR i n with | some j => wm P e xs (j * P.cellsOf e) | none => none
  | some .string, .k (.v (.c (.raw (.string s)))) =>
    match iR i s.size with
    | some j => match s[j]? with | some b => some (.pure (.int .u8 b.toNat)) | none => none
    | none => none
  | _, _ => none
def iw (x : Option T) (d top : Nat) : Option Nat :=
  match x with
  | none => some d
  | some x => match x.int? with
    | some (_, i) => if 0 ≤ i ∧ i ≤ top then some i.toNat else none
    | none => none
def pO (P : Program) (t : TypeId) (x : T) (lo hi mx : Option T) : Option T :=
  match P.underlying t, x.cell? with
  | some .string, some (.c (.raw (.string s))) =>
    match mx with
    | some _ => none
    | none => match iw hi s.size s.size with
      | some h => match iw lo 0 h with
        | some l => some (.pure (.string (s.extract l h)))
        | none => none
      | none => none
  | some (.slice e), some v =>
    match v.sliceOf with
    | some (sz, es) =>
      if (sz = P.cellsOf e ∨ es = []) ∧ (P.info? e).isSome = true then
        match mx with
        | some m =>
          match hi with
          | some h =>
            match m.int?, h.int?, iw lo 0 es.length with
            | some (_, p), some (_, q), some l => if p = q ∧ p = (l : Int) then some (.k (.v (.own (P.cellsOf e) [] .exact))) else none
            | _, _, _ => none
          | none => none
        | none => match iw hi es.length es.length with
          | some h => match iw lo 0 h with
            | some l =>
              match v, hi with
              | .own _ _ .exact, none => some (.k (.v (.own (P.cellsOf e) (es.drop l) .exact)))
              | _, _ => some (.k (.v (.c (.slice (P.cellsOf e) ((es.take h).drop l)))))
            | none => none
          | none => none
      else none
    | none => none
  | some (.array n e), some (.ptr id off) =>
    match mx, iw hi n n with
    | none, some h => match iw lo 0 h with
      | some l => if 0 < P.cellsOf e ∧ l < n then some (.k (.v (.vsl id (off + l * P.cellsOf e) (P.cellsOf e) (h - l)))) else none
      | none => none
    | _, _ => none
  | _, _ => none
def iH (x : T) : Option (C ⊕ (Nat × Nat)) :=
  match x.cell? with
  | some (.ptr id off) => some (.inr (id, off))
  | some v => (v.toC).map .inl
  | none => none
def Dp (P : Program) (t : TypeId) (x : T) : Option T :=
  match P.underlying t, x with
  | some .string, .k (.v (.c (.raw (.string s)))) => some (.pure (.int .i64 s.size))
  | some (.array n _), .k _ => some (.pure (.int .i64 n))
  | some (.slice _), .k (.v (.vsl _ _ _ n)) => some (.pure (.int .i64 n))
  | some (.slice _), .k (.v v) => match v.sliceOf with | some (_, es) => some (.pure (.int .i64 es.length)) | none => none
  | some (.map _ _), .k (.v (.c (.map es))) => some (.pure (.int .i64 es.length))
  | _, _ => none
def mF (mn : Bool) (x : T) : List T → Option T
  | [] => some x
  | y :: ys => match x.int?, y.int? with
    | some (k, a), some (k', b) => if k = k' then mF mn (.pure (.int k (if mn then (if b < a then b else a) else (if b > a then b else a)))) ys else none
    | _, _ => none
def uk (q : IntKind) (n : Int) (qv : IntKind) : List (Value × Value) → Option (Int × Bool)
  | [] => some (0, false)
  | (.int a m, .int b x) :: r => if a = q ∧ b = qv then (if n == m then some (x, true) else uk q n qv r) else none
  | _ :: _ => none
def nH (P : Program) (t : TypeId) (x i : T) : Option (IntKind × Int × IntKind × List (Value × Value)) :=
  match P.underlying t with
  | some (.map kt vt) =>
    match P.underlying kt, (P.info? vt).bind (·.zero), x.cell?, i.raw? with
    | some (.int q), some (.int qv z), some (.c (.map es)), some (.int q' n) => if q = q' ∧ z = 0 then some (q, n, qv, es) else none
    | _, _, _, _ => none
  | _ => none
def n9 (qv : IntKind) (ok : Bool) (r : Int × Bool) : T :=
  if ok then .tup [.v (.c (.raw (.int qv r.1))), .v (.c (.raw (.bool r.2)))] else .pure (.int qv r.1)
def nM (P : Program) (t : TypeId) (x i : T) (ok : Bool) : Option T :=
  match nH P t x i with
  | some (q, n, qv, es) => (uk q n qv es).map (n9 qv ok)
  | none => none
def sC : Nat := 1073741824
def fX (P : Program) (t : TypeId) (x : T) : Option (Nat × List (List C)) :=
  match P.underlying t, x.cell? with
  | some (.slice _), some v => v.sliceOf
  | _, _ => none
def gr (P : Program) (m : Mem) (nt : Nat) (argTypes : List TypeId) (args : List T) : Option Eff :=
  match argTypes, args with
  | [t, tx], [s, x] =>
    match P.underlying t, s.cell?, fX P tx x with
    | some (.slice e), some (.own sz es tk), some (sz', fs) =>
      match P.info? e with
      | some i =>
        if 0 < i.size ∧ i.bytes ≤ 131072 ∧ i.zero.map (·.cells.size) = some i.size ∧ (sz = i.size ∨ es = []) ∧ (sz' = i.size ∨ fs = []) ∧ es.length + fs.length ≤ sC then
          match tk with
          | .exact => some { dst := .k (.v (.own i.size (es ++ fs) (.tok nt))), ut := [(nt, (es ++ fs).length)] }
          | .tok j =>
            if sz = i.size ∧ m.tok j = some es.length then some { dst := .k (.v (.own sz (es ++ fs) (.tok j))), ut := [(j, (es ++ fs).length)], rt := [j] } else none
        else none
      | none => none
    | _, _, _ => none
  | _, _ => none
def jx (P : Program) (nv : Nat) (argTypes : List TypeId) (args : List T) : Option Eff :=
  match argTypes, args with
  | [t, tx], [s, x] =>
    match P.underlying t, s.cell?, fX P tx x with
    | some (.slice e), some (.own _ [] .exact), some (sz', fs) =>
      match P.info? e with
      | some i =>
        if 0 < i.size ∧ i.bytes ≤ 131072 ∧ i.zero.map (·.cells.size) = some i.size ∧ sz' = i.size ∧ 0 < fs.length ∧ fs.length ≤ sC then
          some { dst := .k (.v (.vsl nv 0 i.size fs.length)), nv := some (fs.flatten.map .c) }
        else none
      | none => none
    | _, _, _ => none
  | _, _ => none
def kE (E : Env) (o : Oper) : Bool := match o.dst with | some d => E.vs d (3 * o.type) | none => false
def ui (P : Program) (vs : Bool) (nv : Nat) (t : TypeId) (l c : T) : Option Eff :=
  match P.underlying t, l.int?, c.int? with
  | some (.slice e), some (_, x), some (_, y) =>
    match (kz P e).bind (·.mapM V.toC), P.info? e with
    | some z, some i =>
      if (z.length = P.cellsOf e ∧ 0 < P.cellsOf e ∧ i.bytes ≤ 131072) ∧ y = x ∧ 0 ≤ x ∧ x ≤ (sC : Int) then
        (if vs = true then some { dst := .k (.v (.vsl nv 0 (P.cellsOf e) x.toNat)), nv := some ((List.replicate x.toNat z).flatten.map .c) }
        else some { dst := .k (.v (.own (P.cellsOf e) (List.replicate x.toNat z) .exact)) })
      else none
    | _, _ => none
  | _, _, _ => none
def sx (m : Mem) (id off : Nat) : Option (List C) :=
  match m.var id with
  | some xs => (xs.drop off).mapM V.toC
  | none => none
def gb (sz : Nat) : Nat → List C → Option (List (List C))
  | 0, _ => some []
  | n + 1, cs => if sz ≤ cs.length then (gb sz n (cs.drop sz)).map fun r => cs.take sz :: r else none
def kJ (m : Mem) : C ⊕ (Nat × Nat) → Option C
  | .inl x => some x
  | .inr (id, off) => (sx m id off).map .rptr
def fP : C ⊕ (Nat × Nat) → List Nat
  | .inl _ => []
  | .inr (id, _) => [id]
def V.toA : V → Option A
  | .own 0 [] .exact => some .nil
  | v => v.toC.map .c
def bP (P : Program) (m : Mem) : List TypeId → List T → Nat → Option (List A × List (Nat × Nat × List C) × List Nat)
  | [], [], _ => some ([], [], [])
  | t :: ts, x :: xs, k =>
    match x with
    | .k (.agg ys) =>
      match ys.mapM V.toC, bP P m ts xs k with
      | some cs, some (as, ls, rs) => some (.agg cs :: as, ls, rs)
      | _, _ => none
    | .k (.v (.ptr id off)) =>
      match P.underlying t, m.var id with
      | some (.pointer e), some ys =>
        if off + P.cellsOf e ≤ ys.length then
          match ((ys.drop off).take (P.cellsOf e)).mapM V.toC, bP P m ts xs (k + 1) with
          | some cs, some (as, ls, rs) => some (.imp k :: as, (id, off, cs) :: ls, rs)
          | _, _ => none
        else none
      | _, _ => none
    | .k (.v (.vsl id off sz n)) =>
      match sx m id off with
      | some cs => match gb sz n cs, bP P m ts xs k with
        | some es, some (as, ls, rs) => some (.c (.slice sz es) :: as, ls, id :: rs)
        | _, _ => none
      | none => none
    | .k (.v (.clo f caps)) =>
      match caps.mapM (kJ m), bP P m ts xs k with
      | some cs, some (as, ls, rs) => some (.c (.fn f cs) :: as, ls, caps.flatMap fP ++ rs)
      | _, _ => none
    | .k (.v v) =>
      match v.toA, bP P m ts xs k with
      | some c, some (as, ls, rs) => some (c :: as, ls, rs)
      | _, _ => none
    | _ => none
  | _, _, _ => none
def Res.bare : Res → Bool
  | .c (.raw _) => true
  | _ => false
def ga (nt : Nat) : List Res → List K × List (Nat × Nat)
  | [] => ([], [])
  | .c x :: rs => let (ks, ut) := ga nt rs; (.v (.c x) :: ks, ut)
  | .agg xs :: rs => let (ks, ut) := ga nt rs; (.agg (xs.map .c) :: ks, ut)
  | .top sz es :: rs => let (ks, ut) := ga (nt + 1) rs; (.v (.own sz es (.tok nt)) :: ks, (nt, es.length) :: ut)
def uD (ks : List K) : T :=
  match ks with
  | [k] => .k k
  | ks => .tup ks
def cA : List Nat → Bool
  | [] => true
  | x :: xs => !xs.contains x && cA xs
def gm (E : Env) (m : Mem) (nt : Nat) (g : FuncId) (extra : List C) (argTypes : List TypeId) (args : List T) : Option Eff :=
  match bP E.P m argTypes args 0 with
  | some (as, ls, rs) =>
    match E.F g (as ++ extra.map .c) (ls.map (·.2.2)) with
    | some (res, ims) =>
      let r := ga nt res
      match ls, ims with
      | [], [] => if rs.isEmpty || res.all Res.bare then some { dst := uD r.1, ut := r.2, rv := rs } else some { dst := uD r.1, uv := rs.map fun id => (id, []), ut := r.2, rv := rs }
      | [(id, off, cs)], [ds] =>
        match m.var id with
        | some ys => if rs.isEmpty ∧ ds.length = cs.length then some { dst := uD r.1, uv := [(id, ys.take off ++ ds.map .c ++ ys.drop (off + ds.length))], ut := r.2, rv := [id] } else none
        | none => none
      | _, _ => none
    | none => none
  | none => none
def T.isTok : T → Bool
  | .k (.v (.own _ _ (.tok _))) => true
  | _ => false
def tm (m : Mem) : List A → List T → Option (List A × Nat × Nat)
  | a :: as, x :: xs =>
    match x with
    | .k (.v (.own sz es (.tok j))) => if m.tok j = some es.length then some (.top sz es :: as, j, es.length) else none
    | _ => (tm m as xs).map fun r => (a :: r.1, r.2)
  | _, _ => none
def dS (as : List A) : Bool := as.all fun a => match a with | .top _ _ => false | _ => true
def kq (nt j n : Nat) (res : List Res) : Eff := { dst := uD (ga nt res).1, ut := (j, n + 1) :: (ga nt res).2, rt := [j] }
def jF (E : Env) (m : Mem) (nt : Nat) (g : FuncId) (extra : List C) (argTypes : List TypeId) (args : List T) : Option Eff :=
  match bP E.P m argTypes args 0 with
  | some (as, [], []) =>
    match tm m as args with
    | some (as', j, n) =>
      match E.F g (as' ++ extra.map .c) [] with
      | some (res, []) => if j < nt then some (kq nt j n res) else none
      | _ => none
    | none => none
  | _ => none
def l7 (E : Env) (m : Mem) (nt : Nat) (g : FuncId) (extra : List C) (argTypes : List TypeId) (args : List T) : Option Eff :=
  if (E.tp g && args.any T.isTok) = true then jF E m nt g extra argTypes args else gm E m nt g extra argTypes args
def V.weak : V → V
  | .own sz es _ => .c (.slice sz es)
  | x => x
def V.vslIds : V → List Nat
  | .vsl id _ _ _ => [id]
  | _ => []
def V.frz (m : Mem) : V → Option V
  | .vsl id off sz n => match (sx m id off).bind (gb sz n) with | some es => some (.c (.slice sz es)) | none => none
  | x => some x.weak
def tF (E : Env) (o : Oper) : Bool :=
  match o.op with
  | .store t a _ => match a with | .tmp a => E.vs a (3 * t + 2) | _ => false
  | _ => false
def ee (m : Mem) (id off : Nat) (xs ks : List V) : Option Eff :=
  match ks.mapM (V.frz m) with
  | some cs => if (ks.flatMap V.vslIds).contains id then none else some { dst := .skip, uv := (id, xs.take off ++ cs ++ xs.drop (off + cs.length)) :: (ks.flatMap V.vslIds).map (fun i => (i, [])), rv := id :: ks.flatMap V.vslIds }
  | none => none
def gW (nv sz : Nat) (args : List T) : Option Eff :=
  match args with
  | [x] =>
    match x.cell? with
    | some v =>
      match v.sliceOf with
      | some (sz', es) => if sz' = sz ∧ 0 < es.length ∧ es.length ≤ sC then some { dst := .k (.v (.vsl nv 0 sz es.length)), nv := some (es.flatten.map .c) } else none
      | none => none
    | none => none
  | _ => none
def wu (m : Mem) (nv : Nat) : Option (List (List V)) := (List.range nv).mapM m.var
def wg (m : Mem) (nt : Nat) : Option (List Nat) := (List.range nt).mapM m.tok
def zh {α : Type} : Nat → List α → List (Nat × α)
  | _, [] => []
  | i, x :: r => (i, x) :: zh (i + 1) r
def E8 : C ⊕ (Nat × Nat) → K
  | .inl x => .v (.c x)
  | .inr (id, off) => .v (.ptr id off)
def lw (rs : List K) (vs : List (List V)) (ts : List Nat) : Eff := { dst := uD rs, uv := zh 0 vs, ut := zh 0 ts, rt := List.range ts.length, al := true }
def uy (E : Env) (m : Mem) (nv nt : Nat) (g : FuncId) (caps : List (C ⊕ (Nat × Nat))) (args : List T) : Option Eff :=
  match wu m nv, wg m nt, args.mapM T.k? with
  | some vs, some ts, some ks =>
    match E.I g (ks ++ caps.map E8) vs ts with
    | some (rs, vs', ts') => if nv ≤ vs'.length ∧ nt ≤ ts'.length then some (lw rs vs' ts') else none
    | none => none
  | _, _, _ => none
def nE (E : Env) (m : Mem) (nv nt : Nat) (hit : Bool) (f : T) (tys : List TypeId) (args : List T) : Option Eff :=
  match f.cell? with
  | some (.clo g caps) => if hit then (match E.cl g, caps with | some sz, [] => gW nv sz args | _, _ => none) else if E.il g then uy E m nv nt g caps args else match caps with | [] => l7 E m nt g [] tys args | _ => none
  | some (.c (.fn g caps)) => if hit then (match E.cl g, caps with | some sz, [] => gW nv sz args | _, _ => none) else if E.il g then uy E m nv nt g (caps.map .inl) args else l7 E m nt g caps tys args
  | _ => none
def an (E : Env) (m : Mem) (nv nt : Nat) (o : Oper) : Option Eff :=
  let ρ := E.ev m
  match o.op with
  | .move x | .assign x => some { dst := match x with | .const _ => Be E.P o.type (ρ x) | _ => ρ x }
  | .pick c a b => match (ρ c).bool? with | some q => some { dst := if q then ρ a else ρ b } | none => none
  | .alloc t => match kz E.P t with | some cs => some { dst := .k (.v (.ptr nv 0)), nv := some cs } | none => none
  | .box _ x => match (ρ x).k? with | some k => some { dst := .k (.v (.ptr nv 0)), nv := some k.cells } | none => none
  | .build t parts => (xr E.P t (parts.toList.map fun (i, x) => (i, ρ x))).map fun x => { dst := x }
  | .makeSlice t l c => ui E.P (kE E o) nv t (ρ l) (ρ c)
  | .buildSlice t len parts => (nJ E.P t len (oA E.P (xH E.P t) (parts.toList.map fun (i, x) => (i, ρ x)))).map fun x => { dst := x }
  | .load t a =>
    match (ρ a).cell? with
    | some (.ptr id off) => match m.var id with
      | some xs => (na E.P t (xs.drop off)).map fun k => { dst := .k k, rv := [id] }
      | none => none
    | some (.c (.rptr cells)) => (na E.P t (cells.map .c)).map fun k => { dst := .k k }
    | _ => none
  | .store t a x =>
    match (ρ a).cell?, (Be E.P t (ρ x)).k? with
    | some (.ptr id off), some k => match m.var id with
      | some xs => if k.cells.length = E.P.cellsOf t ∧ off + k.cells.length ≤ xs.length ∧ (E.P.info? t).isSome = true then
          if tF E o = true then ee m id off xs k.cells else
          some { dst := .skip, uv := [(id, xs.take off ++ k.cells ++ xs.drop (off + k.cells.length))], rv := [id] } else none
      | none => none
    | _, _ => none
  | .nilCheck x =>
    match (ρ x).cell? with
    | some (.ptr _ _) | some (.c (.rptr _)) | some (.clo _ _) | some (.c (.fn _ _)) => some { dst := ρ x }
    | _ => none
  | .binOp op t x y _ => (Da E.P op t (ρ x) (ρ y)).map fun x => { dst := x }
  | .unOp op _ x => (unT op (ρ x)).map fun x => { dst := x }
  | .convert src dst x => (yB E.P src dst (ρ x)).map fun x => { dst := x }
  | .makeFunc (.func f) first caps => if first.isEmpty then (caps.toList.mapM fun x => iH (ρ x)).map fun cs => { dst := .k (.v (.clo f cs)) } else none
  | .slice t x lo hi mx => (pO E.P t (ρ x) (lo.map ρ) (hi.map ρ) (mx.map ρ)).map fun x => { dst := x }
  | .fieldAddr s x i => (jX E.P s (ρ x) i).map fun x => { dst := x }
  | .field s x i => (wj E.P s (ρ x) i).map fun x => { dst := x }
  | .indexAddr t x i => (eq E.P t (ρ x) (ρ i)).map fun x => { dst := x }
  | .index t x i => (qp E.P t (ρ x) (ρ i)).map fun x => { dst := x }
  | .lookup t x i ok => (nM E.P t (ρ x) (ρ i) ok).map fun x => { dst := x }
  | .extract x i => match ρ x with | .tup ks => (ks[i]?).map fun k => { dst := .k k } | _ => none
  | .call { callee := .builtin .len, args, argTypes } =>
    match argTypes.toList, args.toList with
    | t :: _, [x] => (Dp E.P t (ρ x)).map fun x => { dst := x }
    | _, _ => none
  | .call { callee := .builtin .min, args, argTypes := _ } => match args.toList with | x :: xs => (mF true (ρ x) (xs.map ρ)).map fun x => { dst := x } | [] => none
  | .call { callee := .builtin .max, args, argTypes := _ } => match args.toList with | x :: xs => (mF false (ρ x) (xs.map ρ)).map fun x => { dst := x } | [] => none
  | .call { callee := .builtin .append, args, argTypes } => if kE E o = true then jx E.P nv argTypes.toList (args.toList.map ρ) else gr E.P m nt argTypes.toList (args.toList.map ρ)
  | .call { callee := .value f, args, argTypes } => nE E m nv nt (kE E o) (ρ f) argTypes.toList (ex E.P argTypes.toList (args.toList.map ρ))
  | _ => none
end Go.Dm
namespace Go.Dm
open Go.RowKit
def St.mem (s : St) : Mem := { tmp := fun t => s.tmps.getD t .skip, var := fun i => s.vars[i]?, tok := fun i => s.toks[i]? }
def gq : List (List V) → List (Nat × List V) → Option (List (List V))
  | vs, [] => some vs
  | vs, (i, x) :: r => if i < vs.length then gq (vs.set i x) r else if i = vs.length then gq (vs ++ [x]) r else none
def fS : List Nat → List (Nat × Nat) → Option (List Nat)
  | ts, [] => some ts
  | ts, (i, n) :: r => if i < ts.length then fS (ts.set i n) r else if i = ts.length then fS (ts ++ [n]) r else none
def St.apply (s : St) (d : Option Tmp) (e : Eff) : Option St :=
  match gq s.vars e.uv, fS s.toks e.ut with
  | some vs, some ts =>
    if (e.al && e.nv.isNone) || vs.length == s.vars.length then
    let vs := match e.nv with | some x => vs ++ [x] | none => vs
    match d with
    | some d => if d < s.tmps.length then some ⟨s.tmps.set d e.dst, vs, ts⟩ else none
    | none => some ⟨s.tmps, vs, ts⟩
    else none
  | _, _ => none
def fm (ops : Array Oper) (m : Mem) (o : Oper) : Option Bool :=
  match o.guard with
  | none => some true
  | some (j, want) =>
    match (ops[j]?).bind (·.dst) with
    | none => some false
    | some t => match m.tmp t with
      | .skip => some false
      | x => match x.bool? with
        | some b => some (b == want)
        | none => none
structure Touch where
  wt : Option Tmp
  rt : List Tmp
  wv : List Nat
  rv : List Nat
  wk : List Nat
  rk : List Nat
  al : Bool
  deriving Inhabited
def Touch.of (ops : Array Oper) (o : Oper) (nv : Nat) (e : Eff) : Touch :=
  { wt := o.dst, rt := o.looksAt ops, wv := (if e.nv.isSome then [nv] else []) ++ e.uv.map (·.1), rv := e.rv, wk := e.ut.map (·.1), rk := e.rt, al := e.al }
def CB (xs ys : List Nat) : Bool := xs.any fun x => ys.contains x
def Touch.hits (x y : Touch) : Bool :=
  (match x.wt with | some t => y.rt.contains t || y.wt == some t | none => false) || CB x.wv y.wv || CB x.wv y.rv || CB x.wk y.wk || CB x.wk y.rk
def Touch.clash (x y : Touch) : Bool := (x.al || y.al) || (x.hits y || y.hits x)
def f8 : List Oper → List Nat → List Nat
  | [], acc => acc
  | o :: r, acc => f8 r (acc ++ [o.after.foldl (fun s e => if Region.binds .any e then s ||| 2 ^ e.on ||| acc.getD e.on 0 else s) 0])
def je (masks : List Nat) (x : Touch) (i : Nat) : List Touch → Nat → Bool
  | [], _ => true
  | y :: r, j => (!x.clash y || (masks.getD j 0).testBit i) && je masks x i r (j + 1)
def ix (masks : List Nat) : List Touch → Nat → Bool
  | [], _ => true
  | x :: r, i => je masks x i r (i + 1) && ix masks r (i + 1)
def lP (ops : List Oper) : Bool := ops.zipIdx.all fun (o, i) => o.after.all fun e => !Region.binds .any e || decide (e.on < i)
def jP : Eff := { dst := .skip }
def fk (E : Env) (ops : Array Oper) : List Oper → St → Option (St × List Touch)
  | [], s => some (s, [])
  | o :: rest, s =>
    match fm ops s.mem o with
    | none => none
    | some q =>
      match (if q then an E s.mem s.vars.length s.toks.length o else some jP) with
      | none => none
      | some e =>
        match s.apply o.dst e with
        | none => none
        | some s' =>
          match fk E ops rest s' with
          | none => none
          | some (s'', ts) => some (s'', Touch.of ops o s.vars.length e :: ts)
def fB (E : Env) (ops : Array Oper) (draw : Bool) (s : St) : Option St :=
  match fk E ops ops.toList s with
  | none => none
  | some (s', ts) => if !draw || (ix (f8 ops.toList []) ts 0 && lP ops.toList && E.P.follows .mixedOrders) then some s' else none
structure LoopHint where
  forget : List Tmp := []
  tags : List (Tmp × Nat) := []
  vtags : List (Nat × Nat × Nat) := []
  deriving Inhabited
def aP : Code → Nat
  | .region id _ _ => id
  | .seq a _ => aP a
  | .block _ b => aP b
  | .loop b => aP b
  | _ => 0
def V.old (n : Nat) : V → Bool
  | .ptr id _ => id < n
  | .vsl id _ _ _ => id < n
  | .clo _ caps => caps.all fun | .inr (id, _) => decide (id < n) | .inl _ => true
  | _ => true
def V.untok (k : Nat) : V → V
  | .own sz es (.tok i) => if i < k then .own sz es (.tok i) else .c (.slice sz es)
  | x => x
def K.cut (n k : Nat) : K → Option K
  | .v x => if x.old n then some (.v (x.untok k)) else none
  | .agg xs => if xs.all (V.old n) then some (.agg (xs.map (V.untok k))) else none
def T.cut (n k : Nat) : T → T
  | .k x => match x.cut n k with | some y => .k y | none => .hole
  | .tup ks => match ks.mapM (K.cut n k) with | some ys => .tup ys | none => .hole
  | t => t
def St.cut (n k : Nat) (s : St) : Option St :=
  if (s.vars.take n).all (fun xs => xs.all (V.old n)) then some ⟨s.tmps.map (T.cut n k), (s.vars.take n).map (fun xs => xs.map (V.untok k)), s.toks.take k⟩ else none
def bC : List T → List Tmp → List T
  | ts, [] => ts
  | ts, t :: r => bC (ts.set t .hole) r
def ff : List T → List Nat → List (Tmp × Nat) → List T × List Nat
  | ts, ks, [] => (ts, ks)
  | ts, ks, (t, z) :: r =>
    match ts.getD t .skip with
    | .k (.v (.own sz es .exact)) => ff (ts.set t (.k (.v (.own (if es.isEmpty then z else sz) es (.tok ks.length))))) (ks ++ [es.length]) r
    | _ => ff ts ks r
def fL : List (List V) → List Nat → List (Nat × Nat × Nat) → List (List V) × List Nat
  | vs, ks, [] => (vs, ks)
  | vs, ks, (id, off, z) :: r =>
    match vs[id]? with
    | some xs =>
      match xs[off]? with
      | some (.own sz es .exact) => fL (vs.set id (xs.set off (.own (if es.isEmpty then z else sz) es (.tok ks.length)))) (ks ++ [es.length]) r
      | _ => fL vs ks r
    | none => fL vs ks r
def St.head (h : LoopHint) (s : St) : St :=
  let (ts, ks) := ff s.tmps s.toks h.tags
  let (vs, ks) := fL s.vars ks h.vtags
  ⟨bC ts h.forget, vs, ks⟩
def rx (f : St → Option (Ext × St)) (g : St → Option St) : Nat → St → Option (Ext × St)
  | 0, _ => none
  | n + 1, s =>
    match f s with
    | some (.normal, s') => match g s' with
      | some s'' => rx f g n s''
      | none => none
    | r => r
def aG (E : Env) (H : Nat → LoopHint) (n : Nat) : Code → St → Option (Ext × St)
  | .skip, s => some (.normal, s)
  | .region _ ops draw, s => match fB E ops draw s with | some s' => some (.normal, s') | none => none
  | .seq a b, s =>
    match aG E H n a s with
    | some (.normal, s') => aG E H n b s'
    | r => r
  | .cond c x y, s =>
    match (E.ev s.mem c).bool? with
    | some true => aG E H n x s
    | some false => aG E H n y s
    | none => none
  | .block id b, s =>
    match aG E H n b s with
    | some (.exit i, s') => if i = id then some (.normal, s') else some (.exit i, s')
    | r => r
  | .loop b, s =>
    let h := H (aP b)
    let s1 := s.head h
    rx (fun s => aG E H n b s) (fun s => (s.cut s1.vars.length s1.toks.length).map fun s => { s with tmps := bC s.tmps h.forget }) n s1
  | .exit id, s => some (.exit id, s)
  | .ret, s => some (.ret, s)
  | _, _ => none
def A.toT : A → T
  | .c x => .k (.v (.c x))
  | .agg xs => .k (.agg (xs.map .c))
  | .imp k => .k (.v (.ptr k 0))
  | .nil => .k (.v (.own 0 [] .exact))
  | .top sz es => .k (.v (.own sz es (.tok 0)))
def ck : List A → List Nat
  | [] => []
  | .top _ es :: as => es.length :: ck as
  | _ :: as => ck as
def n5 (s : St) : K → Option Res
  | .v (.own sz es .exact) => some (.top sz es)
  | .v (.own sz es (.tok i)) => if s.toks[i]? = some es.length then some (.top sz es) else some (.c (.slice sz es))
  | .v x => x.toC.map .c
  | .agg xs => (xs.mapM V.toC).map .agg
def lE (P : Program) (s : St) : ResultVar → Option K
  | .tmp t => match s.tmps.getD t .skip with | .k x => some x | _ => none
  | .cell t ty =>
    match s.tmps.getD t .skip with
    | .k (.v (.ptr id off)) => match s.vars[id]? with | some xs => na P ty (xs.drop off) | none => none
    | _ => none
def V.still (s : St) (nl : Nat) : V → V
  | .vsl id off sz n => if nl ≤ id then match (sx s.mem id off).bind (gb sz n) with | some es => .c (.slice sz es) | none => .vsl id off sz n else .vsl id off sz n
  | x => x
def K.still (s : St) (nl : Nat) : K → K
  | .v x => .v (x.still s nl)
  | .agg xs => .agg (xs.map (V.still s nl))
def f6 : List K → List Nat
  | [] => []
  | .v (.own _ _ (.tok i)) :: r => i :: f6 r
  | _ :: r => f6 r
def results? (P : Program) (s : St) (nl : Nat) (rs : List ResultVar) : Option (List Res) :=
  match rs.mapM (lE P s) with
  | some ks => if cA (f6 (ks.map (K.still s nl))) then (ks.map (K.still s nl)).mapM (n5 s) else none
  | none => none
def jv (s : St) : Nat → Nat → Option (List (List C))
  | 0, _ => some []
  | n + 1, k =>
    match s.vars[k]?, jv s n (k + 1) with
    | some xs, some r => match xs.mapM V.toC with | some cs => some (cs :: r) | none => none
    | _, _ => none
def lJ (fn : Func) (as : List A) (ims : List (List C)) : St :=
  { tmps := as.map A.toT ++ List.replicate (fn.ntmps - as.length) .skip, vars := ims.map (fun cs => cs.map .c), toks := ck as }
def mY (E : Env) (H : Nat → LoopHint) (n : Nat) (fn : Func) (as : List A) (ims : List (List C)) : Option (List Res × List (List C)) :=
  match fn.body with
  | none => none
  | some c =>
    match aG E H n c (lJ fn as ims) with
    | some (e, s) =>
      if (e = .normal ∨ e = .ret) ∧ ims.all (fun cs => !cs.isEmpty) = true ∧ (ck as).length ≤ 1 then
        match results? E.P s ims.length fn.results.toList, jv s ims.length 0 with
        | some rs, some r => if r.map List.length = ims.map List.length then some (rs, r) else none
        | _, _ => none
      else none
    | none => none
def pJ (fn : Func) (ks : List K) (vs : List (List V)) (ts : List Nat) : St :=
  { tmps := ks.map .k ++ List.replicate (fn.ntmps - ks.length) .skip, vars := vs, toks := ts }
def gC (E : Env) (H : Nat → LoopHint) (n : Nat) (fn : Func) (ks : List K) (vs : List (List V)) (ts : List Nat) : Option (List K × List (List V) × List Nat) :=
  match fn.body with
  | none => none
  | some c =>
    match aG E H n c (pJ fn ks vs ts) with
    | some (e, s) =>
      if e = .normal ∨ e = .ret then
        match fn.results.toList.mapM (lE E.P s) with
        | some rs => some (rs, s.vars, s.toks)
        | none => none
      else none
    | none => none
end Go.Dm
namespace Go.Dm
open Go.RowKit
def gT (Fr : Nat → Nat → Prop) (w : World) (cs : List C) (p : Nat × Nat) : Prop :=
  (∃ vs : List Value, aJ (C.rep Fr w) cs vs ∧ w.rangeAt p.1 p.2 vs) ∧ w.there p.1 p.2 cs.length ∧ ∀ j, j < cs.length → ¬ Fr p.1 (p.2 + j)
def A.rep (Fr : Nat → Nat → Prop) (w : World) (locs : List (Nat × Nat)) : A → Value → Prop
  | .c x, v => x.rep Fr w v
  | .agg xs, v => ∃ vs : List Value, v = .agg vs.toArray ∧ aJ (C.rep Fr w) xs vs
  | .imp k, v => ∃ b o, locs[k]? = some (b, o) ∧ v = .pointer (some ⟨b, o, none⟩)
  | .nil, v => ∃ a, v = .slice a 0 0
  | .top sz es, v => (C.slice sz es).rep Fr w v ∧ ∃ base cap, v = .slice base es.length cap ∧ es.length ≤ cap ∧ (cap = es.length ∨ ∃ b, base = some ⟨b, 0, none⟩ ∧ (∀ p ∈ locs, p.1 ≠ b) ∧
      (∃ arr e, w.heap[b]? = some (.cells arr e (0, 0)) ∧ cap * sz ≤ arr.size) ∧ ∀ o, es.length * sz ≤ o → ¬ Fr b o)
def FZ (Fr : Nat → Nat → Prop) (N : Nat → Nat → Prop) (w : World) (sz n : Nat) (v : Value) : Prop :=
  ∃ base cap, v = .slice base n cap ∧ n ≤ cap ∧ (cap = n ∨ ∃ b, base = some ⟨b, 0, none⟩ ∧ N b (n * sz) ∧ (∃ arr e, w.heap[b]? = some (.cells arr e (0, 0)) ∧ cap * sz ≤ arr.size) ∧ ∀ o, n * sz ≤ o → ¬ Fr b o)
def Res.rep (Fr : Nat → Nat → Prop) (N : Nat → Nat → Prop) (w : World) : Res → Value → Prop
  | .c x, v => x.rep Fr w v
  | .agg xs, v => ∃ vs : List Value, v = .agg vs.toArray ∧ aJ (C.rep Fr w) xs vs
  | .top sz es, v => (C.slice sz es).rep Fr w v ∧ FZ Fr N w sz es.length v
theorem Res.rep.mono {Fr N N' : Nat → Nat → Prop} {w : World} (hN : ∀ b lo, N b lo → N' b lo) {r : Res} {v : Value} (h : r.rep Fr N w v) : r.rep Fr N' w v := by
  cases r with
  | c x => exact h
  | agg xs => exact h
  | top sz es =>
    obtain ⟨h1, base, cap, h2, h3, h4⟩ := h
    refine ⟨h1, base, cap, h2, h3, ?_⟩
    rcases h4 with h4 | ⟨b, h5, h6, h7⟩
    · exact .inl h4
    · exact .inr ⟨b, h5, hN _ _ h6, h7⟩
def lA (x : A) (v : Value) (b o : Nat) : Prop :=
  match x, v with
  | .top sz es, .slice (some a) _ cap => cap ≠ es.length ∧ a.block = b ∧ es.length * sz ≤ o
  | _, _ => False
def fV : List A → List Value → Nat → Nat → Prop
  | x :: xs, v :: vs, b, o => lA x v b o ∨ fV xs vs b o
  | _, _, _, _ => False
theorem ek : ∀ {xs : List A} {vs : List Value} {b o : Nat}, dS xs = true → ¬ fV xs vs b o
  | [], _, _, _, _, h => by simp [fV] at h
  | _ :: _, [], _, _, _, h => by simp [fV] at h
  | x :: xs, v :: vs, b, o, hn, h => by
    simp only [dS, List.all_cons, Bool.and_eq_true] at hn
    rcases h with h | h
    · cases x <;> first | exact h | (exact Bool.noConfusion hn.1)
    · exact ek (xs := xs) hn.2 h
theorem kv : ∀ {xs ys : List A} {vs us : List Value} {b o : Nat}, xs.length = vs.length → dS ys = true → fV (xs ++ ys) (vs ++ us) b o → fV xs vs b o
  | [], ys, [], us, b, o, _, hn, h => absurd h (ek hn)
  | x :: xs, ys, v :: vs, us, b, o, hl, hn, h => by
    rcases h with h | h
    · exact .inl h
    · exact .inr (kv (by simpa using hl) hn h)
  | [], _, _ :: _, _, _, _, hl, _, _ => by simp at hl
  | _ :: _, _, [], _, _, _, hl, _, _ => by simp at hl
def bK : Value → Option Nat
  | .slice (some a) n cap => if cap = n then none else some a.block
  | _ => none
def dl : List Res → List Value → Prop
  | [], _ => True
  | _ :: _, [] => True
  | .top _ _ :: rs, v :: vs => (∀ (j : Nat) sz es u, rs[j]? = some (.top sz es) → vs[j]? = some u → ∀ b, bK v = some b → bK u ≠ some b) ∧ dl rs vs
  | _ :: rs, _ :: vs => dl rs vs
def mc (vs : List Value) : Value :=
  match vs with
  | [v] => v
  | vs => .tuple vs.toArray
def pl (ims : List (List C)) (locs : List (Nat × Nat)) (b o : Nat) : Prop :=
  ∃ (k : Nat) (cs : List C) (p : Nat × Nat), ims[k]? = some cs ∧ locs[k]? = some p ∧ p.1 = b ∧ p.2 ≤ o ∧ o < p.2 + cs.length
def li (ims : List (List C)) (locs : List (Nat × Nat)) : Prop :=
  ∀ (i j : Nat) cs ds p q, i ≠ j → ims[i]? = some cs → ims[j]? = some ds → locs[i]? = some p → locs[j]? = some q → p.1 ≠ q.1 ∨ p.2 + cs.length ≤ q.2 ∨ q.2 + ds.length ≤ p.2
def cJ (gl : Nat → Option (List C)) (Fr : Nat → Nat → Prop) (w : World) : Prop := ∀ g cs, gl g = some cs → aZ Fr w g cs 0
theorem cJ.mono {gl : Nat → Option (List C)} {Fr Fr' : Nat → Nat → Prop} {w w' : World} (h : cJ gl Fr w) (he : Ev Fr Fr' w w') : cJ gl Fr' w' := fun g cs hg => aZ.mono he g cs 0 (h g cs hg)
def qr (P : Program) (gl : Nat → Option (List C)) (f : FuncId) (xs : List A) (ims : List (List C)) (rs : List Res) (ims' : List (List C)) : Prop :=
  ∀ (Fr : Nat → Nat → Prop) (w : World) (locs : List (Nat × Nat)) (vs : List Value), (∀ b o, Fr b o → b < w.heap.size) → cJ gl Fr w → aJ (gT Fr w) ims locs → li ims locs → aJ (A.rep Fr w locs) xs vs →
    Calls P f vs.toArray w fun e w' => ∃ (us : List Value) (Fr' : Nat → Nat → Prop), e = .returned (mc us) ∧ BelowBut (fun b o => pl ims locs b o ∨ fV xs vs b o) w w' ∧ (∀ b o, Fr b o → Fr' b o) ∧
      (∀ b o, Fr' b o → Fr b o ∨ ((w.heap.size ≤ b ∨ fV xs vs b o) ∧ b < w'.heap.size)) ∧ aJ (Res.rep Fr' (fun b lo => w.heap.size ≤ b ∨ ∀ o, lo ≤ o → fV xs vs b o) w') rs us ∧ dl rs us ∧ aJ (gT Fr' w') ims' locs ∧ ims'.map List.length = ims.map List.length
def s5 (P : Program) (gl : Nat → Option (List C)) (f : FuncId) (xs : List A) (ims : List (List C)) (rs : List Res) (ims' : List (List C)) : Prop :=
  ∀ (Fr : Nat → Nat → Prop) (w : World) (locs : List (Nat × Nat)) (vs : List Value), (∀ b o, Fr b o → b < w.heap.size) → cJ gl Fr w → aJ (gT Fr w) ims locs → li ims locs → aJ (A.rep Fr w locs) xs vs →
    Calls P f vs.toArray w fun e w' => ∃ (us : List Value) (Fr' : Nat → Nat → Prop), e = .returned (mc us) ∧ BelowBut (pl ims locs) w w' ∧ (∀ b o, Fr b o → Fr' b o) ∧
      (∀ b o, Fr' b o → Fr b o ∨ (w.heap.size ≤ b ∧ b < w'.heap.size)) ∧ aJ (Res.rep Fr' (fun b _ => w.heap.size ≤ b) w') rs us ∧ dl rs us ∧ aJ (gT Fr' w') ims' locs ∧ ims'.map List.length = ims.map List.length
theorem qr.plain {P : Program} {gl : Nat → Option (List C)} {f : FuncId} {xs : List A} {ims : List (List C)} {rs : List Res} {ims' : List (List C)} (h : qr P gl f xs ims rs ims') (hn : dS xs = true) : s5 P gl f xs ims rs ims' := by
  intro Fr w locs vs h1 h2 h3 h4 h5
  refine (h Fr w locs vs h1 h2 h3 h4 h5).mono fun e w' hp => ?_
  obtain ⟨us, Fr', he, hb, hf, hf', hr, ht, hl, hi⟩ := hp
  refine ⟨us, Fr', he, hb.mono fun b o hx => hx.resolve_right (ek hn), hf, fun b o hx => ?_, hr.mono fun r u hu => hu.mono fun b lo hx => ?_, ht, hl, hi⟩
  · rcases hf' b o hx with hx | ⟨hx, hy⟩
    · exact .inl hx
    · exact .inr ⟨hx.resolve_right (ek hn), hy⟩
  · rcases hx with hx | hx
    · exact hx
    · exact absurd (hx lo (Nat.le_refl _)) (ek hn)
theorem s5.full {P : Program} {gl : Nat → Option (List C)} {f : FuncId} {xs : List A} {ims : List (List C)} {rs : List Res} {ims' : List (List C)} (h : s5 P gl f xs ims rs ims') : qr P gl f xs ims rs ims' := by
  intro Fr w locs vs h1 h2 h3 h4 h5
  refine (h Fr w locs vs h1 h2 h3 h4 h5).mono fun e w' hp => ?_
  obtain ⟨us, Fr', he, hb, hf, hf', hr, ht, hl, hi⟩ := hp
  refine ⟨us, Fr', he, hb.mono fun b o hx => .inl hx, hf, fun b o hx => ?_, hr.mono fun r u hu => hu.mono fun b lo hx => .inl hx, ht, hl, hi⟩
  rcases hf' b o hx with hx | ⟨hx, hy⟩
  · exact .inl hx
  · exact .inr ⟨.inl hx, hy⟩
def Enters (P : Program) (f : FuncId) : Prop := ∃ fn, P.funcs[f]? = some fn ∧ fn.body.isSome = true ∧ (fn.name == "runtime.NumGoroutine") = false
def AF (P : Program) (gl : Nat → Option (List C)) (f : FuncId) (ks : List K) (vs : List (List V)) (ts : List Nat) (rs : List K) (vs' : List (List V)) (ts' : List Nat) : Prop :=
  ∀ (F : Fm) (γ : Gh) (tmp : Nat → T) (a : Act) (w : World) (us : List Value), Rel F γ ⟨tmp, fun i => vs[i]?, fun i => ts[i]?⟩ a w → cJ gl γ.fr w → F.gn ≤ vs.length → F.gk ≤ ts.length → F.locs.length ≤ vs.length →
    aJ (K.rep γ (fun i => ts[i]?) w) ks us →
    Calls P f us.toArray w fun e w' => ∃ (xs : List Value) (γ' : Gh), e = .returned (mc xs) ∧ Rel F γ' ⟨tmp, fun i => vs'[i]?, fun i => ts'[i]?⟩ a w' ∧ cJ gl γ'.fr w' ∧ aJ (K.rep γ' (fun i => ts'[i]?) w') rs xs
def j5 (P : Program) (f : FuncId) (sz : Nat) : Prop :=
  ∀ (Fr : Nat → Nat → Prop) (w : World) (v : Value) (es : List (List C)), (C.slice sz es).rep Fr w v → 0 < es.length → es.length ≤ sC →
    Calls P f #[v] w fun e w' => ∃ (w1 : World) (cap : Nat) (news : List Value), e = .returned (.slice (some ⟨w1.heap.size, 0, none⟩) es.length cap) ∧ es.length ≤ cap ∧ Below w.heap.size w w1 ∧ Below w1.heap.size w1 w' ∧ aJ (C.rep Fr w1) es.flatten news ∧
      w'.rangeAt w1.heap.size 0 news ∧ w'.there w1.heap.size 0 news.length ∧ w1.heap.size < w'.heap.size
structure EnvOk (E : Env) : Prop where
  cln : ∀ f sz, E.cl f = some sz → Enters E.P f ∧ j5 E.P f sz
  inl : ∀ f ks vs ts rs vs' ts', E.I f ks vs ts = some (rs, vs', ts') → Enters E.P f ∧ AF E.P E.gl f ks vs ts rs vs' ts'
  call : ∀ f xs ims rs ims', E.F f xs ims = some (rs, ims') → Enters E.P f ∧ qr E.P E.gl f xs ims rs ims'
theorem tO {v : Value} (h : vS v = true) : v.oneCell' = true := by
  cases v <;> simp_all [vS, Value.oneCell']
theorem lF {γ : Gh} {tok : Nat → Option Nat} {w : World} {v : Value} {x : V} (h : ofValue v = some x) : x.rep γ tok w v := by
  unfold ofValue at h
  split at h
  · cases h
    exact ⟨by simp only [C.rep]; exact ⟨none, 0, 0, rfl, rfl, Nat.le_refl _, .inl ⟨rfl, rfl⟩⟩, none, 0, rfl⟩
  · split at h
    · cases h; simp only [V.rep, C.rep, true_and]; exact tO (by assumption)
    · cases h
theorem pM {α β : Type} {R : β → α → Prop} {f : α → Option β} (hf : ∀ a b, f a = some b → R b a) : ∀ {xs : List α} {ys : List β}, xs.mapM f = some ys → aJ R ys xs
  | [], ys, h => by simp at h; subst h; trivial
  | x :: xs, ys, h => by
    rw [List.mapM_cons] at h
    simp only [Option.pure_def, Option.bind_eq_bind, Option.bind_eq_some_iff, Option.some.injEq] at h
    obtain ⟨y, hy, zs, hz, rfl⟩ := h
    exact ⟨hf _ _ hy, pM hf hz⟩
theorem jZ {γ : Gh} {tok : Nat → Option Nat} {w : World} {v : Value} {x : K} (h : kS v = some x) : x.rep γ tok w v := by
  unfold kS at h
  split at h
  · rename_i cs
    simp only [Option.map_eq_some_iff] at h
    obtain ⟨xs, hx, rfl⟩ := h
    exact ⟨cs.toList, by simp, pM (R := V.rep γ tok w) (fun a b hab => lF hab) hx⟩
  · simp only [Option.map_eq_some_iff] at h
    obtain ⟨x, hx, rfl⟩ := h
    exact lF hx
theorem V.fit_rep {γ : Gh} {tok : Nat → Option Nat} {w : World} {sz : Nat} {x : V} {v : Value} (h : x.rep γ tok w v) : (x.fit sz).rep γ tok w v := by
  unfold V.fit
  split
  · simp only [V.rep, ig] at h ⊢
    refine ⟨?_, h.2⟩
    have h1 := h.1
    simp only [C.rep] at h1 ⊢
    obtain ⟨a', len, cap, heq, h3, h4, h5⟩ := h1
    refine ⟨a', len, cap, heq, h3, h4, ?_⟩
    rcases h5 with h5 | ⟨b, o, h5, _⟩
    · exact .inl h5
    · exact .inr ⟨b, o, h5, by simp only [be]⟩
  · exact h
theorem pL {γ : Gh} {tok : Nat → Option Nat} {w : World} : ∀ {ss : List Nat} {xs : List V} {vs : List Value}, aJ (V.rep γ tok w) xs vs → aJ (V.rep γ tok w) (BB ss xs) vs
  | [], xs, vs, h => by cases xs <;> exact h
  | _ :: _, [], [], h => h
  | _ :: _, _ :: _, _ :: _, h => ⟨V.fit_rep h.1, pL h.2⟩
  | _ :: _, [], _ :: _, h => h.elim
  | _ :: _, _ :: _, [], h => h.elim
theorem gI {P : Program} {t : TypeId} {γ : Gh} {tok : Nat → Option Nat} {w : World} {xs : List V} {vs : List Value} (h : aJ (V.rep γ tok w) xs vs) : aJ (V.rep γ tok w) (nj P t xs) vs := by
  unfold nj
  split
  · exact pL h
  · exact h
theorem yV {P : Program} {t : TypeId} {γ : Gh} {tok : Nat → Option Nat} {w : World} {x : V} {v : Value} (h : x.rep γ tok w v) : (FA P t x).rep γ tok w v := by
  unfold FA
  split
  · split
    · exact V.fit_rep (sz := _) h
    · exact h
  · exact h
theorem gF {P : Program} {t : TypeId} {γ : Gh} {tok : Nat → Option Nat} {w : World} {x : T} {v : Value} (h : x.rep γ tok w v) : (Be P t x).rep γ tok w v := by
  unfold Be
  split
  · exact yV h
  · obtain ⟨vs, rfl, h⟩ := h
    exact ⟨vs, rfl, gI h⟩
  · exact h
theorem dI {P : Program} {γ : Gh} {tok : Nat → Option Nat} {w : World} : ∀ {ts : List TypeId} {xs : List T} {vs : List Value}, aJ (T.rep γ tok w) xs vs → aJ (T.rep γ tok w) (ex P ts xs) vs
  | [], xs, vs, h => by cases xs <;> exact h
  | _ :: _, [], [], h => h
  | _ :: _, x :: xs, v :: vs, h => by
    cases x with
    | k y => cases y with
      | agg ys => exact ⟨gF (x := .k (.agg ys)) h.1, dI h.2⟩
      | v y => exact ⟨h.1, dI h.2⟩
    | tup ks => exact ⟨h.1, dI h.2⟩
    | hole => exact ⟨h.1, dI h.2⟩
    | skip => exact ⟨h.1, dI h.2⟩
  | _ :: _, [], _ :: _, h => h.elim
  | _ :: _, _ :: _, [], h => h.elim
theorem dZ {E : Env} {F : Fm} {γ : Gh} {m : Mem} {a : Act} {w : World} (h : Rel F γ m a w) (hg : cJ E.gl γ.fr w) (x : Operand) : (E.ev m x).rep γ m.tok w (a.eval x) := by
  cases x with
  | tmp t => exact h.tmps t
  | const v =>
    simp only [Env.ev, Act.eval]
    split
    · rename_i k hk; exact jZ hk
    · trivial
  | global g =>
    simp only [Env.ev, Act.eval]
    split
    · rename_i cs hcs
      simp only [T.rep, K.rep, V.rep, C.rep]
      exact ⟨g, 0, rfl, hg g cs hcs⟩
    · trivial
  | func f =>
    simp only [Env.ev, Act.eval, T.rep, K.rep, V.rep]
    exact ⟨[], rfl, trivial⟩
theorem cell?_eq {t : T} {x : V} (h : t.cell? = some x) : t = .k (.v x) := by
  unfold T.cell? at h
  split at h <;> cases h; rfl
theorem k?_eq {t : T} {x : K} (h : t.k? = some x) : t = .k x := by
  unfold T.k? at h
  split at h <;> cases h; rfl
theorem raw?_eq {t : T} {x : Value} (h : t.raw? = some x) : t = .pure x := by
  unfold T.raw? at h
  split at h <;> cases h; rfl
theorem int?_eq {t : T} {q : IntKind} {n : Int} (h : t.int? = some (q, n)) : t = .pure (.int q n) := by
  unfold T.int? at h
  split at h
  · rename_i hr; cases h; exact raw?_eq hr
  · cases h
theorem bool?_eq {t : T} {b : Bool} (h : t.bool? = some b) : t = .pure (.bool b) := by
  unfold T.bool? at h
  split at h
  · rename_i hr; cases h; exact raw?_eq hr
  · cases h
theorem aL {γ : Gh} {tok : Nat → Option Nat} {w : World} {v u : Value} : (T.pure v).rep γ tok w u ↔ u = v ∧ v.oneCell' = true := by
  simp only [T.pure, T.rep, K.rep, V.rep, C.rep]
def lk {α : Type} : List (Nat × α) → Nat → Option α
  | [], _ => none
  | (i, x) :: r, j => match lk r j with | some y => some y | none => if i = j then some x else none
def Mem.apply (m : Mem) (d : Option Tmp) (nv : Nat) (e : Eff) : Mem :=
  { tmp := fun t => if d = some t then e.dst else m.tmp t
    var := fun i => if i = nv ∧ e.nv.isSome then e.nv else match lk e.uv i with | some x => some x | none => m.var i
    tok := fun i => match lk e.ut i with | some n => some n | none => m.tok i }
theorem Mem.apply_pure (m : Mem) (d : Option Tmp) (nv : Nat) (x : T) (rv rt : List Nat) : m.apply d nv { dst := x, rv, rt } = m.put d x := by
  cases d with
  | none => simp [Mem.apply, Mem.put, lk]
  | some d =>
    simp only [Mem.apply, Mem.put, lk, Option.isSome_none, Bool.false_eq_true, and_false, if_false, Option.some.injEq]
    congr 1
    funext t
    by_cases h : d = t
    · simp [h]
    · simp [h, Ne.symm h]
def ed (E : Env) (F : Fm) (m' : Mem) (a' : Act) (w' : World) : Prop :=
  ∃ γ' : Gh, Rel F γ' m' a' w' ∧ cJ E.gl γ'.fr w'
theorem d8 {P : Program} {o : Oper} {a : Act} {w w' : World} {v : Value} {K : Act → World → Prop} {Q : Exit → Act → World → Prop} (hrun : (execOp a.eval o).run P w = .ok (.value v) w') (hK : K (a.put o.dst v) w') : o.wp P a w K Q := by
  unfold Oper.wp
  rw [hrun]
  exact hK
theorem aR {E : Env} {F : Fm} {γ : Gh} {m : Mem} {a : Act} {w : World} (h : Rel F γ m a w) (hg : cJ E.gl γ.fr w) {o : Oper} (hd : ∀ t, o.dst = some t → t < F.n) {x : T} {v : Value} {nv : Nat} {rv rt : List Nat}
    (hrun : (execOp a.eval o).run E.P w = .ok (.value v) w) (hx : x.rep γ m.tok w v) {Q : Exit → Act → World → Prop} :
    o.wp E.P a w (ed E F (m.apply o.dst nv { dst := x, rv, rt })) Q :=
  d8 hrun ⟨γ, by rw [Mem.apply_pure]; exact h.put hd hx, hg⟩
theorem V.cells_rep {γ : Gh} {tok : Nat → Option Nat} {w : World} {cs : List C} {vs : List Value} (h : aJ (C.rep γ.fr w) cs vs) : aJ (V.rep γ tok w) (cs.map .c) vs := by
  apply aJ.map_left
  exact h.mono (fun a b hab => by simpa only [V.rep] using hab)
theorem eY {w : World} {b o : Nat} {vs : List Value} (h : w.rangeAt b o vs) (n : Nat) : w.rangeAt b (o + n) (vs.drop n) := fun j v hv => by
  rw [List.getElem?_drop] at hv
  have := h _ v hv
  rwa [show o + (n + j) = o + n + j by omega] at this
theorem kr {w : World} {b o : Nat} {vs : List Value} (h : w.rangeAt b o vs) (n : Nat) : w.rangeAt b o (vs.take n) := fun j v hv => by
  rw [List.getElem?_take] at hv
  split at hv
  · exact h j v hv
  · cases hv
theorem cy {P : Program} {t : TypeId} {d : TypeDesc} (h : P.underlying t = some d) : ∃ i, P.info? t = some i := by
  unfold Program.underlying at h
  split at h
  · rename_i i _; exact ⟨_, by assumption⟩
  · rename_i i _ _; exact ⟨_, by assumption⟩
  · cases h
theorem j2 {P : Program} {t : TypeId} {i : TypeInfo} (h : P.info? t = some i) : P.cellsOf t = i.size := by simp [Program.cellsOf, h]
theorem bn {P : Program} {t : TypeId} {i : TypeInfo} (h : P.info? t = some i) (w : World) : (sizeOf t).run P w = .ok (P.cellsOf t) w := by
  simp [sizeOf, typeInfo, h, j2 h]
theorem i5 {P : Program} {t : TypeId} {d : TypeDesc} (h : P.underlying t = some d) (w : World) : (isAgg t).run P w = .ok d.isRow w := by
  unfold isAgg
  rw [Sem.run_bind, run_underlying h w]
  cases d <;> simp
theorem jU {P : Program} {γ : Gh} {tok : Nat → Option Nat} {w : World} {t : TypeId} {xs : List V} {vs : List Value} {k : K} {b o : Nat} (h : na P t xs = some k) (hx : aJ (V.rep γ tok w) xs vs) (hr : w.rangeAt b o vs) :
    ∃ v, (Instr.loadAt t (.pointer (some ⟨b, o, none⟩))).run P w = .ok v w ∧ k.rep γ tok w v := by
  unfold na fY at h
  cases hu : P.underlying t with
  | none => simp [hu] at h
  | some d =>
    obtain ⟨i, hi⟩ := cy hu
    cases hd : d.isRow with
    | true =>
      simp only [hu, Option.map_some, hd] at h
      split at h
      · rename_i hle
        cases h
        have hlen := hx.length
        have hl2 : (vs.take (P.cellsOf t)).length = P.cellsOf t := by rw [List.length_take]; omega
        refine ⟨.agg (vs.take (P.cellsOf t)).toArray, ?_, ⟨_, rfl, hx.take _⟩⟩
        exact run_loadAt_mid w b o t _ d (kr hr _) hu hd (by rw [hi, hl2, j2 hi]; rfl)
      · cases h
    | false =>
      simp only [hu, Option.map_some, hd] at h
      cases xs with
      | nil => simp at h
      | cons x xs =>
        cases vs with
        | nil => exact hx.elim
        | cons v vs =>
          simp at h
          subst h
          refine ⟨v, ?_, hx.1⟩
          have hc := hr 0 v rfl
          simp only [Instr.loadAt, Instr.sureAddr, loadVar, Sem.run_bind, Sem.run_pure, Result.andThen_ok, i5 hu, hd, Bool.false_eq_true, if_false, run_load]
          rw [show (⟨b, o, none⟩ : Addr) = ⟨b, o + 0, none⟩ from rfl, hc]
theorem tV {E : Env} {F : Fm} {γ : Gh} {m : Mem} {a : Act} {w : World} (h : Rel F γ m a w) (hg : cJ E.gl γ.fr w) {o : Oper} (hd : ∀ t, o.dst = some t → t < F.n) {nv nt : Nat} {t : TypeId} {x : Operand} (ho : o.op = .load t x) {e : Eff}
    (he : an E m nv nt o = some e) {Q : Exit → Act → World → Prop} : o.wp E.P a w (ed E F (m.apply o.dst nv e)) Q := by
  have hx := dZ h hg x
  simp only [an, ho] at he
  split at he
  · rename_i id off hc
    rw [cell?_eq hc] at hx
    simp only [T.rep, K.rep, V.rep] at hx
    obtain ⟨b, o', hl, hp⟩ := hx
    split at he
    · rename_i xs hv
      simp only [Option.map_eq_some_iff] at he
      obtain ⟨k, hk, rfl⟩ := he
      obtain ⟨b', o'', h1, ⟨vs, h2, h3⟩, _⟩ := h.vars id xs hv
      rw [hl] at h1; cases h1
      obtain ⟨v, hrun, hrep⟩ := jU hk (h2.drop off) (eY h3 off)
      refine aR h hg hd (v := v) ?_ (by simpa only [T.rep] using hrep)
      simp only [execOp, ho, hp, Sem.run_bind, hrun, Result.andThen_ok, Sem.run_pure]
    · cases he
  · rename_i cells hc
    rw [cell?_eq hc] at hx
    simp only [T.rep, K.rep, V.rep, C.rep] at hx
    obtain ⟨b, o', hp, hcs⟩ := hx
    simp only [Option.map_eq_some_iff] at he
    obtain ⟨k, hk, rfl⟩ := he
    obtain ⟨vs, h2, h3⟩ := gB hcs
    obtain ⟨v, hrun, hrep⟩ := jU (γ := γ) (tok := m.tok) hk (V.cells_rep h2) h3
    refine aR h hg hd (v := v) ?_ (by simpa only [T.rep] using hrep)
    simp only [execOp, ho, hp, Sem.run_bind, hrun, Result.andThen_ok, Sem.run_pure]
  · cases he
end Go.Dm
namespace Go.Dm
open Go.RowKit
def pt (d : TypeDesc) (xs : List Value) : Value := if d.isRow then .agg xs.toArray else xs.headD undef
theorem kP {P : Program} {t : TypeId} {d : TypeDesc} (hu : P.underlying t = some d) (xs : List Value) (off : Nat) (w : World) (h : d.isRow = true ∨ (off < xs.length ∧ P.cellsOf t ≠ 0)) :
    (part t xs.toArray off).run P w = .ok (pt d ((xs.drop off).take (P.cellsOf t))) w := by
  obtain ⟨i, hi⟩ := cy hu
  unfold part pt
  simp only [Sem.run_bind, i5 hu, Result.andThen_ok]
  cases hd : d.isRow with
  | true =>
    simp only [if_true, Sem.run_bind, bn hi, Result.andThen_ok, Sem.run_pure]
    congr 2
    apply Array.ext'
    simp [List.extract_eq_take_drop]
  | false =>
    obtain ⟨hlt, hz⟩ : off < xs.length ∧ P.cellsOf t ≠ 0 := by
      rcases h with h | h
      · rw [hd] at h; cases h
      · exact h
    have : ((xs.drop off).take (P.cellsOf t)).head?.getD undef = xs[off] := by
      obtain ⟨n, hn⟩ : ∃ n, P.cellsOf t = n + 1 := ⟨P.cellsOf t - 1, by omega⟩
      rw [hn, List.drop_eq_getElem_cons hlt]
      rfl
    simp [this, hlt]
theorem pa {P : Program} {f : Nat} {t : TypeId} {xs ys : List Value} {r : Bool} {d : TypeDesc} (hu : P.underlying t = some d) (hd : d.isRow = false) (h : fy P f t xs ys = some r) : xs.length = 1 ∧ ys.length = 1 := by
  cases f with
  | zero => simp [fy] at h
  | succ f =>
    cases d <;> simp [TypeDesc.isRow] at hd <;> simp only [fy, hu] at h <;> (try (cases h; done)) <;> (split at h <;> (try (cases h; done)) <;> simp)
theorem dC {P : Program} {f : Nat} {t : TypeId} {xs ys : List Value} {r : Bool} (h : fy P f t xs ys = some r) : ∃ d, P.underlying t = some d := by
  cases f with
  | zero => simp [fy] at h
  | succ f =>
    cases hu : P.underlying t with
    | none => simp [fy, hu] at h
    | some d => exact ⟨d, rfl⟩
theorem xi {P : Program} {f : Nat} {t : TypeId} {xs ys : List Value} {r : Bool} {d : TypeDesc} {off : Nat} (hu : P.underlying t = some d) (h : fy P f t ((xs.drop off).take (P.cellsOf t)) ((ys.drop off).take (P.cellsOf t)) = some r) (w : World) :
    (part t xs.toArray off).run P w = .ok (pt d ((xs.drop off).take (P.cellsOf t))) w ∧ (part t ys.toArray off).run P w = .ok (pt d ((ys.drop off).take (P.cellsOf t))) w := by
  cases hd : d.isRow with
  | true => exact ⟨kP hu _ _ w (.inl hd), kP hu _ _ w (.inl hd)⟩
  | false =>
    obtain ⟨h1, h2⟩ := pa hu hd h
    simp only [List.length_take, List.length_drop] at h1 h2
    exact ⟨kP hu _ _ w (.inr ⟨by omega, by omega⟩), kP hu _ _ w (.inr ⟨by omega, by omega⟩)⟩
theorem jG {P : Program} : ∀ (f d : Nat) (t : TypeId) (xs ys : List Value) (r : Bool) (w : World) (td : TypeDesc), f ≤ d → P.underlying t = some td → fy P f t xs ys = some r →
    (Op.equalIn d t (pt td xs) (pt td ys)).run P w = .ok r w
  | 0, _, _, _, _, _, _, _, _, _, h => by simp [fy] at h
  | f + 1, d, t, xs, ys, r, w, td, hfd, hu, h => by
    obtain ⟨d, rfl⟩ : ∃ d', d = d' + 1 := ⟨d - 1, by omega⟩
    have hfd' : f ≤ d := by omega
    simp only [fy, hu] at h
    split at h
    · rename_i he; cases he
      split at h
      · cases h; exact run_equalIn_bool w d t _ _ hu
      · cases h
    · rename_i he; cases he
      split at h
      · split at h
        · rename_i hk; cases h; subst hk; exact run_equalIn_int w d t _ _ _ _ hu
        · cases h
      · cases h
    · rename_i he; cases he
      split at h
      · cases h
        simp [pt, TypeDesc.isRow, Op.equalIn, run_underlying hu]
      · cases h
    · rename_i fs he; cases he
      split at h
      · cases h
      · rename_i hs
        have hf : P.fieldsOf t = fs := by simp [Program.fieldsOf, hu]
        have ht : P.underlying t = some (.struct (P.fieldsOf t)) := by rw [hf]; exact hu
        show (Op.equalIn (d + 1) t (.agg xs.toArray) (.agg ys.toArray)).run P w = _
        rw [run_equalIn_struct w d t _ _ ht (by simpa using hs), hf]
        clear ht hf hu
        generalize fs.toList = l at h
        induction l generalizing r with
        | nil => simp at h; subst h; simp [Op.eqFields]
        | cons g l ih =>
          simp only [List.foldr_cons] at h
          split at h
          · cases h
          · rename_i hn
            split at h
            · rename_i a b h1 h2
              cases h
              obtain ⟨td, hg⟩ := dC h1
              obtain ⟨p1, p2⟩ := xi hg h1 w
              have p3 := jG f d g.type _ _ a w td hfd' hg h1
              have p4 := ih b h2
              simp only [Op.eqFields, hn, ne_eq, not_false_eq_true, if_true, Sem.run_bind, p1, p2, p3, p4, Result.andThen_ok, Sem.run_ite, Sem.run_pure]
              cases a <;> simp
            · cases h
    · rename_i n e he; cases he
      show (Op.equalIn (d + 1) t (.agg xs.toArray) (.agg ys.toArray)).run P w = _
      split at h
      · cases h
      · rename_i hi
        obtain ⟨i, hi⟩ : ∃ i, P.info? e = some i := by
          cases hq : P.info? e with
          | none => simp [hq] at hi
          | some i => exact ⟨i, rfl⟩
        rw [run_equalIn_array w d _ _ hu hi]
        clear hu
        generalize List.range n = l at h
        induction l generalizing r with
        | nil => simp at h; subst h; simp [Op.eqItems]
        | cons j l ih =>
          simp only [List.foldr_cons] at h
          split at h
          · rename_i a b h1 h2
            cases h
            obtain ⟨td, hg⟩ := dC h1
            obtain ⟨p1, p2⟩ := xi hg h1 w
            have p3 := jG f d e _ _ a w td hfd' hg h1
            have p4 := ih b h2
            simp only [Op.eqItems, Sem.run_bind, p1, p2, p3, p4, Result.andThen_ok, Sem.run_ite, Sem.run_pure]
            cases a <;> simp
          · cases h
    · cases h
end Go.Dm
namespace Go.Dm
open Go.RowKit
theorem eD {P : Program} {op : BinOp} {t : TypeId} {x y : Operand} {a b : Value} (w : World) (h : (tu a && tu b) || (match a, b with | .string _, .string _ => true | .bool _, .bool _ => true | _, _ => false) = true) :
    (eqGuard op t x y a b).run P w = .ok () w := by
  unfold eqGuard
  cases a <;> cases b <;> simp [tu] at h <;> (split <;> rfl)
theorem tZ {P : Program} {op : BinOp} {t : TypeId} {k : IntKind} {a b : Int} {r : Value} (w : World) (h : mR op k a b = some r) : (binOp op t (.int k a) (.int k b)).run P w = .ok r w := by
  cases op <;> simp only [mR, reduceCtorEq, Option.some.injEq] at h
  case quo | rem =>
    split at h
    · cases h
    · rename_i hb; cases h; simp [binOp, Op.intDiv, hb]
  all_goals (first | (subst h; simp [binOp, Op.intArith, Op.intCmp, Op.intBits, pD]; done) | (cases h; done))
theorem kb {P : Program} {op : BinOp} {t : TypeId} {k k' : IntKind} {a b : Int} {r : Value} (w : World) (h : fM op k a b = some r) : (binOp op t (.int k a) (.int k' b)).run P w = .ok r w := by
  unfold fM at h
  split at h
  · cases h
  · rename_i hb
    cases op <;> simp only [reduceCtorEq, Option.some.injEq] at h <;> subst h <;> simp [binOp, Op.shift, hb]
theorem ur {P : Program} {op : BinOp} {t : TypeId} {a b : ByteArray} {r : Value} (w : World) (h : qf op a b = some r) : (binOp op t (.string a) (.string b)).run P w = .ok r w := by
  cases op <;> simp only [qf, reduceCtorEq, Option.some.injEq] at h
  case add =>
    split at h
    · rename_i hle
      cases h
      have hmax : IntKind.i64.max = 9223372036854775807 := by decide
      have : ¬ (9223372036854775807 < ((a.size : Int) + (b.size : Int))) := by omega
      simp [binOp, Op.stringOp, hmax, this]
    · cases h
  case eql => subst h; simp [binOp, Op.stringOp, beq_toListBytes]
  case neq => subst h; simp [binOp, Op.stringOp, beq_toListBytes]
theorem uc {P : Program} {op : BinOp} {t : TypeId} {x y : Operand} {a b : Value} {r : Value} (w : World) (h : ky op a b = some r) :
    (do eqGuard op t x y a b; binOp op t a b : Sem Value).run P w = .ok r w := by
  unfold ky at h
  split at h
  · rename_i k a k' b
    rw [Sem.run_bind, eD w (by simp [tu]), Result.andThen_ok]
    split at h
    · exact kb w h
    · exact kb w h
    · split at h
      · rename_i hk; subst hk; exact tZ w h
      · cases h
  · rename_i a b
    rw [Sem.run_bind, eD w (by simp [tu]), Result.andThen_ok]
    exact ur w h
  · cases h
theorem tw {op : BinOp} {a b r : Value} (h : ky op a b = some r) : r.oneCell' = true := by
  unfold ky at h
  split at h
  · split at h
    · unfold fM at h; split at h <;> simp at h; subst h; rfl
    · unfold fM at h; split at h <;> simp at h; subst h; rfl
    · split at h
      · cases op <;> simp only [mR, reduceCtorEq, Option.some.injEq] at h <;> (try (split at h <;> simp at h)) <;> (try (subst h; rfl))
      · cases h
  · cases op <;> simp only [qf, reduceCtorEq, Option.some.injEq] at h <;> (try (split at h <;> simp at h)) <;> (try (subst h; rfl))
  · cases h
theorem oa {γ : Gh} {tok : Nat → Option Nat} {w : World} : ∀ {xs : List V} {as : List Value} {vs : List Value}, xs.mapM V.raw? = some as → aJ (V.rep γ tok w) xs vs → vs = as
  | [], as, [], h, _ => by simp at h; exact h.symm
  | x :: xs, as, v :: vs, h, hr => by
    rw [List.mapM_cons] at h
    simp only [Option.pure_def, Option.bind_eq_bind, Option.bind_eq_some_iff, Option.some.injEq] at h
    obtain ⟨y, hy, zs, hz, rfl⟩ := h
    have := oa hz hr.2
    subst this
    unfold V.raw? at hy
    split at hy
    · cases hy
      have h1 := hr.1
      simp only [V.rep, C.rep] at h1
      rw [h1.1]
    · cases hy
  | [], _, _ :: _, _, h => h.elim
  | _ :: _, _, [], _, h => h.elim
theorem ul {P : Program} {γ : Gh} {tok : Nat → Option Nat} {w : World} {op : BinOp} {t : TypeId} {x y : T} {ox oy : Operand} {a b : Value} {r : T} (h : Da P op t x y = some r) (hx : x.rep γ tok w a) (hy : y.rep γ tok w b) :
    ∃ v, (do eqGuard op t ox oy a b; binOp op t a b : Sem Value).run P w = .ok v w ∧ r.rep γ tok w v := by
  unfold Da at h
  split at h
  · rename_i p q
    simp only [T.rep, K.rep, V.rep, C.rep] at hx hy
    obtain ⟨rfl, ha⟩ := hx
    obtain ⟨rfl, hb⟩ := hy
    split at h
    · rename_i p q
      have hgd : (eqGuard op t ox oy (.bool p) (.bool q)).run P w = .ok () w := eD w (by simp [tu])
      split at h
      · rename_i hu
        cases h
        refine ⟨.bool (p == q), ?_, aL.2 ⟨rfl, rfl⟩⟩
        rw [Sem.run_bind, hgd, Result.andThen_ok]
        simp only [binOp, Sem.run_bind, run_equal_bool w t p q hu, Result.andThen_ok, Sem.run_pure]
      · rename_i hu
        cases h
        refine ⟨.bool (!(p == q)), ?_, aL.2 ⟨rfl, rfl⟩⟩
        rw [Sem.run_bind, hgd, Result.andThen_ok]
        simp only [binOp, Sem.run_bind, run_equal_bool w t p q hu, Result.andThen_ok, Sem.run_pure]
      · cases h
    · simp only [Option.map_eq_some_iff] at h
      obtain ⟨v, hv, rfl⟩ := h
      exact ⟨v, uc w hv, aL.2 ⟨rfl, tw hv⟩⟩
  · rename_i xs ys
    simp only [T.rep, K.rep] at hx hy
    obtain ⟨vs, rfl, hvs⟩ := hx
    obtain ⟨us, rfl, hus⟩ := hy
    split at h
    · rename_i as bs h1 h2
      have e1 := oa h1 hvs
      have e2 := oa h2 hus
      subst e1; subst e2
      split at h
      · cases h
      · rename_i hgd
        split at h
        · rename_i r' hr
          obtain ⟨td, htd⟩ := dC hr
          have hrow : td.isRow = true := by
            simp only [not_or, ne_eq, Decidable.not_not, fY, htd, Option.map_some, Option.some.injEq] at hgd
            exact hgd.2
          have hguard : (eqGuard op t ox oy (.agg vs.toArray) (.agg us.toArray)).run P w = .ok () w := by
            unfold eqGuard
            simp only [Sem.run_ite]
            have hg2 := (not_or.1 hgd).1
            split <;> simp [hg2]
          have heq := jG 100 10000 t vs us r' w td (by omega) htd hr
          simp only [pt, hrow, if_true] at heq
          split at h
          · cases h
            refine ⟨.bool r', ?_, aL.2 ⟨rfl, rfl⟩⟩
            rw [Sem.run_bind, hguard, Result.andThen_ok, run_eql_struct, heq]; rfl
          · cases h
            refine ⟨.bool (!r'), ?_, aL.2 ⟨rfl, rfl⟩⟩
            rw [Sem.run_bind, hguard, Result.andThen_ok, run_neq_struct, heq]; rfl
          · cases h
        · cases h
    · cases h
  · cases h
theorem vC {P : Program} {γ : Gh} {tok : Nat → Option Nat} {w : World} {op : UnOp} {x : T} {a : Value} {r : T} (h : unT op x = some r) (hx : x.rep γ tok w a) : ∃ v, (Op.unary op a).run P w = .ok v w ∧ r.rep γ tok w v := by
  unfold unT at h
  split at h
  · rename_i b hb
    cases h
    rw [raw?_eq hb, aL] at hx
    obtain ⟨rfl, _⟩ := hx
    exact ⟨_, rfl, aL.2 ⟨rfl, rfl⟩⟩
  · rename_i k n hb
    cases h
    rw [raw?_eq hb, aL] at hx
    obtain ⟨rfl, _⟩ := hx
    exact ⟨_, rfl, aL.2 ⟨rfl, rfl⟩⟩
  · cases h
theorem uh {Fr : Nat → Nat → Prop} {w : World} {sz : Nat} {es : List (List C)} {ns : List Int} {a : Value} (hsz : sz = 1 ∨ es = []) (hns : iA es = some ns) (h : (C.slice sz es).rep Fr w a) :
    es.length = ns.length ∧ ((∃ (ad : Option Addr) (cap : Nat), a = .slice ad 0 cap ∧ ns = []) ∨ ∃ (ad : Addr) (cap : Nat), a = .slice (some ad) ns.length cap ∧ ∀ (j : Nat) v, (ns.map (Value.int .u8))[j]? = some v → w.cell? (ad.add j) = some v) := by
  have key : ∀ {es : List (List C)} {ns : List Int}, iA es = some ns → es = ns.map fun n => [C.raw (.int .u8 n)] := by
    intro es
    induction es with
    | nil => intro ns h; simp [iA] at h; subst h; rfl
    | cons e es ih =>
      intro ns h
      unfold iA at h
      split at h
      · rename_i heq; cases heq
      · rename_i n r heq
        cases heq
        simp only [Option.map_eq_some_iff] at h
        obtain ⟨ms, hms, rfl⟩ := h
        rw [ih hms]; rfl
      · cases h
  have hes := key hns
  subst hes
  refine ⟨by simp, ?_⟩
  simp only [C.rep] at h
  obtain ⟨ad, len, cap, rfl, rfl, hle, h4⟩ := h
  by_cases hn : ns = []
  · subst hn; exact .inl ⟨ad, cap, rfl, rfl⟩
  · have hs1 : sz = 1 := by
      rcases hsz with h | h
      · exact h
      · exact absurd (List.map_eq_nil_iff.1 h) hn
    subst hs1
    rcases h4 with ⟨h0, _⟩ | ⟨b, o, rfl, hr⟩
    · exact absurd (List.eq_nil_of_length_eq_zero (by simpa using h0)) hn
    · refine .inr ⟨⟨b, o, none⟩, cap, by simp, fun j v hj => ?_⟩
      rw [List.getElem?_map, Option.map_eq_some_iff] at hj
      obtain ⟨n, hj, rfl⟩ := hj
      have hg := (em hr j [C.raw (.int .u8 n)] (by simp [hj])).2
      obtain ⟨_, v, hv, hrep⟩ := ci hg 0 _ rfl
      simp only [C.rep] at hrep
      rw [hrep.1] at hv
      rw [Addr.add_mid]
      simpa using hv
theorem qO {P : Program} {γ : Gh} {tok : Nat → Option Nat} {w : World} {src dst : TypeId} {x : T} {a : Value} {r : T} (h : yB P src dst x = some r) (hx : x.rep γ tok w a) : ∃ v, (convert src dst a).run P w = .ok v w ∧ r.rep γ tok w v := by
  unfold yB at h
  split at h
  · rename_i es hes
    simp only [Option.map_eq_some_iff] at h
    obtain ⟨ns, hns, rfl⟩ := h
    have key : ∀ (e : TypeId) (sz : Nat), P.underlying src = some (.slice e) → P.underlying dst = some .string → P.underlying e = some (.int .u8) → (sz = 1 ∨ es = []) → (C.slice sz es).rep γ.fr w a → ∃ v, (convert src dst a).run P w = .ok v w ∧ (T.pure (.string (bH ns))).rep γ tok w v := by
      intro e sz h1 h2 h3 hsz hr
      refine ⟨.string (bH ns), ?_, aL.2 ⟨rfl, rfl⟩⟩
      obtain ⟨hrow, hall⟩ := uh hsz hns hr
      rcases hall with ⟨ad, cap, rfl, rfl⟩ | ⟨ad, cap, rfl, hl⟩
      · rw [run_convert_bytes_string w src dst e ad 0 cap h1 h3 h2]
        cases ad with
        | none => rfl
        | some ad => exact run_bytesToString w ad 0 cap [] (by exact run_loadCells_list w ad [] (by simp))
      · rw [run_convert_bytes_string w src dst e _ _ cap h1 h3 h2]
        exact run_bytesToString w ad _ cap ns (by rw [← List.length_map (f := Value.int .u8)]; exact run_loadCells_list w ad _ hl)
    unfold yJ at hes
    split at hes
    · rename_i x' e sz es' h1 h2
      split at hes
      · rename_i h3
        split at hes
        · rename_i hsz
          cases hes
          simp only [T.rep, K.rep, V.rep] at hx
          exact key e sz h1 h2 h3 hsz hx
        · cases hes
      · cases hes
    · rename_i x' e sz es' tk h1 h2
      split at hes
      · rename_i h3
        split at hes
        · rename_i hsz
          cases hes
          simp only [T.rep, K.rep, V.rep] at hx
          exact key e sz h1 h2 h3 hsz hx.1
        · cases hes
      · cases hes
    · cases hes
  rename_i hnone
  split at h
  · rename_i d k k' n h1 h2 hb
    cases h
    rw [raw?_eq hb, aL] at hx
    obtain ⟨rfl, _⟩ := hx
    refine ⟨.int k (k.wrap n), ?_, aL.2 ⟨rfl, rfl⟩⟩
    simp [convert, run_underlying h1, run_underlying h2, Conv.intToInt]
  · rename_i d s h1 h2 hb
    cases h
    rw [raw?_eq hb, aL] at hx
    obtain ⟨rfl, _⟩ := hx
    refine ⟨.string s, ?_, aL.2 ⟨rfl, rfl⟩⟩
    simp [convert, run_underlying h1, run_underlying h2]
  · cases h
end Go.Dm
namespace Go.Dm
open Go.RowKit
def fZ (cells : Array Value) (off : Nat) : List Value → Array Value
  | [] => cells
  | v :: r => fZ (cells.setIfInBounds off v) (off + 1) r
theorem fh : ∀ (vs : List Value) (cells : Array Value) (off : Nat), off + vs.length ≤ cells.size → (fZ cells off vs).toList = cells.toList.take off ++ vs ++ cells.toList.drop (off + vs.length)
  | [], cells, off, _ => by simp [fZ]
  | v :: r, cells, off, h => by
    simp only [List.length_cons] at h
    rw [fZ, fh r _ _ (by simp; omega)]
    have hlt : off < cells.toList.length := by simp; omega
    have e1 : (cells.setIfInBounds off v).toList = cells.toList.set off v := by simp
    rw [e1, List.set_eq_take_append_cons_drop, if_pos hlt]
    have hl : (cells.toList.take off).length = off := by rw [List.length_take]; omega
    have e2 : List.take (off + 1) (List.take off cells.toList ++ v :: List.drop (off + 1) cells.toList) = List.take off cells.toList ++ [v] := by
      rw [List.take_append, hl]
      simp [List.take_take]
    have e3 : List.drop (off + 1 + r.length) (List.take off cells.toList ++ v :: List.drop (off + 1) cells.toList) = List.drop (off + (v :: r).length) cells.toList := by
      rw [List.drop_append, hl, show off + 1 + r.length - off = r.length + 1 by omega, List.drop_eq_nil_of_le (by rw [hl]; omega)]
      simp [List.drop_drop]
      congr 1
      omega
    rw [e2, e3]
    simp
theorem km (off : Nat) : ∀ (vs : List Value) (k : Nat) (cells : Array Value), (vs.zipIdx k).foldl (fun cs x => cs.setIfInBounds (off + x.2) x.1) cells = fZ cells (off + k) vs
  | [], _, _ => rfl
  | v :: r, k, cells => by
    simp only [List.zipIdx_cons, List.foldl_cons, fZ]
    rw [km off r (k + 1)]
    rfl
theorem py (off : Nat) (v : Value) (cells : Array Value) : v.cells.zipIdx.foldl (fun cs (c, j) => cs.setIfInBounds (off + j) c) cells = fZ cells off v.cells.toList := by
  rw [← Array.foldl_toList]
  have := km off v.cells.toList 0 cells
  simpa using this
theorem K.cells_rep {γ : Gh} {tok : Nat → Option Nat} {w : World} {k : K} {v : Value} (h : k.rep γ tok w v) : aJ (V.rep γ tok w) k.cells v.cells.toList := by
  cases k with
  | v x =>
    simp only [K.rep] at h
    have h1 := V.rep_one h
    have : v.cells = #[v] := by cases v <;> first | rfl | (simp [Value.oneCell'] at h1)
    rw [this]
    exact ⟨h, trivial⟩
  | agg xs =>
    simp only [K.rep] at h
    obtain ⟨vs, rfl, h2⟩ := h
    simpa only [Value.cells, K.cells] using h2
theorem hO {γ : Gh} {tok : Nat → Option Nat} {w : World} {place place' : Nat → Option (Nat × Nat)} (hp : ∀ i p, place i = some p → place' i = some p) : ∀ {parts : List (Nat × T)} {vals : List (Nat × Value)} {cells cells' : List V} {vs : Array Value},
    aJ (fun (p : Nat × T) (q : Nat × Value) => p.1 = q.1 ∧ p.2.rep γ tok w q.2) parts vals → xJ place cells parts = some cells' → aJ (V.rep γ tok w) cells vs.toList →
    ∃ vs' : Array Value, Instr.fill place' vs vals = some vs' ∧ aJ (V.rep γ tok w) cells' vs'.toList
  | [], [], cells, cells', vs, _, h, hc => by simp [xJ] at h; subst h; exact ⟨vs, rfl, hc⟩
  | (i, x) :: parts, (j, v) :: vals, cells, cells', vs, hpv, h, hc => by
    obtain ⟨⟨hij, hx⟩, hrest⟩ := hpv
    simp only at hij hx
    subst hij
    simp only [xJ] at h
    split at h
    · rename_i off size k hpl hk
      split at h
      · rename_i hcond
        rw [k?_eq hk] at hx
        simp only [T.rep] at hx
        have hkc := K.cells_rep hx
        have hlen := hkc.length
        have hcl := hc.length
        simp only [Array.length_toList] at hlen hcl
        have hin : off + v.cells.toList.length ≤ vs.size := by simp; omega
        have hnew : aJ (V.rep γ tok w) (cells.take off ++ k.cells ++ cells.drop (off + size)) (fZ vs off v.cells.toList).toList := by
          rw [fh _ _ _ hin]
          have := hc.splice hkc off
          rwa [hcond.1] at this
        obtain ⟨vs', h1, h2⟩ := hO hp hrest h hnew
        refine ⟨vs', ?_, h2⟩
        have hsize : ¬ ((v.cells.size != size) = true ∨ off + v.cells.size > vs.size) := by
          simp; omega
        simp only [Instr.fill, hp _ _ hpl]
        rw [if_neg (by simp; omega), py]
        exact h1
      · cases h
    · cases h
  | [], _ :: _, _, _, _, h, _, _ => h.elim
  | _ :: _, [], _, _, _, h, _, _ => h.elim
theorem eZ {P : Program} {γ : Gh} {tok : Nat → Option Nat} {w : World} {t : TypeId} {xs : List V} (h : kz P t = some xs) : ∃ z, (zeroValue t).run P w = .ok z w ∧ aJ (V.rep γ tok w) xs z.cells.toList ∧ ∃ i, P.info? t = some i ∧ i.zero = some z := by
  unfold kz at h
  split at h
  · rename_i z hz
    simp only [Option.map_eq_some_iff] at h
    obtain ⟨k, hk, rfl⟩ := h
    cases hi : P.info? t with
    | none => simp [hi] at hz
    | some i =>
      simp only [hi, Option.bind_some] at hz
      refine ⟨z, ?_, gI (K.cells_rep (jZ hk)), i, rfl, hz⟩
      simp [zeroValue, typeInfo, hi, hz]
  · cases h
theorem nf {P : Program} (w : World) : ∀ (fs : List Field), fs.all (fun f => (P.info? f.type).isSome) = true →
    (fs.mapM (m := Sem) fun f => do pure (f.offset, ← sizeOf f.type)).run P w = .ok (fs.map fun f => (f.offset, P.cellsOf f.type)) w
  | [], _ => by simp
  | f :: fs, h => by
    simp only [List.all_cons, Bool.and_eq_true] at h
    obtain ⟨i, hi⟩ := Option.isSome_iff_exists.1 h.1
    have ih := nf (P := P) w fs h.2
    rw [List.mapM_cons, Sem.run_bind]
    simp only [Sem.run_bind, bn hi, Result.andThen_ok, Sem.run_pure]
    rw [ih]
    rfl
theorem o4 {P : Program} {γ : Gh} {tok : Nat → Option Nat} {w : World} {t : TypeId} {parts : List (Nat × T)} {vals : List (Nat × Value)} {r : T} (h : xr P t parts = some r)
    (hp : aJ (fun (p : Nat × T) (q : Nat × Value) => p.1 = q.1 ∧ p.2.rep γ tok w q.2) parts vals) : ∃ v, (Instr.build t vals.toArray).run P w = .ok v w ∧ r.rep γ tok w v := by
  unfold xr at h
  split at h
  · rename_i z place hz hpl
    simp only [Option.map_eq_some_iff] at h
    obtain ⟨cs, hcs, rfl⟩ := h
    obtain ⟨zv, hzrun, hzrep, _⟩ := eZ (γ := γ) (tok := tok) (w := w) hz
    unfold rT at hpl
    split at hpl
    · rename_i fs hu
      split at hpl
      · rename_i hall
        cases hpl
        have hpl' : ∀ (i : Nat) (p : Nat × Nat), (fs[i]?).map (fun (f : Field) => (f.offset, P.cellsOf f.type)) = some p → ((fs.toList.map fun (f : Field) => (f.offset, P.cellsOf f.type)).toArray)[i]? = some p := fun i p hip => by
          simpa using hip
        obtain ⟨vs', h1, h2⟩ := hO hpl' hp hcs hzrep
        refine ⟨.agg vs', ?_, ⟨vs'.toList, by simp, gI h2⟩⟩
        have hm : (fs.mapM (m := Sem) fun (f : Field) => do pure (f.offset, ← sizeOf f.type)).run P w = .ok (fs.toList.map fun (f : Field) => (f.offset, P.cellsOf f.type)).toArray w := by
          have := nf (P := P) w fs.toList hall
          rw [← Array.toArray_toList (xs := fs), List.mapM_toArray, Sem.run_map, this]
          simp
        simp only [Instr.build, Sem.run_bind, hzrun, Result.andThen_ok, run_underlying hu, hm, h1, Sem.run_pure]
      · cases hpl
    · rename_i n e hu
      split at hpl
      · rename_i hi
        cases hpl
        obtain ⟨i, hi⟩ := Option.isSome_iff_exists.1 hi
        obtain ⟨vs', h1, h2⟩ := hO (place' := fun i => some (i * P.cellsOf e, P.cellsOf e)) (fun _ _ h => h) hp hcs hzrep
        refine ⟨.agg vs', ?_, ⟨vs'.toList, by simp, gI h2⟩⟩
        simp only [Instr.build, Sem.run_bind, hzrun, Result.andThen_ok, run_underlying hu, bn hi, h1, Sem.run_pure]
      · cases hpl
    · cases hpl
  · cases h
theorem f5 {P : Program} {s : TypeId} {i : Nat} {f : Field} (h : nF P s i = some f) : ∃ fs, P.underlying s = some (.struct fs) ∧ fs[i]? = some f := by
  unfold nF at h
  split at h
  · exact ⟨_, by assumption, h⟩
  · cases h
theorem hH {P : Program} {f : Field} (h0 : ¬ P.cellsOf f.type = 0) (b o : Nat) (w : World) : (fieldPlace ⟨b, o, none⟩ f).run P w = .ok ⟨b, o + f.offset, none⟩ w := by
  cases hi : P.info? f.type with
  | none => simp [Program.cellsOf, hi] at h0
  | some i => simp [fieldPlace, bn hi, h0, Addr.add_mid]
theorem kD {P : Program} {γ : Gh} {tok : Nat → Option Nat} {w : World} {s : TypeId} {x r : T} {i : Nat} {a : Value} (h : jX P s x i = some r) (hx : x.rep γ tok w a) : ∃ v, (Instr.fieldAt s a i).run P w = .ok v w ∧ r.rep γ tok w v := by
  unfold jX at h
  split at h
  · rename_i f id off hf hc
    obtain ⟨fs, hu, hfi⟩ := f5 hf
    split at h
    · cases h
    · rename_i h0
      cases h
      rw [cell?_eq hc] at hx
      simp only [T.rep, K.rep, V.rep] at hx
      obtain ⟨b, o, hl, rfl⟩ := hx
      refine ⟨.pointer (some ⟨b, o + off + f.offset, none⟩), ?_, ?_⟩
      · simp [Instr.fieldAt, run_underlying hu, hfi, Instr.sureAddr, hH h0]
      · simp only [T.rep, K.rep, V.rep]; exact ⟨b, o, hl, by rw [Nat.add_assoc]⟩
  · rename_i f cells hf hc
    obtain ⟨fs, hu, hfi⟩ := f5 hf
    split at h
    · cases h
    · rename_i h0
      cases h
      rw [cell?_eq hc] at hx
      simp only [T.rep, K.rep, V.rep, C.rep] at hx
      obtain ⟨b, o, rfl, hcs⟩ := hx
      refine ⟨.pointer (some ⟨b, o + f.offset, none⟩), ?_, ?_⟩
      · simp [Instr.fieldAt, run_underlying hu, hfi, Instr.sureAddr, hH h0]
      · simp only [T.rep, K.rep, V.rep, C.rep]; exact ⟨b, _, rfl, fc hcs _⟩
  · cases h
theorem mj {P : Program} {γ : Gh} {tok : Nat → Option Nat} {w : World} {t : TypeId} {xs : List V} {vs : List Value} {off : Nat} {r : T} (h : wm P t xs off = some r) (hx : aJ (V.rep γ tok w) xs vs) : ∃ v, (part t vs.toArray off).run P w = .ok v w ∧ r.rep γ tok w v := by
  unfold wm fY at h
  cases hu : P.underlying t with
  | none => simp [hu] at h
  | some d =>
    obtain ⟨i, hi⟩ := cy hu
    cases hd : d.isRow with
    | true =>
      simp only [hu, Option.map_some, hd] at h
      split at h
      · cases h
        refine ⟨.agg ((vs.drop off).take (P.cellsOf t)).toArray, ?_, ⟨_, rfl, (hx.drop _).take _⟩⟩
        unfold part
        simp only [Sem.run_bind, i5 hu, hd, Result.andThen_ok, if_true, bn hi, Sem.run_pure]
        congr 2
        apply Array.ext'
        simp [List.extract_eq_take_drop]
      · cases h
    | false =>
      simp only [hu, Option.map_some, hd, Option.map_eq_some_iff] at h
      obtain ⟨x, hxo, rfl⟩ := h
      obtain ⟨v, hv, hr⟩ := hx.get off x hxo
      refine ⟨v, ?_, by simpa only [T.rep, K.rep] using hr⟩
      unfold part
      simp [i5 hu, hd, hv]
theorem pv {P : Program} {γ : Gh} {tok : Nat → Option Nat} {w : World} {s : TypeId} {x r : T} {i : Nat} {a : Value} (h : wj P s x i = some r) (hx : x.rep γ tok w a) : ∃ v, (Instr.field s a i).run P w = .ok v w ∧ r.rep γ tok w v := by
  unfold wj at h
  split at h
  · rename_i f xs hf
    obtain ⟨fs, hu, hfi⟩ := f5 hf
    simp only [T.rep, K.rep] at hx
    obtain ⟨vs, rfl, hvs⟩ := hx
    obtain ⟨v, h1, h2⟩ := mj h hvs
    exact ⟨v, by simp [Instr.field, run_underlying hu, hfi, asAgg, h1], h2⟩
  · cases h
theorem dL {γ : Gh} {tok : Nat → Option Nat} {w : World} {i : T} {n j : Nat} {a : Value} (h : iR i n = some j) (hx : i.rep γ tok w a) : ∃ k x, a = .int k x ∧ 0 ≤ x ∧ x < n ∧ x.toNat = j := by
  unfold iR at h
  split at h
  · rename_i q x hi
    split at h
    · rename_i hb
      cases h
      rw [int?_eq hi, aL] at hx
      exact ⟨q, x, hx.1, hb.1, hb.2, rfl⟩
    · cases h
  · cases h
theorem dM {γ : Gh} {tok : Nat → Option Nat} {w : World} {x : V} {v : Value} {sz : Nat} {es : List (List C)} (h : x.sliceOf = some (sz, es)) (hx : x.rep γ tok w v) : (C.slice sz es).rep γ.fr w v := by
  unfold V.sliceOf at h
  split at h
  · cases h; simpa only [V.rep] using hx
  · cases h; exact hx.1
  · cases h
theorem C.slice_get {Fr : Nat → Nat → Prop} {w : World} {sz : Nat} {es : List (List C)} {v : Value} (h : (C.slice sz es).rep Fr w v) {j : Nat} {c : List C} (hj : es[j]? = some c) :
    ∃ b o cap, v = .slice (some ⟨b, o, none⟩) es.length cap ∧ es.length ≤ cap ∧ c.length = sz ∧ aZ Fr w b c (o + j * sz) := by
  simp only [C.rep] at h
  obtain ⟨a, len, cap, rfl, rfl, hle, h⟩ := h
  rcases h with ⟨_, h0, _⟩ | ⟨b, o, rfl, hr⟩
  · have := (List.getElem?_eq_some_iff.1 hj).1; omega
  · exact ⟨b, o, cap, rfl, hle, em hr j c hj⟩
theorem kH {P : Program} {γ : Gh} {tok : Nat → Option Nat} {w : World} {t : TypeId} {x i r : T} {a ia : Value} (h : eq P t x i = some r) (hx : x.rep γ tok w a) (hi : i.rep γ tok w ia) :
    ∃ v, (Instr.indexAt t a ia).run P w = .ok v w ∧ r.rep γ tok w v := by
  unfold eq at h
  split at h
  · rename_i n e hu
    split at h
    · cases h
    · rename_i hie
      obtain ⟨ie, hie⟩ : ∃ i, P.info? e = some i := by
        cases hq : P.info? e with
        | none => simp [hq] at hie
        | some i => exact ⟨i, rfl⟩
      split at h
      · rename_i id off hc
        simp only [Option.map_eq_some_iff] at h
        obtain ⟨j, hj, rfl⟩ := h
        obtain ⟨k, q, rfl, h0, h1, rfl⟩ := dL hj hi
        rw [cell?_eq hc] at hx
        simp only [T.rep, K.rep, V.rep] at hx
        obtain ⟨b, o, hl, rfl⟩ := hx
        refine ⟨.pointer (some ⟨b, o + off + q.toNat * P.cellsOf e, none⟩), ?_, ?_⟩
        · simp [Instr.indexAt, asIntOf, run_underlying hu, Instr.sureAddr, h0, h1, bn hie, Addr.add_mid]
        · simp only [T.rep, K.rep, V.rep]; exact ⟨b, o, hl, by rw [Nat.add_assoc]⟩
      · rename_i cells hc
        simp only [Option.map_eq_some_iff] at h
        obtain ⟨j, hj, rfl⟩ := h
        obtain ⟨k, q, rfl, h0, h1, rfl⟩ := dL hj hi
        rw [cell?_eq hc] at hx
        simp only [T.rep, K.rep, V.rep, C.rep] at hx
        obtain ⟨b, o, rfl, hcs⟩ := hx
        refine ⟨.pointer (some ⟨b, o + q.toNat * P.cellsOf e, none⟩), ?_, ?_⟩
        · simp [Instr.indexAt, asIntOf, run_underlying hu, Instr.sureAddr, h0, h1, bn hie, Addr.add_mid]
        · simp only [T.rep, K.rep, V.rep, C.rep]; exact ⟨b, _, rfl, fc hcs _⟩
      · cases h
  · rename_i e hu
    split at h
    · cases h
    · rename_i hie
      obtain ⟨ie, hie⟩ : ∃ i, P.info? e = some i := by
        cases hq : P.info? e with
        | none => simp [hq] at hie
        | some i => exact ⟨i, rfl⟩
      split at h
      · rename_i id off sz n hc
        split at h
        · rename_i hsz
          simp only [Option.map_eq_some_iff] at h
          obtain ⟨j, hj, rfl⟩ := h
          obtain ⟨k, q, rfl, h0, h1, rfl⟩ := dL hj hi
          rw [cell?_eq hc] at hx
          simp only [T.rep, K.rep, V.rep] at hx
          obtain ⟨b, o, cap, hl, rfl, _⟩ := hx
          refine ⟨.pointer (some ⟨b, o + off + q.toNat * P.cellsOf e, none⟩), ?_, ?_⟩
          · simp [Instr.indexAt, asIntOf, run_underlying hu, h0, h1, bn hie, Addr.add_mid]
          · simp only [T.rep, K.rep, V.rep]; exact ⟨b, o, hl, by rw [hsz, Nat.add_assoc]⟩
        · cases h
      · rename_i u _ hc
        rw [cell?_eq hc] at hx
        simp only [T.rep, K.rep] at hx
        split at h
        · rename_i sz es hs
          split at h
          · rename_i hsz
            split at h
            · rename_i j hj
              split at h
              · rename_i c hcj
                cases h
                obtain ⟨k, q, rfl, h0, h1, rfl⟩ := dL hj hi
                obtain ⟨b, o, cap, rfl, _, hl, hcs⟩ := C.slice_get (dM hs hx) hcj
                refine ⟨.pointer (some ⟨b, o + q.toNat * P.cellsOf e, none⟩), ?_, ?_⟩
                · simp [Instr.indexAt, asIntOf, run_underlying hu, h0, h1, bn hie, Addr.add_mid]
                · simp only [T.rep, K.rep, V.rep, C.rep]; exact ⟨b, _, rfl, by rw [← hsz]; exact hcs⟩
              · cases h
            · cases h
          · cases h
        · cases h
      · cases h
  · cases h
end Go.Dm
namespace Go.Dm
open Go.RowKit
theorem qd {P : Program} {γ : Gh} {tok : Nat → Option Nat} {w : World} {t : TypeId} {x i r : T} {a ia : Value} (h : qp P t x i = some r) (hx : x.rep γ tok w a) (hi : i.rep γ tok w ia) :
    ∃ v, (Instr.index t a ia).run P w = .ok v w ∧ r.rep γ tok w v := by
  unfold qp at h
  split at h
  · rename_i n e xs hu
    split at h
    · rename_i j hj
      obtain ⟨k, q, rfl, h0, h1, rfl⟩ := dL hj hi
      simp only [T.rep, K.rep] at hx
      obtain ⟨vs, rfl, hvs⟩ := hx
      obtain ⟨v, h2, h3⟩ := mj h hvs
      have hie : ∃ ie, P.info? e = some ie := by
        unfold wm fY at h
        cases hue : P.underlying e with
        | none => simp [hue] at h
        | some d => exact cy hue
      obtain ⟨ie, hie⟩ := hie
      exact ⟨v, by simp [Instr.index, asIntOf, run_underlying hu, h0, h1, bn hie, h2], h3⟩
    · cases h
  · rename_i s hu
    split at h
    · rename_i j hj
      split at h
      · rename_i b hb
        cases h
        obtain ⟨k, q, rfl, h0, h1, rfl⟩ := dL hj hi
        simp only [T.rep, K.rep, V.rep, C.rep] at hx
        obtain ⟨rfl, _⟩ := hx
        refine ⟨.int .u8 b.toNat, ?_, aL.2 ⟨rfl, rfl⟩⟩
        simp [Instr.index, asIntOf, run_underlying hu, h0, hb]
      · cases h
    · cases h
  · cases h
def iP (γ : Gh) (tok : Nat → Option Nat) (w : World) : Option T → Option Value → Prop
  | none, none => True
  | some x, some a => x.rep γ tok w a
  | _, _ => False
theorem ib {P : Program} {γ : Gh} {tok : Nat → Option Nat} {w : World} {x : Option T} {d top n : Nat} (h : iw x d top = some n) {a : Option Value} (hx : iP γ tok w x a) :
    (x = none ∧ a = none ∧ n = d) ∨ ∃ v, a = some v ∧ n ≤ top ∧ ∀ top' code, n ≤ top' → (Instr.sliceBound v top' code).run P w = .ok n w := by
  cases x with
  | none =>
    simp only [iw, Option.some.injEq] at h
    cases a with
    | none => exact .inl ⟨rfl, rfl, h.symm⟩
    | some a => exact hx.elim
  | some x =>
    simp only [iw] at h
    cases a with
    | none => exact hx.elim
    | some a =>
      split at h
      · rename_i q i hi
        split at h
        · rename_i hb
          cases h
          simp only [iP] at hx
          rw [int?_eq hi] at hx
          have hx := (aL.1 hx).1
          subst hx
          refine .inr ⟨_, rfl, by omega, fun top' code hle => ?_⟩
          have : 0 ≤ i ∧ i ≤ (top' : Int) := ⟨hb.1, by omega⟩
          simp [Instr.sliceBound, asIntOf, this]
        · cases h
      · cases h
theorem e8 {P : Program} {w : World} {k : IntKind} {i : Int} {y : Nat} {code : BoundsCode} (h : 0 ≤ i ∧ i ≤ (y : Int)) : (Instr.sliceBound (.int k i) y code).run P w = .ok i.toNat w := by
  simp [Instr.sliceBound, asIntOf, h]
theorem jS {P : Program} {γ : Gh} {tok : Nat → Option Nat} {w : World} {lo hi : Option T} {l h len top cap : Nat} {isSlice : Bool} (hh : iw hi len top = some h) (hl : iw lo 0 h = some l) {alo ahi : Option Value} (hlo : iP γ tok w lo alo) (hhi : iP γ tok w hi ahi)
    (hle : len ≤ cap) (htop : top ≤ cap) : (Instr.sliceBounds isSlice len cap alo ahi none).run P w = .ok (l, h, cap) w ∧ l ≤ h ∧ h ≤ max len top := by
  have key : ∀ code, (match alo with | some v => Instr.sliceBound v h code | none => pure 0 : Sem Nat).run P w = .ok l w ∧ l ≤ h := by
    intro code
    rcases ib (P := P) hl hlo with ⟨_, rfl, rfl⟩ | ⟨v, rfl, h1, h2⟩
    · exact ⟨rfl, Nat.zero_le _⟩
    · exact ⟨h2 h code h1, h1⟩
  rcases ib (P := P) hh hhi with ⟨_, rfl, rfl⟩ | ⟨v, rfl, h1, h2⟩
  · refine ⟨?_, (key .sliceB).2, by omega⟩
    have k := (key .sliceB).1
    cases alo <;> simp_all [Instr.sliceBounds]
  · refine ⟨?_, (key .sliceB).2, by omega⟩
    have k := (key .sliceB).1
    have hb := h2 cap (if isSlice then .sliceAcap else .sliceAlen) (by omega)
    cases alo <;> simp_all [Instr.sliceBounds]
theorem o8 {P : Program} {γ : Gh} {tok : Nat → Option Nat} {w : World} {t : TypeId} {x r : T} {lo hi mx : Option T} {a : Value} {alo ahi amx : Option Value} (h : pO P t x lo hi mx = some r) (hx : x.rep γ tok w a)
    (hlo : iP γ tok w lo alo) (hhi : iP γ tok w hi ahi) (hmx : iP γ tok w mx amx) : ∃ v, (Instr.sliceAt t a alo ahi amx).run P w = .ok v w ∧ r.rep γ tok w v := by
  unfold pO at h
  split at h
  · rename_i s hu hc
    rw [cell?_eq hc] at hx
    simp only [T.rep, K.rep, V.rep, C.rep] at hx
    obtain ⟨rfl, _⟩ := hx
    split at h
    · cases h
    · cases amx with
      | some _ => exact hmx.elim
      | none =>
        split at h
        · rename_i h' hh
          split at h
          · rename_i l hl
            cases h
            obtain ⟨hb, _, _⟩ := jS (P := P) (isSlice := false) hh hl hlo hhi (Nat.le_refl _) (Nat.le_refl _)
            refine ⟨.string (s.extract l h'), ?_, aL.2 ⟨rfl, rfl⟩⟩
            simp [Instr.sliceAt, Instr.slice, run_underlying hu, hb]
          · cases h
        · cases h
  · rename_i e v hu hc
    rw [cell?_eq hc] at hx
    simp only [T.rep, K.rep] at hx
    split at h
    · rename_i sz es hs
      have hrep := dM hs hx
      split at h
      · rename_i hcond
        obtain ⟨hsz, hie⟩ := hcond
        obtain ⟨ie, hie⟩ := Option.isSome_iff_exists.1 hie
        have hrep0 := hrep
        simp only [C.rep] at hrep
        obtain ⟨base, len, cap, rfl, rfl, hle, hbase⟩ := hrep
        split at h
        · rename_i m
          cases amx with
          | none => exact hmx.elim
          | some am =>
            split at h
            · rename_i hi'
              split at h
              · rename_i k1 p k2 q l hm hh hl
                split at h
                · rename_i heq
                  obtain ⟨rfl, rfl⟩ := heq
                  cases h
                  cases ahi with
                  | none => exact hhi.elim
                  | some ah =>
                    simp only [iP] at hmx hhi
                    rw [int?_eq hm] at hmx
                    rw [int?_eq hh] at hhi
                    have e1 := (aL.1 hmx).1
                    have e2 := (aL.1 hhi).1
                    subst e1; subst e2
                    have hb : (Instr.sliceBounds true es.length cap alo (some (.int k2 l)) (some (.int k1 l))).run P w = .ok (l, l, l) w := by
                      have b1 := fun (y : Nat) code (hy : l ≤ y) => e8 (P := P) (w := w) (k := k1) (i := (l : Int)) (y := y) (code := code) (by omega)
                      have b2 := fun (y : Nat) code (hy : l ≤ y) => e8 (P := P) (w := w) (k := k2) (i := (l : Int)) (y := y) (code := code) (by omega)
                      simp only [Int.toNat_natCast] at b1 b2
                      rcases ib (P := P) hl hlo with ⟨_, rfl, rfl⟩ | ⟨v, rfl, h1, h2⟩
                      · simp only [Instr.sliceBounds, Sem.run_bind, b1 cap _ (by omega), b2 _ _ (Nat.le_refl _), Result.andThen_ok, Sem.run_pure]
                      · simp only [Instr.sliceBounds, Sem.run_bind, b1 cap _ (by omega), b2 _ _ (Nat.le_refl _), h2 _ _ (Nat.le_refl _), Result.andThen_ok, Sem.run_pure]
                    refine ⟨.slice base 0 0, ?_, ?_⟩
                    · simp [Instr.sliceAt, Instr.slice, run_underlying hu, hb, bn hie]
                    · simp only [T.rep, K.rep, V.rep]
                      refine ⟨?_, base, 0, rfl⟩
                      simp only [C.rep]
                      refine ⟨base, 0, 0, rfl, rfl, Nat.le_refl _, ?_⟩
                      rcases hbase with ⟨_, _⟩ | ⟨b, o, rfl, hr⟩
                      · exact .inl ⟨rfl, rfl⟩
                      · exact .inr ⟨b, o, rfl, by simp only [be]⟩
                · cases h
              · cases h
            · cases h
        · cases amx with
          | some _ => exact hmx.elim
          | none =>
            split at h
            · rename_i h' hh
              split at h
              · rename_i l hl
                obtain ⟨hb, hlh, hhl⟩ := jS (P := P) (isSlice := true) hh hl hlo hhi hle hle
                have hlen : h' ≤ es.length := by omega
                have hrun : (Instr.sliceAt t (.slice base es.length cap) alo ahi none).run P w = .ok (.slice (if cap = l then base else base.map (·.add (l * P.cellsOf e))) (h' - l) (cap - l)) w := by
                  simp [Instr.sliceAt, Instr.slice, run_underlying hu, hb, bn hie]
                have hrep' : (C.slice (P.cellsOf e) ((es.take h').drop l)).rep γ.fr w (.slice (if cap = l then base else base.map (·.add (l * P.cellsOf e))) (h' - l) (cap - l)) := by
                  simp only [C.rep]
                  refine ⟨_, _, _, rfl, by simp; omega, by omega, ?_⟩
                  rcases hbase with ⟨h0, hc0⟩ | ⟨b, o, rfl, hr⟩
                  · left; refine ⟨by omega, by omega⟩
                  · right
                    by_cases hcl : cap = l
                    · refine ⟨b, o, by simp [hcl], ?_⟩
                      rw [List.drop_eq_nil_of_le (by simp; omega)]
                      simp only [be]
                    · refine ⟨b, o + l * P.cellsOf e, by simp [hcl, Addr.add_mid], ?_⟩
                      rcases hsz with rfl | rfl
                      · exact lu l (lT h' hr) (by simp; omega)
                      · simp [be]
                split at h
                · rename_i hv hnone
                  cases h
                  refine ⟨_, hrun, ?_⟩
                  simp only [T.rep, K.rep, V.rep]
                  have hx2 := hx
                  simp only [V.rep, ig] at hx2
                  obtain ⟨_, a', n', hq⟩ := hx2
                  have hh2 : h' = es.length := by simpa [iw] using hh.symm
                  subst hh2
                  rw [List.take_length] at hrep'
                  simp only [Value.slice.injEq] at hq
                  obtain ⟨_, hq1, hq2⟩ := hq
                  exact ⟨hrep', _, _, by rw [hq1, hq2]⟩
                · cases h
                  exact ⟨_, hrun, by simpa only [T.rep, K.rep, V.rep] using hrep'⟩
              · cases h
            · cases h
      · cases h
    · cases h
  · rename_i n e id off hu hc
    rw [cell?_eq hc] at hx
    simp only [T.rep, K.rep, V.rep] at hx
    obtain ⟨b, o, hl, rfl⟩ := hx
    split at h
    · rename_i _ h' hh
      cases amx with
      | some _ => exact hmx.elim
      | none =>
        split at h
        · rename_i _ l hlo'
          split at h
          · rename_i hcond
            cases h
            have hie : ∃ ie, P.info? e = some ie := by
              cases hi : P.info? e with
              | none => simp [Program.cellsOf, hi] at hcond
              | some i => exact ⟨i, rfl⟩
            obtain ⟨ie, hie⟩ := hie
            obtain ⟨hb, _, _⟩ := jS (P := P) (isSlice := false) hh hlo' hlo hhi (Nat.le_refl _) (Nat.le_refl _)
            have hne : ¬ n = l := by omega
            refine ⟨.slice (some ⟨b, o + off + l * P.cellsOf e, none⟩) (h' - l) (n - l), ?_, ?_⟩
            · simp [Instr.sliceAt, run_underlying hu, Instr.sureAddr, hb, bn hie, hne, Addr.add_mid]
            · simp only [T.rep, K.rep, V.rep]
              exact ⟨b, o, n - l, hl, by rw [Nat.add_assoc], by omega⟩
          · cases h
        · cases h
    · cases h
  · cases h
end Go.Dm
namespace Go.Dm
open Go.RowKit
theorem ub {P : Program} {γ : Gh} {tok : Nat → Option Nat} {w : World} {t : TypeId} {ts : List TypeId} {ty : TypeId} {x r : T} {a : Value} (h : Dp P t x = some r) (hx : x.rep γ tok w a) :
    ∃ v, (Builtin.len_ (t :: ts).toArray ty #[a]).run P w = .ok v w ∧ r.rep γ tok w v := by
  unfold Dp at h
  split at h
  · rename_i s hu
    cases h
    simp only [T.rep, K.rep, V.rep, C.rep] at hx
    obtain ⟨rfl, _⟩ := hx
    exact ⟨_, by simp [Builtin.len_, run_underlying hu, goInt], aL.2 ⟨rfl, rfl⟩⟩
  · rename_i n e k hu
    cases h
    exact ⟨_, by simp [Builtin.len_, run_underlying hu, goInt], aL.2 ⟨rfl, rfl⟩⟩
  · rename_i e id off sz n hu
    cases h
    simp only [T.rep, K.rep, V.rep] at hx
    obtain ⟨b, o, cap, _, rfl, _⟩ := hx
    exact ⟨_, by simp [Builtin.len_, run_underlying hu, goInt], aL.2 ⟨rfl, rfl⟩⟩
  · rename_i e v _ hu
    split at h
    · rename_i sz es hs
      cases h
      simp only [T.rep, K.rep] at hx
      have hrep := dM hs hx
      simp only [C.rep] at hrep
      obtain ⟨base, len, cap, rfl, rfl, _⟩ := hrep
      exact ⟨_, by simp [Builtin.len_, run_underlying hu, goInt], aL.2 ⟨rfl, rfl⟩⟩
    · cases h
  · rename_i k e es hu
    cases h
    simp only [T.rep, K.rep, V.rep, C.rep] at hx
    obtain ⟨b, ents, clock, rfl, _, hh, rfl⟩ := hx
    refine ⟨.int .i64 ents.size, ?_, aL.2 ⟨by simp, rfl⟩⟩
    simp [Builtin.len_, run_underlying hu, goInt, getObj, Sem.run, hh]
  · cases h
theorem mN {q : IntKind} {n : Int} {qv : IntKind} : ∀ {ents : List MapEntry} {r : Int × Bool} (i : Nat), uk q n qv (ents.map (fun e => (e.key, e.val))) = some r →
    (r.2 = true ∧ ∃ j, Instr.findNow (.int q) (.int q n) ents i = some (some (j, .int qv r.1))) ∨ (r = (0, false) ∧ Instr.findNow (.int q) (.int q n) ents i = some none)
  | [], r, i, h => by simp [uk] at h; exact .inr ⟨h.symm, rfl⟩
  | e :: es, r, i, h => by
    obtain ⟨key, val, born⟩ := e
    simp only [List.map_cons] at h
    unfold uk at h
    split at h
    · rename_i heq; cases heq
    · rename_i a m b x rest heq
      simp only [List.cons.injEq, Prod.mk.injEq] at heq
      obtain ⟨⟨rfl, rfl⟩, rfl⟩ := heq
      split at h
      · rename_i hk
        obtain ⟨rfl, rfl⟩ := hk
        split at h
        · rename_i hnm
          cases h
          refine .inl ⟨rfl, i, ?_⟩
          simp [Instr.findNow, Instr.sameNow, hnm]
        · rename_i hnm
          have hnm' : (n == m) = false := by simpa using hnm
          rcases mN (i + 1) h with ⟨h1, j, h2⟩ | ⟨h1, h2⟩
          · exact .inl ⟨h1, j, by simp [Instr.findNow, Instr.sameNow, hnm', h2]⟩
          · exact .inr ⟨h1, by simp [Instr.findNow, Instr.sameNow, hnm', h2]⟩
      · cases h
    · cases h
theorem nT {P : Program} {γ : Gh} {tok : Nat → Option Nat} {w : World} {t : TypeId} {x i r : T} {ok : Bool} {a b : Value} (h : nM P t x i ok = some r) (hx : x.rep γ tok w a) (hi : i.rep γ tok w b) :
    ∃ v, (Instr.lookup t a b ok).run P w = .ok v w ∧ r.rep γ tok w v := by
  unfold nM at h
  split at h
  · rename_i q n qv es hargs
    simp only [Option.map_eq_some_iff] at h
    obtain ⟨rr, hl, rfl⟩ := h
    unfold nH at hargs
    split at hargs
    · rename_i kt vt hu
      split at hargs
      · rename_i q1 qv1 z es1 q' n1 hk hz hc hr
        split at hargs
        · rename_i hq
          obtain ⟨rfl, rfl⟩ := hq
          cases hargs
          rw [cell?_eq hc] at hx
          rw [raw?_eq hr, aL] at hi
          obtain ⟨rfl, _⟩ := hi
          simp only [T.rep, K.rep, V.rep, C.rep] at hx
          obtain ⟨bl, ents, clock, rfl, _, hh, rfl⟩ := hx
          have hzr : (zeroValue vt).run P w = .ok (.int qv 0) w := by
            cases hi : P.info? vt with
            | none => simp [hi] at hz
            | some inf =>
              simp only [hi, Option.bind_some] at hz
              simp [zeroValue, typeInfo, hi, hz]
          have hck : (Instr.checkKey ents.isEmpty 10000 kt (.int q n)).run P w = .ok () w := MapKept.run_checkKey (d := .int q) hk (by simp [MapKept.IsKey]) _ _
          have hobj : (getObj bl).run P w = .ok (.map ents clock) w := by simp [getObj, Sem.run, hh]
          rcases mN 0 hl with ⟨h1, j, h2⟩ | ⟨h1, h2⟩
          · have hf := MapKept.run_findKey (w := w) hk h2
            refine ⟨if ok then .tuple #[.int qv rr.1, .bool rr.2] else .int qv rr.1, ?_, ?_⟩
            · unfold Instr.lookup
              simp only [Sem.run_bind, run_underlying hu, Result.andThen_ok, hobj, Sem.run_pure, hck, hf, h1]
            · unfold n9
              cases ok
              · exact aL.2 ⟨rfl, rfl⟩
              · simp only [if_true, T.rep]
                exact ⟨_, rfl, ⟨by simp [K.rep, V.rep, C.rep, Value.oneCell'], by simp [K.rep, V.rep, C.rep, Value.oneCell'], trivial⟩⟩
          · have hf := MapKept.run_findKey (w := w) hk h2
            subst h1
            refine ⟨if ok then .tuple #[.int qv 0, .bool false] else .int qv 0, ?_, ?_⟩
            · unfold Instr.lookup
              simp only [Sem.run_bind, run_underlying hu, Result.andThen_ok, hobj, Sem.run_pure, hck, hf, hzr]
            · unfold n9
              cases ok
              · exact aL.2 ⟨rfl, rfl⟩
              · simp only [if_true, T.rep]
                exact ⟨_, rfl, ⟨by simp [K.rep, V.rep, C.rep, Value.oneCell'], by simp [K.rep, V.rep, C.rep, Value.oneCell'], trivial⟩⟩
        · cases hargs
      · cases hargs
    · cases hargs
  · cases h
theorem gi {P : Program} {γ : Gh} {tok : Nat → Option Nat} {w : World} (mn : Bool) : ∀ {xs : List T} {vs : List Value} {x r : T} {a : Value}, mF mn x xs = some r → x.rep γ tok w a → aJ (T.rep γ tok w) xs vs →
    ∃ v, (vs.foldlM (m := Sem) (if mn then Builtin.min2 else Builtin.max2) a).run P w = .ok v w ∧ r.rep γ tok w v
  | [], [], x, r, a, h, hx, _ => by
    simp only [mF, Option.some.injEq] at h
    subst h
    exact ⟨a, by simp, hx⟩
  | y :: ys, u :: us, x, r, a, h, hx, hys => by
    simp only [mF] at h
    split at h
    · rename_i k p k' q h1 h2
      split at h
      · rename_i hk
        subst hk
        rw [int?_eq h1, aL] at hx
        have hy := hys.1
        rw [int?_eq h2, aL] at hy
        obtain ⟨rfl, _⟩ := hx
        obtain ⟨rfl, _⟩ := hy
        have hstep : ((if mn then Builtin.min2 else Builtin.max2) (.int k p) (.int k q)).run P w = .ok (.int k (if mn then (if q < p then q else p) else (if q > p then q else p))) w := by
          cases mn <;> simp [Builtin.min2, Builtin.max2]
        obtain ⟨v, h3, h4⟩ := gi mn h (aL.2 ⟨rfl, rfl⟩) hys.2
        refine ⟨v, ?_, h4⟩
        rw [List.foldlM_cons, Sem.run_bind, hstep, Result.andThen_ok]
        exact h3
      · cases h
    · cases h
  | [], _ :: _, _, _, _, _, _, h => h.elim
  | _ :: _, [], _, _, _, _, _, h => h.elim
theorem oi {γ : Gh} {tok : Nat → Option Nat} {w : World} {x : V} {c : C} {v : Value} (h : x.toC = some c) (hx : x.rep γ tok w v) : c.rep γ.fr w v := by
  unfold V.toC at h
  split at h
  · cases h; simpa only [V.rep] using hx
  · cases h; exact hx.1
  · cases h
theorem mz {γ : Gh} {tok : Nat → Option Nat} {w : World} {x : T} {c : C ⊕ (Nat × Nat)} {v : Value} (h : iH x = some c) (hx : x.rep γ tok w v) : gc γ w c v := by
  unfold iH at h
  split at h
  · rename_i id off hc
    cases h
    rw [cell?_eq hc] at hx
    simp only [T.rep, K.rep, V.rep] at hx
    exact hx
  · rename_i u _ hc
    simp only [Option.map_eq_some_iff] at h
    obtain ⟨c, hcc, rfl⟩ := h
    rw [cell?_eq hc] at hx
    simp only [T.rep, K.rep] at hx
    exact oi hcc hx
  · cases h
theorem rN {α β : Type} {R : β → Value → Prop} {f : α → Option β} {g : α → Value} : ∀ {xs : List α} {ys : List β}, (∀ a b, a ∈ xs → f a = some b → R b (g a)) → xs.mapM f = some ys → aJ R ys (xs.map g)
  | [], ys, _, h => by simp at h; subst h; trivial
  | x :: xs, ys, hf, h => by
    rw [List.mapM_cons] at h
    simp only [Option.pure_def, Option.bind_eq_bind, Option.bind_eq_some_iff, Option.some.injEq] at h
    obtain ⟨y, hy, zs, hz, rfl⟩ := h
    exact ⟨hf _ _ (by simp) hy, rN (fun a b ha => hf a b (by simp [ha])) hz⟩
theorem oB {γ : Gh} {tok : Nat → Option Nat} {w : World} {α : Type} {f : α → T} {g : α → Value} (h : ∀ a, (f a).rep γ tok w (g a)) : ∀ (xs : List α), aJ (T.rep γ tok w) (xs.map f) (xs.map g)
  | [] => trivial
  | x :: xs => ⟨h x, oB h xs⟩
theorem kc {P : Program} {t : TypeId} {γ : Gh} {tok : Nat → Option Nat} {w : World} : ∀ {ps : List (Nat × T)} {qs : List (Nat × Value)}, aJ (fun (p : Nat × T) (q : Nat × Value) => p.1 = q.1 ∧ p.2.rep γ tok w q.2) ps qs → aJ (fun (p : Nat × T) (q : Nat × Value) => p.1 = q.1 ∧ p.2.rep γ tok w q.2) (oA P t ps) qs
  | [], [], _ => trivial
  | _ :: _, _ :: _, h => ⟨⟨h.1.1, gF h.1.2⟩, kc h.2⟩
  | [], _ :: _, h => h.elim
  | _ :: _, [], h => h.elim
theorem la {γ : Gh} {tok : Nat → Option Nat} {w : World} {f : Operand → T} {g : Operand → Value} (h : ∀ a, (f a).rep γ tok w (g a)) : ∀ (ps : List (Nat × Operand)),
    aJ (fun (p : Nat × T) (q : Nat × Value) => p.1 = q.1 ∧ p.2.rep γ tok w q.2) (ps.map fun (i, x) => (i, f x)) (ps.map fun (i, x) => (i, g x))
  | [] => trivial
  | (_, x) :: ps => ⟨⟨rfl, h x⟩, la h ps⟩
theorem jV {γ : Gh} {tok : Nat → Option Nat} {w : World} {f : Operand → T} {g : Operand → Value} (h : ∀ a, (f a).rep γ tok w (g a)) (x : Option Operand) : iP γ tok w (x.map f) (x.map g) := by
  cases x with
  | none => trivial
  | some x => exact h x
theorem Mem.apply_newVar (m : Mem) (d : Option Tmp) (nv : Nat) (x : T) (xs : List V) : m.apply d nv { dst := x, nv := some xs } = Mem.put { m with var := fun i => if i = nv then some xs else m.var i } d x := by
  cases d with
  | none => simp [Mem.apply, Mem.put, lk]
  | some d =>
    simp only [Mem.apply, Mem.put, lk, Option.isSome_some, and_true, Option.some.injEq]
    congr 1
    funext t
    by_cases h : d = t
    · simp [h]
    · simp [h, Ne.symm h]
theorem ki {E : Env} {F : Fm} {γ : Gh} {m : Mem} {a : Act} {w : World} (h : Rel F γ m a w) (hg : cJ E.gl γ.fr w) {o : Oper} (hd : ∀ t, o.dst = some t → t < F.n) {nv : Nat} (hnv : m.var nv = none) {xs : List V} {vs : List Value} (hx : aJ (V.rep γ m.tok w) xs vs) {t : TypeId}
    (hrun : (execOp a.eval o).run E.P w = .ok (.value (.pointer (some ⟨w.heap.size, 0, none⟩))) (w.alloc (.cells vs.toArray t))) {Q : Exit → Act → World → Prop} :
    o.wp E.P a w (ed E F (m.apply o.dst nv { dst := .k (.v (.ptr nv 0)), nv := some xs })) Q := by
  obtain ⟨h1, h2⟩ := h.newVar hnv hx t
  refine d8 hrun ⟨_, ?_, hg.mono h2.ev⟩
  rw [Mem.apply_newVar]
  refine h1.put hd ?_
  simp only [T.rep, K.rep, V.rep]
  exact ⟨w.heap.size, 0, by simp, rfl⟩
theorem Mem.apply_store (m : Mem) (nv id : Nat) (xs : List V) (rv : List Nat) (x : T) (d : Option Tmp) : m.apply d nv { dst := x, uv := [(id, xs)], rv } = Mem.put { m with var := fun i => if i = id then some xs else m.var i } d x := by
  have hv : (m.apply d nv { dst := x, uv := [(id, xs)], rv }).var = fun i => if i = id then some xs else m.var i := by
    funext i
    simp only [Mem.apply, Option.isSome_none, Bool.false_eq_true, and_false, if_false, lk]
    by_cases h : id = i
    · simp [h]
    · simp [h, Ne.symm h]
  cases d with
  | none =>
    simp only [Mem.put]
    rw [← hv]
    simp [Mem.apply, lk]
  | some d =>
    simp only [Mem.put]
    rw [← hv]
    simp only [Mem.apply, lk, Option.some.injEq]
    congr 1
    funext t
    by_cases h : d = t
    · simp [h]
    · simp [h, Ne.symm h]
theorem mX {E : Env} {F : Fm} {γ : Gh} {m : Mem} {a : Act} {w : World} (h : Rel F γ m a w) (hg : cJ E.gl γ.fr w) {o : Oper} (hd : ∀ t, o.dst = some t → t < F.n) {t : TypeId} {x y : Operand} (ho : o.op = .store t x y) {id off b o' : Nat} {xs cs : List V} (hv : m.var id = some xs)
    (hl : γ.loc id = some (b, o')) (hp : a.eval x = .pointer (some ⟨b, o' + off, none⟩)) (hkc : aJ (V.rep γ m.tok w) cs (a.eval y).cells.toList) (hsz : cs.length = E.P.cellsOf t) (hin : off + cs.length ≤ xs.length) (hinfo : (E.P.info? t).isSome = true) {Q : Exit → Act → World → Prop} :
    o.wp E.P a w (ed E F (Mem.put { m with var := fun i => if i = id then some (xs.take off ++ cs ++ xs.drop (off + cs.length)) else m.var i } o.dst .skip)) Q := by
  obtain ⟨i, hi⟩ := Option.isSome_iff_exists.1 hinfo
  have hlen := hkc.length
  obtain ⟨b', o'', h1, ⟨vs, h2, h3⟩, h4, h5⟩ := h.vars id xs hv
  rw [hl] at h1; cases h1
  have hst := h.store hv hl off hkc (by omega)
  have hex := h.store_ex hv hl off (us := (a.eval y).cells.toList) (by omega)
  have hone : ∀ u ∈ (a.eval y).cells.toList, u.oneCell' = true := fun u hu => by
    obtain ⟨i, hi, rfl⟩ := List.getElem_of_mem hu
    have hik : i < cs.length := by omega
    obtain ⟨u', hu', hr⟩ := hkc.get i _ (List.getElem?_eq_getElem hik)
    rw [List.getElem?_eq_getElem hi] at hu'
    cases hu'
    exact V.rep_one hr
  have hrun : (execOp a.eval o).run E.P w = .ok .skip (w.setCells b (o' + off) (a.eval y).cells.toList) := by
    have hstore : (storeVar t ⟨b, o' + off, none⟩ (a.eval y)).run E.P w = .ok () (w.setCells b (o' + off) (a.eval y).cells.toList) := by
      have hth : w.there b (o' + off) (a.eval y).cells.toList.length := fun j hj => by
        have := h4 (off + j) (by omega)
        rwa [show o' + (off + j) = o' + off + j by omega] at this
      have := run_storeCells_cells (P := E.P) b (o' + off) (a.eval y).cells.toList 0 w (fun j hj => by simpa using (hth j hj).1) (fun j hj => by simpa using (hth j hj).2) hone
      simp only [Nat.add_zero] at this
      have hsz' : (a.eval y).cells.size = E.P.cellsOf t := by
        have : (a.eval y).cells.toList.length = (a.eval y).cells.size := by simp
        omega
      simp [storeVar, bn hi, hsz', this]
    simp only [execOp, ho, hp, Instr.storeAt, Instr.sureAddr, Sem.run_bind, Sem.run_pure, Result.andThen_ok, hstore]
  unfold Oper.wp
  rw [hrun]
  refine ⟨γ, ?_, hg.mono hex.ev⟩
  refine hst.put hd ?_
  simp only [T.rep]
theorem qQ {E : Env} {F : Fm} {γ : Gh} {m : Mem} {a : Act} {w : World} (h : Rel F γ m a w) (hg : cJ E.gl γ.fr w) {o : Oper} (hd : ∀ t, o.dst = some t → t < F.n) {nv nt : Nat} {t : TypeId} {x y : Operand} (ho : o.op = .store t x y) (hh : tF E o = false) {e : Eff}
    (he : an E m nv nt o = some e) {Q : Exit → Act → World → Prop} : o.wp E.P a w (ed E F (m.apply o.dst nv e)) Q := by
  have hx := dZ h hg x
  have hy := gF (P := E.P) (t := t) (dZ h hg y)
  simp only [an, ho] at he
  split at he
  · rename_i id off k hc hk
    split at he
    · rename_i xs hv
      split at he
      · rename_i hcond
        obtain ⟨hsz, hin, hinfo⟩ := hcond
        rw [hh] at he
        simp only [Bool.false_eq_true, if_false, Option.some.injEq] at he
        subst he
        rw [cell?_eq hc] at hx
        simp only [T.rep, K.rep, V.rep] at hx
        obtain ⟨b, o', hl, hp⟩ := hx
        rw [k?_eq hk] at hy
        simp only [T.rep] at hy
        rw [Mem.apply_store]
        exact mX h hg hd ho hv hl hp (K.cells_rep hy) hsz hin hinfo
      · cases he
    · cases he
  · cases he
theorem eh {γ : Gh} {tok : Nat → Option Nat} {w : World} : ∀ {xs : List V} {e : List C} {us : List Value}, xs.mapM V.toC = some e → aJ (V.rep γ tok w) xs us → aJ (C.rep γ.fr w) e us
  | [], e, [], h, _ => by simp at h; subst h; trivial
  | y :: ys, e, u :: us, h, hu => by
    rw [List.mapM_cons] at h
    simp only [Option.pure_def, Option.bind_eq_bind, Option.bind_eq_some_iff, Option.some.injEq] at h
    obtain ⟨c, hcc, cs, hcs, rfl⟩ := h
    exact ⟨oi hcc hu.1, eh hcs hu.2⟩
  | [], _, _ :: _, _, h => h.elim
  | _ :: _, _, [], _, h => h.elim
theorem lZ {α : Type} {size : Nat} : ∀ {es : List (List α)} {i : Nat} {e : List α}, (∀ x ∈ es, x.length = size) → i < es.length → e.length = size →
    (es.set i e).flatten = es.flatten.take (i * size) ++ e ++ es.flatten.drop (i * size + e.length)
  | x :: es, 0, e, h, _, he => by
    have := h x (by simp)
    simp only [List.set_cons_zero, List.flatten_cons, Nat.zero_mul, List.take_zero, List.nil_append, Nat.zero_add]
    rw [List.drop_append, List.drop_eq_nil_of_le (by omega), show e.length - x.length = 0 by omega]
    simp
  | x :: es, i + 1, e, h, hi, he => by
    have hx := h x (by simp)
    have ih := lZ (es := es) (i := i) (e := e) (fun y hy => h y (by simp [hy])) (by simpa using hi) he
    simp only [List.set_cons_succ, List.flatten_cons, ih]
    have e1 : List.take ((i + 1) * size) x = x := List.take_of_length_le (by rw [Nat.succ_mul]; omega)
    have e2 : List.drop ((i + 1) * size + e.length) x = [] := List.drop_eq_nil_of_le (by rw [Nat.succ_mul]; omega)
    rw [List.take_append, List.drop_append, e1, e2]
    rw [show (i + 1) * size - x.length = i * size by rw [Nat.succ_mul]; omega, show (i + 1) * size + e.length - x.length = i * size + e.length by rw [Nat.succ_mul]; omega]
    simp [List.append_assoc]
  | [], i, e, _, hi, _ => by simp at hi
theorem cj {α : Type} {size : Nat} : ∀ {es : List (List α)}, (∀ x ∈ es, x.length = size) → es.flatten.length = es.length * size
  | [], _ => by simp
  | x :: es, h => by
    simp only [List.flatten_cons, List.length_append, List.length_cons, cj (es := es) (fun y hy => h y (by simp [hy])), h x (by simp), Nat.succ_mul]
    omega
theorem aJ.spliceC {R : C → Value → Prop} {xs ys : List C} {vs us : List Value} (h : aJ R xs vs) (k : aJ R ys us) (off : Nat) :
    aJ R (xs.take off ++ ys ++ xs.drop (off + ys.length)) (vs.take off ++ us ++ vs.drop (off + us.length)) := by
  rw [k.length]
  exact ((h.take off).append k).append (h.drop _)
theorem lR {γ : Gh} {tok : Nat → Option Nat} {w : World} {size len : Nat} : ∀ {parts : List (Nat × T)} {vals : List (Nat × Value)} {es es' : List (List C)} {vs : Array Value},
    aJ (fun (p : Nat × T) (q : Nat × Value) => p.1 = q.1 ∧ p.2.rep γ tok w q.2) parts vals → vF size len es parts = some es' → es.length = len → (∀ e ∈ es, e.length = size) → aJ (C.rep γ.fr w) es.flatten vs.toList →
    ∃ vs' : Array Value, Instr.fill (fun i => some (i * size, size)) vs vals = some vs' ∧ aJ (C.rep γ.fr w) es'.flatten vs'.toList ∧ es'.length = len ∧ (∀ e ∈ es', e.length = size)
  | [], [], es, es', vs, _, h, hl, hs, hc => by simp [vF] at h; subst h; exact ⟨vs, rfl, hc, hl, hs⟩
  | (i, x) :: parts, (j, v) :: vals, es, es', vs, hpv, h, hl, hs, hc => by
    obtain ⟨⟨hij, hx⟩, hrest⟩ := hpv
    simp only at hij hx
    subst hij
    simp only [vF] at h
    split at h
    · rename_i k hk
      split at h
      · rename_i e he
        split at h
        · rename_i hcond
          obtain ⟨hesz, hil⟩ := hcond
          rw [k?_eq hk] at hx
          simp only [T.rep] at hx
          have hec := eh he (K.cells_rep hx)
          have hlen := hec.length
          have hcl := hc.length
          rw [cj hs, hl] at hcl
          simp only [Array.length_toList] at hlen hcl
          have hmul : i * size + size ≤ len * size := by rw [← Nat.succ_mul]; exact Nat.mul_le_mul_right _ hil
          have hin : i * size + v.cells.toList.length ≤ vs.size := by simp; omega
          have hnew : aJ (C.rep γ.fr w) (es.set i e).flatten (fZ vs (i * size) v.cells.toList).toList := by
            rw [fh _ _ _ hin, lZ hs (by omega) hesz]
            exact hc.spliceC hec (i * size)
          have hs' : ∀ y ∈ es.set i e, y.length = size := fun y hy => by
            rcases List.mem_or_eq_of_mem_set hy with hy | rfl
            · exact hs y hy
            · exact hesz
          obtain ⟨vs', h1, h2, h3⟩ := lR hrest h (by simpa using hl) hs' hnew
          refine ⟨vs', ?_, h2, h3⟩
          simp only [Instr.fill]
          rw [if_neg (by simp; omega), py]
          exact h1
        · cases h
      · cases h
    · cases h
  | [], _ :: _, _, _, _, h, _, _, _, _ => h.elim
  | _ :: _, [], _, _, _, h, _, _, _, _ => h.elim
theorem ni {z : List Value} (n : Nat) : ((List.range (n * z.length)).map fun i => z.getD (i % z.length) undef) = (List.replicate n z).flatten := by
  induction n with
  | zero => simp
  | succ n ih =>
    rw [Nat.succ_mul, List.range_add, List.map_append, ih, List.replicate_succ', List.flatten_append]
    congr 1
    simp only [List.map_map, List.flatten_cons, List.flatten_nil, List.append_nil]
    apply List.ext_getElem?
    intro i
    by_cases hi : i < z.length
    · simp [hi, Nat.mod_eq_of_lt hi]
    · simp [hi]
theorem fI {Fr : Nat → Nat → Prop} {w : World} {z : List C} {zs : List Value} (h : aJ (C.rep Fr w) z zs) : ∀ (n : Nat), aJ (C.rep Fr w) (List.replicate n z).flatten (List.replicate n zs).flatten
  | 0 => trivial
  | n + 1 => by
    simp only [List.replicate_succ, List.flatten_cons]
    exact h.append (fI h n)
theorem ke {E : Env} {F : Fm} {γ : Gh} {m : Mem} {a : Act} {w : World} (h : Rel F γ m a w) (hg : cJ E.gl γ.fr w) {o : Oper} (hd : ∀ t, o.dst = some t → t < F.n) {nv sz n : Nat} {es : List (List C)} {vs : Array Value} {t : TypeId}
    (hx : aJ (C.rep γ.fr w) es.flatten vs.toList) (hs : ∀ e ∈ es, e.length = sz) (hn : es.length = n)
    (hrun : (execOp a.eval o).run E.P w = .ok (.value (.slice (some ⟨w.heap.size, 0, none⟩) n n)) (w.alloc (.cells vs t))) {Q : Exit → Act → World → Prop} :
    o.wp E.P a w (ed E F (m.apply o.dst nv { dst := .k (.v (.own sz es .exact)) })) Q := by
  have hb : Below w.heap.size w (w.alloc (.cells vs t)) := (Below.refl _ w).alloc (Nat.le_refl _) _
  obtain ⟨h1, h2⟩ := h.grow hb (fr' := fun b o => γ.fr b o ∨ (b = w.heap.size ∧ o < vs.size)) (fun _ _ h => .inl h) (fun b o hx => by
    rcases hx with hx | ⟨rfl, _⟩
    · exact .inl hx
    · exact .inr ⟨Nat.le_refl _, by simp⟩)
  refine d8 hrun ⟨_, ?_, hg.mono h2.ev⟩
  rw [Mem.apply_pure]
  refine h1.put hd ?_
  simp only [T.rep, K.rep, V.rep]
  refine ⟨?_, _, n, rfl⟩
  simp only [C.rep]
  refine ⟨_, n, n, rfl, hn.symm, Nat.le_refl _, .inr ⟨w.heap.size, 0, rfl, dj hs (db fun i c hi => ?_)⟩⟩
  obtain ⟨v, hv, hr⟩ := hx.get i c hi
  have hlt : i < vs.size := by
    have := (List.getElem?_eq_some_iff.1 hv).1
    simpa using this
  refine ⟨.inr ⟨rfl, by omega⟩, v, ?_, C.rep.mono h2.ev c v hr⟩
  rw [Nat.zero_add, World.cell?_alloc_new]
  simpa using hv
theorem mt {E : Env} {F : Fm} {γ : Gh} {m : Mem} {a : Act} {w : World} (h : Rel F γ m a w) (hg : cJ E.gl γ.fr w) {o : Oper} (hd : ∀ t, o.dst = some t → t < F.n) {nv : Nat} {t : TypeId} {len : Nat} {ps : Array (Nat × Operand)} (ho : o.op = .buildSlice t len ps) {x : T}
    (hx : nJ E.P t len (oA E.P (xH E.P t) (ps.toList.map fun (i, x) => (i, E.ev m x))) = some x) {Q : Exit → Act → World → Prop} : o.wp E.P a w (ed E F (m.apply o.dst nv { dst := x })) Q := by
  unfold nJ at hx
  split at hx
  · rename_i e hu
    split at hx
    · rename_i z hz
      split at hx
      · rename_i zc hzc
        split at hx
        · rename_i hcond
          obtain ⟨hzl, hpos, hmax⟩ := hcond
          simp only [Option.map_eq_some_iff] at hx
          obtain ⟨es, hes, rfl⟩ := hx
          obtain ⟨zv, hzrun, hzrep, i, hi, hzi⟩ := eZ (γ := γ) (tok := m.tok) (w := w) hz
          have hzc' := eh hzc hzrep
          have hzlen : zv.cells.toList.length = E.P.cellsOf e := by rw [← hzc'.length]; exact hzl
          have hpv := la (f := E.ev m) (g := a.eval) (γ := γ) (tok := m.tok) (w := w) (fun x => dZ h hg x) ps.toList
          have hpv := kc (P := E.P) (t := xH E.P t) hpv
          have hz0 : aJ (C.rep γ.fr w) (List.replicate len zc).flatten ((Array.range (len * E.P.cellsOf e)).map (fun i => zv.cells[i % zv.cells.size]!)).toList := by
            have e1 : ((Array.range (len * E.P.cellsOf e)).map (fun i => zv.cells[i % zv.cells.size]!)).toList = (List.replicate len zv.cells.toList).flatten := by
              rw [← ni len (z := zv.cells.toList)]
              rw [← hzlen]
              simp only [Array.toList_map, Array.toList_range, Array.length_toList]
              apply List.map_congr_left
              intro j hj
              have hlt : j % zv.cells.size < zv.cells.size := Nat.mod_lt _ (by simp only [Array.length_toList] at hzlen; omega)
              simp [hlt]
            rw [e1]
            exact fI hzc' len
          obtain ⟨vs', h1, h2, h3, h4⟩ := lR hpv hes (by simp) (fun y hy => by rw [List.eq_of_mem_replicate hy]; exact hzl) hz0
          refine ke h hg hd (t := e) h2 h4 h3 ?_
          have hne : ¬ (len * E.P.cellsOf e > 2 ^ 24) := by omega
          have hparts : (ps.map fun (i, x) => (i, a.eval x)).toList = ps.toList.map fun (i, x) => (i, a.eval x) := by simp
          by_cases h0 : len * E.P.cellsOf e = 0
          · have hfill : Instr.fill (fun i => some (i * E.P.cellsOf e, E.P.cellsOf e)) ((Array.range (len * E.P.cellsOf e)).map fun x => (#[] : Array Value)[x % (#[] : Array Value).size]!) (ps.toList.map fun (i, x) => (i, a.eval x)) = some vs' := by
              rw [h0] at h1 ⊢
              have e0 : ∀ f : Nat → Value, (Array.range 0).map f = #[] := fun f => by simp [Array.range]
              rw [e0] at h1 ⊢
              exact h1
            simp only [execOp, ho, Instr.buildSlice, Sem.run_bind, run_underlying hu, bn hi, Result.andThen_ok, if_neg hne, if_pos h0, Sem.run_pure, hparts, hfill]
            simp [newRow]
          · simp only [execOp, ho, Instr.buildSlice, Sem.run_bind, run_underlying hu, bn hi, Result.andThen_ok, if_neg hne, if_neg h0, Sem.run_pure, hzrun, hparts, h1]
            simp [newRow]
        · cases hx
      · cases hx
    · cases hx
  · cases hx
end Go.Dm
namespace Go.Dm
open Go.RowKit
theorem dK {P : Program} {Fr : Nat → Nat → Prop} {w : World} {sz size : Nat} {es : List (List C)} {a : Option Addr} {n cap : Nat} (h : (C.slice sz es).rep Fr w (.slice a n cap)) (hs : sz = size ∨ es = []) :
    n = es.length ∧ n ≤ cap ∧ (∀ e ∈ es, e.length = size) ∧ ∃ vs : List Value, aJ (C.rep Fr w) es.flatten vs ∧ vs.length = n * size ∧ (∀ u ∈ vs, u.oneCell' = true) ∧
      ((vs = [] ∧ n = 0 ∧ cap = 0) ∨ ∃ b o, a = some ⟨b, o, none⟩ ∧ w.rangeAt b o vs) ∧
      (Builtin.firstCells size n (.slice a n cap)).run P w.drew = .ok vs.toArray w.drew := by
  simp only [C.rep] at h
  obtain ⟨a', n', cap', heq, rfl, hle, hb⟩ := h
  simp only [Value.slice.injEq] at heq
  obtain ⟨rfl, rfl, rfl⟩ := heq
  have one : ∀ {vs : List Value}, aJ (C.rep Fr w) es.flatten vs → ∀ u ∈ vs, u.oneCell' = true := fun {vs} hv u hu => by
    obtain ⟨i, hi, rfl⟩ := List.getElem_of_mem hu
    have hlen := hv.length
    obtain ⟨u', hu', hr⟩ := hv.get i _ (List.getElem?_eq_getElem (by omega))
    rw [List.getElem?_eq_getElem hi] at hu'
    cases hu'
    exact C.rep_one hr
  rcases hb with ⟨h0, hc0⟩ | ⟨b, o, rfl, hr⟩
  · have : es = [] := List.eq_nil_of_length_eq_zero h0
    subst this
    refine ⟨rfl, hle, by simp, [], trivial, by simp, by simp, .inl ⟨rfl, rfl, hc0⟩, ?_⟩
    cases a with
    | none => exact run_firstCells_none w.drew size 0 0 _
    | some ad => exact run_firstCells_some w.drew size _ ad _ _ [] (by simp) (fun j u hj => by simp at hj)
  · have hsz : ∀ e ∈ es, e.length = size := by
      rcases hs with rfl | rfl
      · exact o6 hr
      · simp
    obtain ⟨vs, h1, h2⟩ := gB (kf hr)
    have hlen : vs.length = es.length * size := by rw [← h1.length, cj hsz]
    refine ⟨rfl, hle, hsz, vs, h1, hlen, one h1, .inr ⟨b, o, rfl, h2⟩, ?_⟩
    exact run_firstCells_some w.drew size _ ⟨b, o, none⟩ _ _ vs hlen (fun j u hj => by
      rw [Addr.add_mid]; simpa using h2 j u hj)
theorem iM {P : Program} {Fr : Nat → Nat → Prop} {w : World} {sz size : Nat} {es : List (List C)} {tx e' : TypeId} (hk : P.underlying tx = some (.slice e')) {a : Option Addr} {n cap : Nat} (h : (C.slice sz es).rep Fr w (.slice a n cap)) (hs : sz = size ∨ es = []) :
    ∃ vs : List Value, aJ (C.rep Fr w) es.flatten vs ∧ Src P size tx (.slice a n cap) n vs w := by
  obtain ⟨_, _, _, vs, h1, h2, h3, h4, _⟩ := dK (P := P) h hs
  refine ⟨vs, h1, ?_⟩
  rcases h4 with ⟨rfl, rfl, rfl⟩ | ⟨b, o, rfl, hr⟩
  · cases a with
    | none => exact Src.ofNil w hk 0
    | some ad => exact Src.ofSlice w hk ad 0 0 [] (by simp) (fun j u hj => by simp at hj) (by simp)
  · exact Src.ofSlice w hk ⟨b, o, none⟩ n cap vs h2 (fun j u hj => by rw [Addr.add_mid]; exact hr j u hj) h3
theorem dE (w : World) (need old : Nat) (e : TypeId) : need ≤ grownCap w need old e := by
  unfold grownCap Question.cut
  exact Nat.le_add_right _ _
theorem gX (zero : Array Value) (n : Nat) : (Builtin.zeroCells zero n).size = n * zero.size := by simp [Builtin.zeroCells]
theorem sI {Fr Fr' : Nat → Nat → Prop} {w w' : World} (he : Ev Fr Fr' w w') {size b : Nat} {es : List (List C)} {vs : List Value} (hx : aJ (C.rep Fr w) es.flatten vs) (hs : ∀ e ∈ es, e.length = size)
    (hfr : ∀ o, o < es.length * size → Fr' b o) (hr : w'.rangeAt b 0 vs) : be Fr' w' size b es 0 := by
  refine dj hs (db fun i c hi => ?_)
  obtain ⟨v, hv, hrep⟩ := hx.get i c hi
  have hlt : i < es.flatten.length := (List.getElem?_eq_some_iff.1 hi).1
  rw [cj hs] at hlt
  exact ⟨hfr _ (by omega), v, hr i v hv, C.rep.mono he c v hrep⟩
theorem Mem.apply_tok (m : Mem) (d : Option Tmp) (nv i n : Nat) (x : T) (rt : List Nat) : m.apply d nv { dst := x, ut := [(i, n)], rt } = Mem.put { m with tok := fun j => if j = i then some n else m.tok j } d x := by
  have hv : (m.apply d nv { dst := x, ut := [(i, n)], rt }).tok = fun j => if j = i then some n else m.tok j := by
    funext j
    simp only [Mem.apply, lk]
    by_cases h : i = j
    · simp [h]
    · simp [h, Ne.symm h]
  cases d with
  | none =>
    simp only [Mem.put]
    rw [← hv]
    simp [Mem.apply, lk]
  | some d =>
    simp only [Mem.put]
    rw [← hv]
    simp only [Mem.apply, lk, Option.isSome_none, Bool.false_eq_true, and_false, if_false, Option.some.injEq]
    congr 1
    funext t
    by_cases h : d = t
    · simp [h]
    · simp [h, Ne.symm h]
theorem Rel.addTok {F : Fm} {γ : Gh} {m : Mem} {a : Act} {w : World} (h : Rel F γ m a w) {i n : Nat} (hi : m.tok i = none) {k : TkInfo} (hk : n ≤ k.cap ∧ (k.cap = n ∨ ∃ b, k.base = some ⟨b, 0, none⟩ ∧ F.spare b (n * k.sz) ∧
      (∃ arr e, w.heap[b]? = some (.cells arr e (0, 0)) ∧ k.cap * k.sz ≤ arr.size) ∧ ∀ o, n * k.sz ≤ o → ¬ γ.fr b o))
    (h1 : ∀ j l, m.tok j = some l → (γ.tk j).cap ≠ l → k.cap ≠ n → (γ.tk j).base.map (·.block) ≠ k.base.map (·.block)) (h2 : ∀ id xs b o, m.var id = some xs → γ.loc id = some (b, o) → k.cap ≠ n → k.base.map (·.block) ≠ some b) :
    let γ' : Gh := { γ with tk := fun j => if j = i then k else γ.tk j }
    let m' : Mem := { m with tok := fun j => if j = i then some n else m.tok j }
    Rel F γ' m' a w ∧ Ex γ γ' m.tok m'.tok w w := by
  intro γ' m'
  have hne : ∀ j l, m.tok j = some l → j ≠ i := fun j l hj he => by rw [he, hi] at hj; cases hj
  have hex : Ex γ γ' m.tok m'.tok w w := ⟨.refl _ _, fun _ _ h => h, fun j l hj => .inl ⟨by simp [m', hne j l hj, hj], by simp [γ', hne j l hj]⟩⟩
  refine ⟨?_, hex⟩
  exact {
    defers := h.defers
    size := h.size
    base := h.base
    fr0 := h.fr0
    frs := h.frs
    frlt := h.frlt
    loclt := h.loclt
    tmps := fun t => T.rep.mono hex _ _ (h.tmps t)
    gh := fun x v n k hp => ⟨(h.gh x v n k hp).1, T.rep.mono (hex.upto _ _) _ _ (h.gh x v n k hp).2⟩
    vars := fun id xs hv => by
      obtain ⟨b, o, k1, ⟨vs, k2, k3⟩, k4, k5⟩ := h.vars id xs hv
      exact ⟨b, o, k1, ⟨vs, k2.mono (fun x v => V.rep.mono hex x v), k3⟩, k4, k5⟩
    novar := h.novar
    lentloc := h.lentloc
    apart := h.apart
    toks := fun j l hj => by
      by_cases he : j = i
      · subst he
        simp only [m', if_true, Option.some.injEq] at hj
        subst hj
        simpa [qI, γ'] using hk
      · simp only [m', he, if_false] at hj
        simpa [qI, γ', he] using h.toks j l hj
    tapart := fun j l x y hjl hj hl hcj hcl => by
      by_cases he : j = i
      · subst he
        have hl' : l ≠ j := Ne.symm hjl
        simp only [m', γ', hl', if_false, if_true, Option.some.injEq] at hj hl hcj hcl ⊢
        subst hj
        exact fun heq => h1 l y hl hcl hcj heq.symm
      · by_cases he' : l = i
        · subst he'
          simp only [m', γ', he, if_false, if_true, Option.some.injEq] at hj hl hcj hcl ⊢
          subst hl
          exact h1 j x hj hcj hcl
        · simp only [m', γ', he, he', if_false] at hj hl hcj hcl ⊢
          exact h.tapart j l x y hjl hj hl hcj hcl
    tvar := fun j x id xs b o hj hv hl hcj => by
      by_cases he : j = i
      · subst he
        simp only [m', γ', if_true, Option.some.injEq] at hj hcj ⊢
        subst hj
        exact h2 id xs b o hv hl hcj
      · simp only [m', γ', he, if_false] at hj hcj ⊢
        exact h.tvar j x id xs b o hj hv hl hcj }
theorem Rel.tag {F : Fm} {γ : Gh} {m : Mem} {a : Act} {w : World} (h : Rel F γ m a w) {j sz z : Nat} {es : List (List C)} {v : Value} (hj : m.tok j = none) (hv : (V.own sz es .exact).rep γ m.tok w v) :
    ∃ γ' : Gh, Rel F γ' { m with tok := fun i => if i = j then some es.length else m.tok i } a w ∧ Ex γ γ' m.tok (fun i => if i = j then some es.length else m.tok i) w w ∧ γ'.loc = γ.loc ∧ (V.own (if es.isEmpty then z else sz) es (.tok j)).rep γ' (fun i => if i = j then some es.length else m.tok i) w v := by
  simp only [V.rep, ig] at hv
  obtain ⟨hs, ba, n, rfl⟩ := hv
  have hn : n = es.length := by
    simp only [C.rep] at hs
    obtain ⟨_, _, _, heq, h1, _⟩ := hs
    simp only [Value.slice.injEq] at heq
    omega
  subst hn
  obtain ⟨h1, h2⟩ := h.addTok (i := j) (n := es.length) hj (k := ⟨ba, es.length, if es.isEmpty then z else sz⟩) ⟨Nat.le_refl _, .inl rfl⟩ (fun _ _ _ _ hc => absurd rfl hc) (fun _ _ _ _ _ _ hc => absurd rfl hc)
  refine ⟨_, h1, h2, rfl, ?_⟩
  simp only [V.rep, ig]
  refine ⟨?_, es.length, by simp, Nat.le_refl _, fun _ => ⟨by simp, by simp⟩⟩
  cases es with
  | nil =>
    simp only [C.rep] at hs ⊢
    obtain ⟨a', len, cap, heq, h3, h4, h5⟩ := hs
    refine ⟨a', len, cap, heq, h3, h4, ?_⟩
    rcases h5 with h5 | ⟨b, o, h5, _⟩
    · exact .inl h5
    · exact .inr ⟨b, o, h5, by simp only [be]⟩
  | cons e es => simpa using hs
theorem pk {E : Env} {F : Fm} {γ : Gh} {m : Mem} {a : Act} {w : World} (h : Rel F γ m a w) (hg : cJ E.gl γ.fr w) {o : Oper} (hd : ∀ t, o.dst = some t → t < F.n) {nv nt : Nat} {args : Array Operand} {argTypes : Array TypeId}
    (ho : o.op = .call { callee := .builtin .append, args, argTypes }) {e : Eff} (he : gr E.P m nt argTypes.toList (args.toList.map (E.ev m)) = some e) (hnt : ∀ i n, (i, n) ∈ e.ut → i ∉ e.rt → m.tok i = none) {Q : Exit → Act → World → Prop} :
    o.wp E.P a w (ed E F (m.apply o.dst nv e)) Q := by
  unfold gr at he
  split at he
  · rename_i t tx s x hty hargs
    have hargs' : ∃ so xo, args.toList = [so, xo] ∧ s = E.ev m so ∧ x = E.ev m xo := by
      match hq : args.toList with
      | [] => rw [hq] at hargs; cases hargs
      | [_] => rw [hq] at hargs; simp at hargs
      | [so, xo] => rw [hq] at hargs; simp at hargs; exact ⟨so, xo, rfl, hargs.1.symm, hargs.2.symm⟩
      | _ :: _ :: _ :: _ => rw [hq] at hargs; simp at hargs
    obtain ⟨so, xo, hal, rfl, rfl⟩ := hargs'
    have hae : args = #[so, xo] := by rw [← Array.toArray_toList (xs := args), hal]
    have hte : argTypes = #[t, tx] := by rw [← Array.toArray_toList (xs := argTypes), hty]
    have hexec : ∀ (v : Value) (w' : World), (Builtin.append_ #[t, tx] o.type #[a.eval so, a.eval xo]).run E.P w = .ok v w' → (execOp a.eval o).run E.P w = .ok (.value v) w' := fun v w' hrun => by
      simp only [execOp, ho, resolve, invoke, builtin, Sem.run_bind, Sem.run_pure, Result.andThen_ok, hae, hte]
      simp [hrun]
    have hs := dZ h hg so
    have hx := dZ h hg xo
    split at he
    · rename_i el sz es tk sz' fs hu hcs happ
      unfold fX at happ
      split at happ
      · rename_i el' v hux hcx
        rw [cell?_eq hcs] at hs
        rw [cell?_eq hcx] at hx
        simp only [T.rep, K.rep] at hs hx
        have hxr := dM happ hx
        split at he
        · rename_i i hi
          split at he
          · rename_i hcond
            obtain ⟨hpos, hbytes, hzero, hsz, hsz', hmost⟩ := hcond
            obtain ⟨z, hz, hzs⟩ : ∃ z, i.zero = some z ∧ z.cells.size = i.size := by
              cases hq : i.zero with
              | none => simp [hq] at hzero
              | some z => exact ⟨z, rfl, by simpa [hq] using hzero⟩
            have hsr := hs.1
            have hsv : ∃ ba n cap, a.eval so = .slice ba n cap := by
              simp only [C.rep] at hsr; obtain ⟨ba, n, cap, hq, _⟩ := hsr; exact ⟨ba, n, cap, hq⟩
            have hxv : ∃ ba n cap, a.eval xo = .slice ba n cap := by
              simp only [C.rep] at hxr; obtain ⟨ba, n, cap, hq, _⟩ := hxr; exact ⟨ba, n, cap, hq⟩
            obtain ⟨ba, n, cap, hsv⟩ := hsv
            obtain ⟨ba', k, cap', hxv⟩ := hxv
            rw [hsv] at hs hsr
            rw [hxv] at hxr
            rw [hsv, hxv] at hexec
            obtain ⟨hn, hncap, hses, olds, holds, hol, hoone, hobase, hofirst⟩ := dK (P := E.P) hsr hsz
            obtain ⟨news, hnews, hsrc⟩ := iM hux hxr hsz'
            obtain ⟨hk, _, hsfs, _⟩ := dK (P := E.P) hxr hsz'
            have hnl := hnews.length
            rw [cj hsfs] at hnl
            cases fs with
            | nil => -- nothing is fX
              have hk0 : k = 0 := by simpa using hk
              subst hk0
              have hn0 : news = [] := List.eq_nil_of_length_eq_zero (by rw [← hnl]; simp)
              subst hn0
              have hrun := run_append_nothing w t tx o.type el i hu hi ba n cap hncap _ hsrc
              split at he
              · cases he
                obtain ⟨γ', h1, h2, _, h3⟩ := h.tag (z := i.size) (hnt nt (es ++ []).length (by simp) (by simp)) (v := .slice ba n cap) hs
                refine d8 (hexec _ _ hrun) ⟨γ', ?_, hg.mono h2.ev⟩
                simp only [List.append_nil]
                rw [Mem.apply_tok]
                refine h1.put hd ?_
                simp only [T.rep, K.rep]
                have hse : (if es.isEmpty then i.size else sz) = i.size := by
                  cases es with
                  | nil => rfl
                  | cons _ _ => rcases hsz with h | h
                                · exact h
                                · cases h
                rw [hse] at h3
                exact h3
              · rename_i j
                split at he
                · rename_i hcj
                  obtain ⟨hszj, htj⟩ := hcj
                  cases he
                  refine d8 (hexec _ _ hrun) ⟨γ, ?_, hg⟩
                  simp only [List.append_nil]
                  rw [Mem.apply_tok]
                  have hm : ({ m with tok := fun i => if i = j then some es.length else m.tok i } : Mem) = m := by
                    cases m
                    congr 1
                    funext i
                    by_cases hi : i = j
                    · subst hi; simp; exact htj.symm
                    · simp [hi]
                  rw [hm]
                  refine h.put hd ?_
                  simp only [T.rep, K.rep]
                  exact hs
                · cases he
            | cons f0 fr0 =>
              have hkpos : 0 < k := by rw [hk]; simp
              have hall : aJ (C.rep γ.fr w) (es ++ f0 :: fr0).flatten (olds ++ news) := by
                rw [List.flatten_append]; exact holds.append hnews
              have hsall : ∀ y ∈ es ++ f0 :: fr0, y.length = i.size := fun y hy => by
                rcases List.mem_append.1 hy with hy | hy
                · exact hses y hy
                · exact hsfs y hy
              have hlenall : (es ++ f0 :: fr0).length = n + k := by rw [List.length_append, ← hn, ← hk]
              have grow : ∀ (j : Nat) (_ : m.tok j = none ∨ (m.tok j = some n ∧ n < n + k)) (_ : cap < n + k) (rt : List Nat),
                  o.wp E.P a w (ed E F (m.apply o.dst nv { dst := .k (.v (.own i.size (es ++ f0 :: fr0) (.tok j))), ut := [(j, (es ++ f0 :: fr0).length)], rt })) Q := by
                intro j hj hlt rt
                have hmost' : n + k ≤ 1073741824 := by rw [hn, hk]; exact hmost
                have hfit : Builtin.nextslicecap (n + k) cap * i.bytes ≤ 281474976710656 := growslice_fits hlt (by
                  calc (n + k) * i.bytes ≤ 1073741824 * 131072 := Nat.mul_le_mul hmost' hbytes
                    _ ≤ 140737488355328 := by decide)
                have hrun := run_append_grow_src (P := E.P) w t tx o.type el i z hu hi hz ba n cap olds (by
                  have := hofirst
                  simpa [Builtin.firstCells] using this) _ k news hsrc hlt (by omega) hfit
                have hb : Below w.heap.size w (w.drew.alloc (.cells ((olds ++ news).toArray ++ Builtin.zeroCells z.cells (grownCap w (n + k) cap el - (n + k))) el)) :=
                  ((Below.refl _ w).drew).alloc (Nat.le_refl _) _
                have hsize : ((olds ++ news).toArray ++ Builtin.zeroCells z.cells (grownCap w (n + k) cap el - (n + k))).size = grownCap w (n + k) cap el * i.size := by
                  rw [Array.size_append, gX, hzs]
                  have e1 : (olds ++ news).toArray.size = (n + k) * i.size := by
                    rw [List.size_toArray, List.length_append, hol, ← hnl, ← hk, Nat.add_mul]
                  rw [e1, ← Nat.add_mul]
                  congr 1
                  have := dE w (n + k) cap el
                  omega
                obtain ⟨h1, h2⟩ := h.newRow hb (i := j) (n := n) (n' := n + k) (cap := grownCap w (n + k) cap el) (sz := i.size) hj (arr := (olds ++ news).toArray ++ Builtin.zeroCells z.cells (grownCap w (n + k) cap el - (n + k))) (e := el)
                  (by show (w.heap.push _)[w.heap.size]? = _; simp) (dE _ _ _ _) (by omega)
                refine d8 (hexec _ _ hrun) ⟨_, ?_, hg.mono h2.ev⟩
                rw [Mem.apply_tok, hlenall]
                refine h1.put hd ?_
                simp only [T.rep, K.rep, V.rep]
                refine ⟨?_, ⟨n + k, by simp, by omega, fun _ => ⟨by simp, by simp⟩⟩⟩
                simp only [C.rep]
                refine ⟨_, _, _, rfl, hlenall.symm, dE _ _ _ _, .inr ⟨w.heap.size, 0, rfl, ?_⟩⟩
                refine sI h2.ev hall hsall (fun o ho => .inr ⟨rfl, by rw [hlenall] at ho; exact ho⟩) (fun q v hq => ?_)
                have := World.cell?_alloc_new w.drew ((olds ++ news).toArray ++ Builtin.zeroCells z.cells (grownCap w (n + k) cap el - (n + k))) el (0 + q)
                simp only [World.size_drew] at this
                rw [this]
                have hql : q < (olds ++ news).length := (List.getElem?_eq_some_iff.1 hq).1
                rw [Nat.zero_add, Array.getElem?_append_left (by simpa using hql)]
                simpa using hq
              split at he
              · -- exact
                cases he
                obtain ⟨a', n', hq⟩ := hs.2
                simp only [Value.slice.injEq] at hq
                exact grow nt (.inl (hnt nt (es ++ f0 :: fr0).length (by simp) (by simp))) (by omega) []
              · rename_i j
                split at he
                · rename_i hcj
                  obtain ⟨hszj, htj⟩ := hcj
                  cases he
                  obtain ⟨n', hn', hle', hfull⟩ := hs.2
                  rw [htj] at hn'
                  cases hn'
                  obtain ⟨hv, hsztk⟩ := hfull rfl
                  simp only [Value.slice.injEq] at hv
                  obtain ⟨hba, _, hcapeq⟩ := hv
                  rw [← hn] at htj
                  subst hszj
                  by_cases hroom : n + k ≤ cap
                  · have hcne : (γ.tk j).cap ≠ n := by omega
                    obtain ⟨_, htok2⟩ := h.toks j n htj
                    obtain ⟨b, hbs, _, _, _⟩ := htok2.resolve_left hcne
                    have hlen2 : news.length = k * (γ.tk j).sz := by rw [← hnl, ← hk, hsztk]
                    obtain ⟨h1, h2, hth⟩ := h.inPlace htj hcne hbs news hlen2 (by omega) hkpos
                    rw [hsztk] at h1 h2 hth
                    rw [hba, hbs] at hexec
                    have hrun := run_append_room_src (P := E.P) w t tx o.type el i hu hi b 0 n cap _ k news hsrc hroom (fun q hq => by
                      rw [Nat.zero_add]; exact (hth q hq).1) (fun q hq => by rw [Nat.zero_add]; exact (hth q hq).2)
                    rw [Nat.zero_add] at hrun
                    refine d8 (hexec _ _ hrun) ⟨_, ?_, hg.mono h2.ev⟩
                    rw [Mem.apply_tok, hlenall]
                    refine h1.put hd ?_
                    simp only [T.rep, K.rep, V.rep]
                    refine ⟨?_, ⟨n + k, by simp, by omega, fun _ => ⟨by rw [hbs, hcapeq], hsztk⟩⟩⟩
                    simp only [C.rep]
                    refine ⟨_, _, _, rfl, hlenall.symm, hroom, .inr ⟨b, 0, rfl, ?_⟩⟩
                    have hobase' : ∃ b' o', (some ⟨b, 0, none⟩ : Option Addr) = some ⟨b', o', none⟩ ∧ w.rangeAt b' o' olds := by
                      rcases hobase with ⟨_, _, hc0⟩ | ⟨b', o', hq, hr⟩
                      · exfalso; simp only [List.length_cons] at hk; omega
                      · exact ⟨b', o', by rw [← hq, hba, hbs], hr⟩
                    obtain ⟨b', o', hq, hr⟩ := hobase'
                    cases hq
                    have hrow : be γ.fr w i.size b es 0 := by
                      have hh := hsr
                      simp only [C.rep] at hh
                      obtain ⟨a2, n2, c2, hq2, _, _, hrows⟩ := hh
                      simp only [Value.slice.injEq] at hq2
                      rcases hrows with ⟨_, hc0⟩ | ⟨b3, o3, hq3, hr3⟩
                      · exfalso; simp only [List.length_cons] at hk; omega
                      · rw [← hq2.1, hba, hbs] at hq3; cases hq3; exact hr3
                    refine ji (be.mono h2.ev _ _ _ _ hrow) ?_
                    rw [Nat.zero_add, ← hn]
                    refine dj hsfs (db fun q c hqc => ?_)
                    obtain ⟨v, hv, hrep⟩ := hnews.get q c hqc
                    have hql : q < news.length := (List.getElem?_eq_some_iff.1 hv).1
                    refine ⟨.inr ⟨rfl, ?_, by omega⟩, v, ?_, C.rep.mono h2.ev c v hrep⟩
                    · rw [Nat.add_mul]; rw [hsztk] at hlen2; omega
                    · have := World.cell?_setCells_in b news (n * i.size) w (fun q hq => (hth q hq).1) q hql
                      rw [this, ← hv, List.getElem?_eq_getElem hql]
                  · exact grow j (.inr ⟨htj, by omega⟩) (by omega) [j]
                · cases he
          · cases he
        · cases he
      · cases happ
    · cases he
  · cases he
theorem nB {E : Env} {F : Fm} {γ : Gh} {m : Mem} {a : Act} {w : World} (h : Rel F γ m a w) (hg : cJ E.gl γ.fr w) {o : Oper} (hd : ∀ t, o.dst = some t → t < F.n) {nv : Nat} {args : Array Operand} {argTypes : Array TypeId}
    (ho : o.op = .call { callee := .builtin .append, args, argTypes }) {e : Eff} (he : jx E.P nv argTypes.toList (args.toList.map (E.ev m)) = some e) (hnv : m.var nv = none) {Q : Exit → Act → World → Prop} :
    o.wp E.P a w (ed E F (m.apply o.dst nv e)) Q := by
  unfold jx at he
  split at he
  · rename_i t tx s x hty hargs
    have hargs' : ∃ so xo, args.toList = [so, xo] ∧ s = E.ev m so ∧ x = E.ev m xo := by
      match hq : args.toList with
      | [] => rw [hq] at hargs; cases hargs
      | [_] => rw [hq] at hargs; simp at hargs
      | [so, xo] => rw [hq] at hargs; simp at hargs; exact ⟨so, xo, rfl, hargs.1.symm, hargs.2.symm⟩
      | _ :: _ :: _ :: _ => rw [hq] at hargs; simp at hargs
    obtain ⟨so, xo, hal, rfl, rfl⟩ := hargs'
    have hae : args = #[so, xo] := by rw [← Array.toArray_toList (xs := args), hal]
    have hte : argTypes = #[t, tx] := by rw [← Array.toArray_toList (xs := argTypes), hty]
    have hexec : ∀ (v : Value) (w' : World), (Builtin.append_ #[t, tx] o.type #[a.eval so, a.eval xo]).run E.P w = .ok v w' → (execOp a.eval o).run E.P w = .ok (.value v) w' := fun v w' hrun => by
      simp only [execOp, ho, resolve, invoke, builtin, Sem.run_bind, Sem.run_pure, Result.andThen_ok, hae, hte]
      simp [hrun]
    have hs := dZ h hg so
    have hx := dZ h hg xo
    split at he
    · rename_i el sz sz' fs hu hcs happ
      unfold fX at happ
      split at happ
      · rename_i el' v hux hcx
        rw [cell?_eq hcs] at hs
        rw [cell?_eq hcx] at hx
        simp only [T.rep, K.rep] at hs hx
        have hxr := dM happ hx
        split at he
        · rename_i i hi
          split at he
          · rename_i hcond
            obtain ⟨hpos, hbytes, hzero, hsz', hfpos, hmost⟩ := hcond
            cases he
            obtain ⟨z, hz, hzs⟩ : ∃ z, i.zero = some z ∧ z.cells.size = i.size := by
              cases hq : i.zero with
              | none => simp [hq] at hzero
              | some z => exact ⟨z, rfl, by simpa [hq] using hzero⟩
            have hsr := hs.1
            obtain ⟨ba, n, hsv⟩ := hs.2
            have hn0 : n = 0 := by
              rw [hsv] at hsr
              simp only [C.rep] at hsr
              obtain ⟨_, _, _, hq, hl, _⟩ := hsr
              simp only [Value.slice.injEq] at hq
              simp at hl
              omega
            subst hn0
            have hxv : ∃ ba n cap, a.eval xo = .slice ba n cap := by
              simp only [C.rep] at hxr; obtain ⟨ba, n, cap, hq, _⟩ := hxr; exact ⟨ba, n, cap, hq⟩
            obtain ⟨ba', k, cap', hxv⟩ := hxv
            rw [hxv] at hxr
            rw [hsv, hxv] at hexec
            obtain ⟨news, hnews, hsrc⟩ := iM hux hxr (.inl hsz')
            obtain ⟨hk, _, hsfs, _⟩ := dK (P := E.P) hxr (.inl hsz')
            have hnl := hnews.length
            rw [cj hsfs] at hnl
            have hkpos : 0 < k := by rw [hk]; exact hfpos
            have hmost' : 0 + k ≤ 1073741824 := by rw [Nat.zero_add, hk]; exact hmost
            have hfit : Builtin.nextslicecap (0 + k) 0 * i.bytes ≤ 281474976710656 := growslice_fits (by omega) (by
              calc (0 + k) * i.bytes ≤ 1073741824 * 131072 := Nat.mul_le_mul hmost' hbytes
                _ ≤ 140737488355328 := by decide)
            have hsr0 : (C.slice i.size []).rep γ.fr w (.slice ba 0 0) := by
              simp only [C.rep]
              exact ⟨ba, 0, 0, rfl, rfl, Nat.le_refl _, .inl ⟨rfl, rfl⟩⟩
            obtain ⟨_, _, _, olds, holds, hol, _, _, hofirst⟩ := dK (P := E.P) hsr0 (.inl rfl)
            have ho0 : olds = [] := List.eq_nil_of_length_eq_zero (by rw [hol]; simp)
            subst ho0
            have hrun := run_append_grow_src (P := E.P) w t tx o.type el i z hu hi hz ba 0 0 [] hofirst _ k news hsrc (by omega) (by omega) hfit
            have hb : Below w.heap.size w (w.drew.alloc (.cells (([] ++ news).toArray ++ Builtin.zeroCells z.cells (grownCap w (0 + k) 0 el - (0 + k))) el)) :=
              ((Below.refl _ w).drew).alloc (Nat.le_refl _) _
            have hcell : ∀ (q : Nat), q < news.length → (w.drew.alloc (.cells (([] ++ news).toArray ++ Builtin.zeroCells z.cells (grownCap w (0 + k) 0 el - (0 + k))) el)).cell? ⟨w.heap.size, 0 + q, none⟩ = news[q]? := fun q hql => by
              have := World.cell?_alloc_new w.drew (([] ++ news).toArray ++ Builtin.zeroCells z.cells (grownCap w (0 + k) 0 el - (0 + k))) el (0 + q)
              simp only [World.size_drew] at this
              rw [this, Nat.zero_add, Array.getElem?_append_left (by simpa using hql)]
              simp
            obtain ⟨h1, h2⟩ := h.newRowVar hb (id := nv) hnv (V.cells_rep (tok := m.tok) hnews) (fun q v hq => by
              have hql : q < news.length := (List.getElem?_eq_some_iff.1 hq).1
              rw [hcell q hql]; exact hq) (fun q hq => by
              have hql : q < news.length := by rw [List.length_map, cj hsfs] at hq; omega
              refine ⟨by rw [hcell q hql, List.getElem?_eq_getElem hql]; rfl, ?_⟩
              have hpush : (w.drew.alloc (.cells (([] ++ news).toArray ++ Builtin.zeroCells z.cells (grownCap w (0 + k) 0 el - (0 + k))) el)).heap[w.heap.size]? = some (.cells (([] ++ news).toArray ++ Builtin.zeroCells z.cells (grownCap w (0 + k) 0 el - (0 + k))) el) := by
                show (w.heap.push _)[w.heap.size]? = _
                simp
              simp only [World.frozen?, hpush]
              simp) (by simp)
            refine d8 (hexec _ _ hrun) ⟨_, ?_, hg.mono h2.ev⟩
            rw [Mem.apply_newVar]
            refine h1.put hd ?_
            simp only [T.rep, K.rep, V.rep]
            refine ⟨w.heap.size, 0, grownCap w (0 + k) 0 el, by simp, ?_, ?_⟩
            · rw [Nat.zero_add, ← hk]
            · have := dE w (0 + k) 0 el
              omega
          · cases he
        · cases he
      · cases happ
    · cases he
  · cases he
end Go.Dm
namespace Go.Dm
open Go.RowKit
theorem BelowBut.cellKeep {imp : Nat → Nat → Prop} {w w' : World} (h : BelowBut imp w w') {b o : Nat} {v : Value} (hn : ¬ imp b o) (hv : w.cell? ⟨b, o, none⟩ = some v) : w'.cell? ⟨b, o, none⟩ = some v := by
  have hk := h.blk b (World.block_lt_of_cell? w _ hv)
  unfold World.cell? at hv ⊢
  simp only at hv ⊢
  split at hv
  · rename_i c e fz hc
    rw [hc] at hk
    obtain ⟨c', h1, h2, h3⟩ := hk
    simp only [h1]
    simp only [Option.isSome_none, Bool.false_eq_true, if_false] at hv ⊢
    rw [h3 o hn]
    exact hv
  · cases hv
theorem BelowBut.thereKeep {imp : Nat → Nat → Prop} {w w' : World} (h : BelowBut imp w w') {b o n : Nat} (ht : w.there b o n) : w'.there b o n := fun j hj => by
  obtain ⟨h1, h2⟩ := ht j hj
  obtain ⟨u, hu⟩ := Option.isSome_iff_exists.1 h1
  have hk := h.blk b (World.block_lt_of_cell? w _ hu)
  unfold World.cell? at hu ⊢
  unfold World.frozen? at h2 ⊢
  simp only at hu h2 ⊢
  split at hu
  · rename_i c e fz hc
    rw [hc] at hk h2
    obtain ⟨c', k1, k2, k3⟩ := hk
    simp only [k1]
    refine ⟨?_, h2⟩
    simp only [Option.isSome_none, Bool.false_eq_true, if_false] at hu ⊢
    have hlt : o + j < c.size := (Array.getElem?_eq_some_iff.1 hu).1
    simp [k2, hlt]
  · cases hu
theorem BelowBut.mapKeep {imp : Nat → Nat → Prop} {w w' : World} (h : BelowBut imp w w') {b : Nat} {es : Array MapEntry} {c : Nat} (hm : w.heap[b]? = some (.map es c)) : w'.heap[b]? = some (.map es c) := by
  have hlt : b < w.heap.size := by
    rcases Nat.lt_or_ge b w.heap.size with h | h
    · exact h
    · rw [Array.getElem?_eq_none h] at hm; cases hm
  have hk := h.blk b hlt
  rw [hm] at hk
  exact hk
theorem BelowBut.rowKeep {imp : Nat → Nat → Prop} {w w' : World} (h : BelowBut imp w w') {b : Nat} {arr : Array Value} {e : TypeId} {fz : Nat × Nat} (hm : w.heap[b]? = some (.cells arr e fz)) : ∃ arr', w'.heap[b]? = some (.cells arr' e fz) ∧ arr'.size = arr.size := by
  have hlt : b < w.heap.size := by
    rcases Nat.lt_or_ge b w.heap.size with h | h
    · exact h
    · rw [Array.getElem?_eq_none h] at hm; cases hm
  have hk := h.blk b hlt
  rw [hm] at hk
  obtain ⟨c', h1, h2, _⟩ := hk
  exact ⟨c', h1, h2⟩
theorem BelowBut.ev {imp : Nat → Nat → Prop} {w w' : World} (h : BelowBut imp w w') {Fr Fr' : Nat → Nat → Prop} (hf : ∀ b o, Fr b o → Fr' b o) (hn : ∀ b o, Fr b o → ¬ imp b o) : Ev Fr Fr' w w' :=
  ⟨hf, fun b o _ hfr hv => h.cellKeep (hn b o hfr) hv, fun _ _ _ _ hv => h.mapKeep hv⟩
theorem kQ.mono {p q : Nat → Prop} {x y : Option Obj} (h : kQ p x y) (hpq : ∀ j, p j → q j) : kQ q x y := by
  unfold kQ at h ⊢
  split
  · rename_i c e fz
    obtain ⟨c', h1, h2, h3⟩ := h
    exact ⟨c', h1, h2, fun j hj => h3 j (fun hp => hj (hpq j hp))⟩
  · rename_i hx
    split at h
    · rename_i c e fz; exact absurd rfl (hx c e fz)
    · exact h
theorem Rel.lent {F : Fm} {γ : Gh} {m : Mem} {a : Act} {w w' : World} (h : Rel F γ m a w) {id b o off n : Nat} {ys : List V} {ds : List C} (hv : m.var id = some ys) (hl : γ.loc id = some (b, o)) (hin : off + n ≤ ys.length) {fr' : Nat → Nat → Prop}
    (hbb : BelowBut (fun b' x => b' = b ∧ o + off ≤ x ∧ x < o + off + n) w w') (hf : ∀ b o, γ.fr b o → fr' b o) (hn : ∀ b o, fr' b o → γ.fr b o ∨ (w.heap.size ≤ b ∧ b < w'.heap.size)) (hds : gT fr' w' ds (b, o + off)) (hdl : ds.length = n) :
    let m' : Mem := { m with var := fun i => if i = id then some (ys.take off ++ ds.map .c ++ ys.drop (off + ds.length)) else m.var i }
    Rel F { γ with fr := fr' } m' a w' ∧ Ex γ { γ with fr := fr' } m.tok m.tok w w' := by
  intro m'
  subst hdl
  obtain ⟨b', o', h1, ⟨vs, h2, h3⟩, h4, h5⟩ := h.vars id ys hv
  rw [h1] at hl; cases hl
  have hnl : ∀ b' x, γ.fr b' x → ¬ (b' = b ∧ o + off ≤ x ∧ x < o + off + ds.length) := fun b' x hfr ⟨hb, h6, h7⟩ => by
    subst hb
    have := (h5 (x - o) (by omega)).1
    rw [show o + (x - o) = x by omega] at this
    exact this hfr
  have hex : Ex γ { γ with fr := fr' } m.tok m.tok w w' := ⟨hbb.ev hf hnl, fun _ _ h => h, fun _ _ h => .inl ⟨h, rfl⟩⟩
  have old : ∀ b o, b < w.heap.size → fr' b o → γ.fr b o := fun b o hlt hx => (hn b o hx).resolve_right (by omega)
  have hlen : (ys.take off ++ ds.map V.c ++ ys.drop (off + ds.length)).length = ys.length := by
    have := ea ys (ds.map V.c) off (by simpa using hin)
    simpa using this
  have hvl := h2.length
  refine ⟨?_, hex⟩
  exact {
    defers := h.defers
    size := h.size
    base := ⟨hbb.os.trans h.base.os, hbb.tape.trans h.base.tape, hbb.output.trans h.base.output, Nat.le_trans h.base.size hbb.size, fun i hi => (h.base.blk i hi).trans ((hbb.blk i (Nat.lt_of_lt_of_le hi h.base.size)).mono (fun j hj => by
      obtain ⟨rfl, h6, h7⟩ := hj
      have := (h5 (j - o) (by omega)).2
      rw [show o + (j - o) = j by omega] at this
      rcases this with this | this
      · exact this
      · omega))⟩
    fr0 := fun b o x => hf b o (h.fr0 b o x)
    frs := fun b o x => by
      rcases hn b o x with x | x
      · exact h.frs b o x
      · exact .inr (.inr (by have := h.base.size; omega))
    frlt := fun b o x => by
      rcases hn b o x with x | x
      · exact Nat.lt_of_lt_of_le (h.frlt b o x) hbb.size
      · exact x.2
    loclt := fun id b o hl => Nat.lt_of_lt_of_le (h.loclt id b o hl) hbb.size
    tmps := fun t => T.rep.mono hex _ _ (h.tmps t)
    gh := fun x v n k hp => ⟨(h.gh x v n k hp).1, T.rep.mono (hex.upto _ _) _ _ (h.gh x v n k hp).2⟩
    vars := fun i zs hi => by
      by_cases he : i = id
      · subst he
        simp only [m', if_true, Option.some.injEq] at hi
        subst hi
        obtain ⟨⟨us, hu1, hu2⟩, _, _⟩ := hds
        have hul := hu1.length
        refine ⟨b, o, h1, ⟨vs.take off ++ us ++ vs.drop (off + us.length), ?_, fun j v hj => ?_⟩, ?_, ?_⟩
        · have k1 := h2.mono (fun x v => V.rep.mono hex x v)
          have k2 : aJ (V.rep { γ with fr := fr' } m.tok w') (ds.map V.c) us := V.cells_rep hu1
          have := k1.splice k2 off
          simpa using this
        · by_cases c1 : j < off
          · rw [List.append_assoc, List.getElem?_append_left (by simp; omega), List.getElem?_take, if_pos c1] at hj
            exact hbb.cellKeep (fun hq => by omega) (h3 j v hj)
          · by_cases c2 : j < off + us.length
            · rw [List.append_assoc, List.getElem?_append_right (by simp; omega), List.getElem?_append_left (by simp; omega)] at hj
              have := hu2 (j - off) v (by rw [← hj]; congr 1; simp; omega)
              rwa [show (b, o + off).2 + (j - off) = o + j by simp; omega] at this
            · rw [List.getElem?_append_right (by simp; omega), List.getElem?_drop] at hj
              refine hbb.cellKeep (fun hq => by omega) (h3 j v ?_)
              rw [← hj]; congr 1; simp; omega
        · rw [hlen]; exact hbb.thereKeep h4
        · rw [hlen]
          intro j hj
          refine ⟨fun hx => ?_, (h5 j hj).2⟩
          obtain ⟨u, hu⟩ := Option.isSome_iff_exists.1 (h4 j hj).1
          exact (h5 j hj).1 (old b _ (World.block_lt_of_cell? w _ hu) hx)
      · simp only [m', he, if_false] at hi
        obtain ⟨b2, o2, k1, ⟨vs', k2, k3⟩, k4, k5⟩ := h.vars i zs hi
        have hap := h.apart i id zs ys b2 o2 b o he hi hv k1 h1
        have hkl := k2.length
        refine ⟨b2, o2, k1, ⟨vs', k2.mono (fun x v => V.rep.mono hex x v), fun j v hj => hbb.cellKeep (fun hq => ?_) (k3 j v hj)⟩, hbb.thereKeep k4, fun j hj => ⟨fun hx => ?_, (k5 j hj).2⟩⟩
        · have := (List.getElem?_eq_some_iff.1 hj).1
          omega
        · obtain ⟨u, hu⟩ := Option.isSome_iff_exists.1 (k4 j hj).1
          exact (k5 j hj).1 (old b2 _ (World.block_lt_of_cell? w _ hu) hx)
    novar := fun i hi => by
      by_cases he : i = id
      · subst he; simp [m'] at hi
      · simp [m', he] at hi; exact h.novar i hi
    lentloc := h.lentloc
    apart := fun i j zs us b1 o1 b2 o2 hij hi hj hl1 hl2 => by
      have key : ∀ k zs', m'.var k = some zs' → ∃ zs, m.var k = some zs ∧ zs.length = zs'.length := fun k zs' hk => by
        by_cases he : k = id
        · subst he
          simp only [m', if_true, Option.some.injEq] at hk
          subst hk
          exact ⟨ys, hv, hlen.symm⟩
        · simp only [m', he, if_false] at hk; exact ⟨zs', hk, rfl⟩
      obtain ⟨zs1, hz1, e1⟩ := key i _ hi
      obtain ⟨zs2, hz2, e2⟩ := key j _ hj
      have := h.apart i j zs1 zs2 b1 o1 b2 o2 hij hz1 hz2 hl1 hl2
      omega
    toks := fun i k hi => by
      obtain ⟨k1, k2⟩ := h.toks i k hi
      refine ⟨k1, ?_⟩
      by_cases hc : (γ.tk i).cap = k
      · exact .inl hc
      · obtain ⟨b2, hbs, hge, ⟨arr, e, harr, hcap⟩, hfr⟩ := k2.resolve_left hc
        obtain ⟨arr', g1, g2⟩ := hbb.rowKeep harr
        have hlt : b2 < w.heap.size := by
          rcases Nat.lt_or_ge b2 w.heap.size with h | h
          · exact h
          · rw [Array.getElem?_eq_none h] at harr; cases harr
        exact .inr ⟨b2, hbs, hge, ⟨arr', e, g1, by rw [g2]; exact hcap⟩, fun o ho hx => hfr o ho (old b2 o hlt hx)⟩
    tapart := h.tapart
    tvar := fun i k j zs b1 o1 hi hj hl1 hc => by
      by_cases he : j = id
      · subst he; exact h.tvar i k j ys b1 o1 hi hv hl1 hc
      · simp only [m', he, if_false] at hj; exact h.tvar i k j zs b1 o1 hi hj hl1 hc }
theorem Rel.spend {F : Fm} {γ : Gh} {m : Mem} {a : Act} {w w' : World} (h : Rel F γ m a w) {j n : Nat} (hj : m.tok j = some n) {S : Nat → Nat → Prop} (hS : ∀ b o, S b o → (γ.tk j).cap ≠ n ∧ (γ.tk j).base.map (·.block) = some b ∧ n * (γ.tk j).sz ≤ o)
    {fr' : Nat → Nat → Prop} (hbb : BelowBut S w w') (hf : ∀ b o, γ.fr b o → fr' b o) (hn : ∀ b o, fr' b o → γ.fr b o ∨ ((w.heap.size ≤ b ∨ S b o) ∧ b < w'.heap.size)) :
    let γ' : Gh := { γ with fr := fr', tk := fun i => if i = j then ⟨none, n + 1, (γ.tk j).sz⟩ else γ.tk i }
    let m' : Mem := { m with tok := fun i => if i = j then some (n + 1) else m.tok i }
    Rel F γ' m' a w' ∧ Ex γ γ' m.tok m'.tok w w' := by
  intro γ' m'
  have hmine : ∀ b o, S b o → F.mine b o ∧ ¬ γ.fr b o ∧ b < w.heap.size := fun b o hs => by
    obtain ⟨h1, h2, h3⟩ := hS b o hs
    obtain ⟨b', hb, hsp, ⟨arr, e, harr, _⟩, hfr⟩ := (h.toks j n hj).2.resolve_left h1
    rw [hb] at h2
    simp only [Option.map_some, Option.some.injEq] at h2
    subst h2
    refine ⟨hsp.mine h3, hfr o h3, ?_⟩
    rcases Nat.lt_or_ge b' w.heap.size with h | h
    · exact h
    · rw [Array.getElem?_eq_none h] at harr; cases harr
  have hvar : ∀ id xs b o, m.var id = some xs → γ.loc id = some (b, o) → ∀ x, ¬ S b x := fun id xs b o hv hl x hs => by
    obtain ⟨h1, h2, _⟩ := hS b x hs
    exact h.tvar j n id xs b o hj hv hl h1 h2
  have hex : Ex γ γ' m.tok m'.tok w w' := ⟨hbb.ev hf (fun b o hx hs => (hmine b o hs).2.1 hx), fun _ _ h => h, fun i k hi => by
    by_cases he : i = j
    · subst he
      rw [hj] at hi; cases hi
      exact .inr ⟨n + 1, by simp [m'], by omega⟩
    · exact .inl ⟨by simp [m', he, hi], by simp [γ', he]⟩⟩
  have old : ∀ b o, b < w.heap.size → fr' b o → ¬ S b o → γ.fr b o := fun b o hlt hx hs => by
    rcases hn b o hx with hx | ⟨hx | hx, _⟩
    · exact hx
    · omega
    · exact absurd hx hs
  refine ⟨?_, hex⟩
  exact {
    defers := h.defers
    size := h.size
    base := ⟨hbb.os.trans h.base.os, hbb.tape.trans h.base.tape, hbb.output.trans h.base.output, Nat.le_trans h.base.size hbb.size, fun i hi => (h.base.blk i hi).trans ((hbb.blk i (Nat.lt_of_lt_of_le hi h.base.size)).mono (fun x hx => by
      rcases (hmine i x hx).1 with this | this
      · exact this
      · omega))⟩
    fr0 := fun b o x => hf b o (h.fr0 b o x)
    frs := fun b o x => by
      rcases hn b o x with x | ⟨x | x, _⟩
      · exact h.frs b o x
      · exact .inr (.inr (by have := h.base.size; omega))
      · exact .inr (hmine b o x).1
    frlt := fun b o x => by
      rcases hn b o x with x | x
      · exact Nat.lt_of_lt_of_le (h.frlt b o x) hbb.size
      · exact x.2
    loclt := fun id b o hl => Nat.lt_of_lt_of_le (h.loclt id b o hl) hbb.size
    tmps := fun t => T.rep.mono hex _ _ (h.tmps t)
    gh := fun x v n k hp => ⟨(h.gh x v n k hp).1, T.rep.mono (hex.upto _ _) _ _ (h.gh x v n k hp).2⟩
    vars := fun i zs hi => by
      obtain ⟨b2, o2, k1, ⟨vs', k2, k3⟩, k4, k5⟩ := h.vars i zs hi
      refine ⟨b2, o2, k1, ⟨vs', k2.mono (fun x v => V.rep.mono hex x v), fun q v hq => hbb.cellKeep (hvar i zs b2 o2 hi k1 _) (k3 q v hq)⟩, hbb.thereKeep k4, fun q hq => ⟨fun hx => ?_, (k5 q hq).2⟩⟩
      obtain ⟨u, hu⟩ := Option.isSome_iff_exists.1 (k4 q hq).1
      exact (k5 q hq).1 (old b2 _ (World.block_lt_of_cell? w _ hu) hx (hvar i zs b2 o2 hi k1 _))
    novar := h.novar
    lentloc := h.lentloc
    apart := h.apart
    toks := fun i k hi => by
      by_cases he : i = j
      · subst he
        simp only [m', if_true, Option.some.injEq] at hi
        subst hi
        exact ⟨by simp [γ'], .inl (by simp [γ'])⟩
      · simp only [m', he, if_false] at hi
        obtain ⟨k1, k2⟩ := h.toks i k hi
        have hres : qI F { γ with fr := fr' } w' i k := by
          refine ⟨k1, ?_⟩
          by_cases hc : (γ.tk i).cap = k
          · exact .inl hc
          · obtain ⟨b2, hbs, hge, ⟨arr, e, harr, hcap⟩, hfr⟩ := k2.resolve_left hc
            obtain ⟨arr', g1, g2⟩ := hbb.rowKeep harr
            have hlt : b2 < w.heap.size := by
              rcases Nat.lt_or_ge b2 w.heap.size with h | h
              · exact h
              · rw [Array.getElem?_eq_none h] at harr; cases harr
            refine .inr ⟨b2, hbs, hge, ⟨arr', e, g1, by rw [g2]; exact hcap⟩, fun o ho hx => hfr o ho (old b2 o hlt hx fun hs => ?_)⟩
            obtain ⟨h1, h2, _⟩ := hS b2 o hs
            refine h.tapart i j k n he hi hj hc h1 ?_
            rw [h2, hbs]; rfl
        simpa [qI, γ', he] using hres
    tapart := fun i l x y hil hi hl hci hcl => by
      by_cases he : i = j
      · subst he
        simp only [m', γ', if_true, Option.some.injEq] at hi hci
        exact absurd hi hci
      · by_cases he' : l = j
        · subst he'
          simp only [m', γ', if_true, Option.some.injEq] at hl hcl
          exact absurd hl hcl
        · simp only [m', γ', he, he', if_false] at hi hl hci hcl ⊢
          exact h.tapart i l x y hil hi hl hci hcl
    tvar := fun i k l zs b1 o1 hi hl hl1 hc => by
      by_cases he : i = j
      · subst he
        simp only [m', γ', if_true, Option.some.injEq] at hi hc
        exact absurd hi hc
      · simp only [m', γ', he, if_false] at hi hc ⊢
        exact h.tvar i k l zs b1 o1 hi hl hl1 hc }
end Go.Dm
namespace Go.Dm
open Go.RowKit
def tR (γ : Gh) (l : Nat × Nat × List C) : Nat × Nat := match γ.loc l.1 with | some (b, o) => (b, o + l.2.1) | none => (0, 0)
def El (γ : Gh) (m : Mem) (l : Nat × Nat × List C) : Prop :=
  ∃ ys b o, m.var l.1 = some ys ∧ γ.loc l.1 = some (b, o) ∧ l.2.1 + l.2.2.length ≤ ys.length ∧ ((ys.drop l.2.1).take l.2.2.length).mapM V.toC = some l.2.2
theorem cz {α β : Type} {f : α → Option β} : ∀ {xs : List α} {ys : List β}, xs.mapM f = some ys → ys.length = xs.length
  | [], ys, h => by simp at h; subst h; rfl
  | x :: xs, ys, h => by
    rw [List.mapM_cons] at h
    simp only [Option.pure_def, Option.bind_eq_bind, Option.bind_eq_some_iff, Option.some.injEq] at h
    obtain ⟨y, _, zs, hz, rfl⟩ := h
    simp [cz hz]
theorem gN {F : Fm} {γ : Gh} {m : Mem} {a : Act} {w : World} (h : Rel F γ m a w) {id off : Nat} {cs : List C} (hs : sx m id off = some cs) {Fr : Nat → Nat → Prop} (hFr : ∀ b o, γ.fr b o → Fr b o)
    (hsn : ∀ ys b o, m.var id = some ys → γ.loc id = some (b, o) → ∀ j, j < ys.length → Fr b (o + j)) {b o : Nat} (hl : γ.loc id = some (b, o)) : aZ Fr w b cs (o + off) := by
  unfold sx at hs
  split at hs
  · rename_i xs hv
    obtain ⟨b', o', h1, ⟨vs, h2, h3⟩, _⟩ := h.vars id xs hv
    rw [hl] at h1; cases h1
    have hc := eh hs (h2.drop off)
    have hlen := cz hs
    refine db fun i c hi => ?_
    obtain ⟨v, hv', hr⟩ := hc.get i c hi
    have hlt := (List.getElem?_eq_some_iff.1 hi).1
    rw [hlen, List.length_drop] at hlt
    refine ⟨?_, v, ?_, C.rep.mono ⟨hFr, fun _ _ _ _ h => h, fun _ _ _ _ h => h⟩ c v hr⟩
    · have := hsn xs b o hv hl (off + i) (by omega)
      rwa [show o + off + i = o + (off + i) by omega]
    · exact eY h3 off i v hv'
  · cases hs
theorem fW {Fr : Nat → Nat → Prop} {w : World} {sz b : Nat} : ∀ {n : Nat} {cs : List C} {es : List (List C)} {o : Nat}, gb sz n cs = some es → aZ Fr w b cs o → be Fr w sz b es o ∧ es.length = n
  | 0, cs, es, o, h, _ => by simp [gb] at h; subst h; exact ⟨by simp only [be], rfl⟩
  | n + 1, cs, es, o, h, hc => by
    simp only [gb] at h
    split at h
    · rename_i hle
      simp only [Option.map_eq_some_iff] at h
      obtain ⟨r, hr, rfl⟩ := h
      obtain ⟨h1, h2⟩ := fW hr (fc hc sz)
      exact ⟨by simp only [be]; exact ⟨by simp; omega, j7 hc sz, h1⟩, by simp [h2]⟩
    · cases h
theorem mB {F : Fm} {γ : Gh} {m : Mem} {a : Act} {w : World} (h : Rel F γ m a w) {Fr : Nat → Nat → Prop} (hFr : ∀ b o, γ.fr b o → Fr b o) : ∀ {caps : List (C ⊕ (Nat × Nat))} {cs : List C} {vs : List Value}, caps.mapM (kJ m) = some cs → aJ (gc γ w) caps vs →
    (∀ id ∈ caps.flatMap fP, ∀ ys b o, m.var id = some ys → γ.loc id = some (b, o) → ∀ j, j < ys.length → Fr b (o + j)) → aJ (C.rep Fr w) cs vs
  | [], cs, [], hc, _, _ => by simp at hc; subst hc; trivial
  | x :: xs, cs, v :: vs, hc, hr, hsn => by
    rw [List.mapM_cons] at hc
    simp only [Option.pure_def, Option.bind_eq_bind, Option.bind_eq_some_iff, Option.some.injEq] at hc
    obtain ⟨c, hcc, r, hrr, rfl⟩ := hc
    refine ⟨?_, mB h hFr hrr hr.2 (fun id hid => hsn id (by simp only [List.flatMap_cons, List.mem_append]; exact .inr hid))⟩
    cases x with
    | inl x =>
      simp only [kJ, Option.some.injEq] at hcc
      subst hcc
      exact C.rep.mono ⟨hFr, fun _ _ _ _ h => h, fun _ _ _ _ h => h⟩ x v hr.1
    | inr p =>
      obtain ⟨id, off⟩ := p
      simp only [kJ, Option.map_eq_some_iff] at hcc
      obtain ⟨cs', hs, rfl⟩ := hcc
      obtain ⟨b, o, hl, hv⟩ := hr.1
      simp only [C.rep]
      exact ⟨b, o + off, hv, gN h hs hFr (hsn id (by simp [fP])) hl⟩
  | [], _, _ :: _, _, h, _ => h.elim
  | _ :: _, _, [], _, h, _ => h.elim
theorem cG {P : Program} {m : Mem} : ∀ {tys : List TypeId} {xs : List T} {k : Nat} {as : List A} {ls : List (Nat × Nat × List C)} {rs : List Nat}, bP P m tys xs k = some (as, ls, rs) → dS as = true
  | [], [], k, as, ls, rs, h => by simp only [bP, Option.some.injEq, Prod.mk.injEq] at h; obtain ⟨rfl, _, _⟩ := h; rfl
  | t :: ts, x :: xs, k, as, ls, rs, h => by
    have cons : ∀ {a : A} {bs : List A}, (match a with | .top _ _ => false | _ => true) = true → dS bs = true → dS (a :: bs) = true := fun h1 h2 => by
      simp only [dS, List.all_cons, Bool.and_eq_true]; exact ⟨h1, h2⟩
    simp only [bP] at h
    split at h
    · split at h
      · rename_i hrec
        simp only [Option.some.injEq, Prod.mk.injEq] at h
        obtain ⟨rfl, _, _⟩ := h
        exact cons rfl (cG hrec)
      · cases h
    · split at h
      · split at h
        · split at h
          · rename_i hrec
            simp only [Option.some.injEq, Prod.mk.injEq] at h
            obtain ⟨rfl, _, _⟩ := h
            exact cons rfl (cG hrec)
          · cases h
        · cases h
      · cases h
    · split at h
      · split at h
        · rename_i hrec
          simp only [Option.some.injEq, Prod.mk.injEq] at h
          obtain ⟨rfl, _, _⟩ := h
          exact cons rfl (cG hrec)
        · cases h
      · cases h
    · split at h
      · rename_i hrec
        simp only [Option.some.injEq, Prod.mk.injEq] at h
        obtain ⟨rfl, _, _⟩ := h
        exact cons rfl (cG hrec)
      · cases h
    · split at h
      · rename_i c as' ls' rs' hc hrec
        simp only [Option.some.injEq, Prod.mk.injEq] at h
        obtain ⟨rfl, _, _⟩ := h
        refine cons ?_ (cG hrec)
        unfold V.toA at hc
        split at hc
        · cases hc; rfl
        · rw [Option.map_eq_some_iff] at hc
          obtain ⟨_, _, rfl⟩ := hc
          rfl
      · cases h
    · cases h
  | [], _ :: _, _, _, _, _, h => by simp [bP] at h
  | _ :: _, [], _, _, _, _, h => by simp [bP] at h
theorem vg (cs : List C) : dS (cs.map A.c) = true := by
  simp [dS]
theorem pP {xs ys : List A} (h : dS xs = true) (k : dS ys = true) : dS (xs ++ ys) = true := by
  simp only [dS, List.all_append, Bool.and_eq_true] at h k ⊢
  exact ⟨h, k⟩
theorem m3 {F : Fm} {γ : Gh} {m : Mem} {a : Act} {w : World} (h : Rel F γ m a w) : ∀ {as : List A} {xs : List T} {vs : List Value} {as' : List A} {j n : Nat}, tm m as xs = some (as', j, n) → dS as = true → aJ (A.rep γ.fr w []) as vs → aJ (T.rep γ m.tok w) xs vs →
    aJ (A.rep γ.fr w []) as' vs ∧ m.tok j = some n ∧ ∀ b o, fV as' vs b o → (γ.tk j).cap ≠ n ∧ (γ.tk j).base.map (·.block) = some b ∧ n * (γ.tk j).sz ≤ o
  | a0 :: as, x :: xs, v :: vs, as', j, n, ht, hn, ha, hx => by
    have hn' : dS as = true := by simp only [dS, List.all_cons, Bool.and_eq_true] at hn ⊢; exact hn.2
    simp only [tm] at ht
    split at ht
    · rename_i sz es i
      split at ht
      · rename_i hi
        cases ht
        have hx1 := hx.1
        simp only [T.rep, K.rep, V.rep, ig] at hx1
        obtain ⟨hs, n', hn1, _, hfull⟩ := hx1
        rw [hi] at hn1; cases hn1
        obtain ⟨hv, hsz⟩ := hfull rfl
        obtain ⟨k1, k2⟩ := h.toks _ _ hi
        refine ⟨⟨⟨hs, _, _, hv, k1, ?_⟩, ha.2⟩, hi, fun b o ho => ?_⟩
        · rcases k2 with k2 | ⟨b, hb, _, harr, hfr⟩
          · exact .inl k2
          · rw [hsz] at harr hfr
            exact .inr ⟨b, hb, by simp, harr, hfr⟩
        · rcases ho with ho | ho
          · rw [hv] at ho
            unfold lA at ho
            split at ho
            · rename_i heq hvq
              cases heq
              simp only [Value.slice.injEq] at hvq
              obtain ⟨e1, _, rfl⟩ := hvq
              refine ⟨ho.1, ?_, ?_⟩
              · rw [e1]; simp [ho.2.1]
              · rw [hsz]; exact ho.2.2
            · exact ho.elim
          · exact absurd ho (ek hn')
      · cases ht
    · simp only [Option.map_eq_some_iff] at ht
      obtain ⟨⟨as1, j1, n1⟩, hr, he⟩ := ht
      simp only [Prod.mk.injEq] at he
      obtain ⟨rfl, rfl, rfl⟩ := he
      obtain ⟨g1, g2, g3⟩ := m3 h hr hn' ha.2 hx.2
      refine ⟨⟨ha.1, g1⟩, g2, fun b o ho => ?_⟩
      rcases ho with ho | ho
      · cases a0 <;> first | exact ho.elim | (exfalso; simp [dS] at hn)
      · exact g3 b o ho
  | [], _, _, _, _, _, ht, _, _, _ => by simp [tm] at ht
  | _ :: _, [], _, _, _, _, ht, _, _, _ => by simp [tm] at ht
  | _ :: _, _ :: _, [], _, _, _, _, _, ha, _ => ha.elim
theorem AP {γ : Gh} {tok : Nat → Option Nat} {w : World} {Fr : Nat → Nat → Prop} {all : List (Nat × Nat)} {u : V} {x : A} (h : u.toA = some x) (hev : Ev γ.fr Fr w w) {v : Value} (hv : u.rep γ tok w v) : x.rep Fr w all v := by
  unfold V.toA at h
  split at h
  · cases h
    simp only [V.rep, C.rep, ig] at hv
    obtain ⟨⟨a, len, cap, rfl, rfl, _⟩, a', n, he⟩ := hv
    cases he
    exact ⟨a, rfl⟩
  · rw [Option.map_eq_some_iff] at h
    obtain ⟨c, hc, rfl⟩ := h
    exact C.rep.mono hev c v (oi hc hv)
theorem cK {P : Program} {F : Fm} {γ : Gh} {m : Mem} {a : Act} {w : World} (h : Rel F γ m a w) {Fr : Nat → Nat → Prop} (hFr : ∀ b o, γ.fr b o → Fr b o) : ∀ {tys : List TypeId} {xs : List T} {vs : List Value} {k : Nat} {as : List A} {ls : List (Nat × Nat × List C)} {rs : List Nat},
    bP P m tys xs k = some (as, ls, rs) → aJ (T.rep γ m.tok w) xs vs → (∀ id ∈ rs, ∀ ys b o, m.var id = some ys → γ.loc id = some (b, o) → ∀ j, j < ys.length → Fr b (o + j)) →
    ∀ (all : List (Nat × Nat)), (∀ (j : Nat) p, (ls.map (tR γ))[j]? = some p → all[k + j]? = some p) → aJ (A.rep Fr w all) as vs ∧ ∀ l ∈ ls, El γ m l
  | [], [], [], k, as, ls, rs, ha, _, _, all, _ => by
    simp only [bP, Option.some.injEq, Prod.mk.injEq] at ha
    obtain ⟨rfl, rfl, rfl⟩ := ha
    exact ⟨trivial, by simp⟩
  | t :: ts, x :: xs, v :: vs, k, as, ls, rs, ha, hx, hsn, all, hall => by
    have hev : Ev γ.fr Fr w w := ⟨hFr, fun _ _ _ _ h => h, fun _ _ _ _ h => h⟩
    have hx1 := hx.1
    simp only [bP] at ha
    split at ha
    · rename_i ys
      split at ha
      · rename_i cs as' ls' rs' hcs hrec
        simp only [Option.some.injEq, Prod.mk.injEq] at ha
        obtain ⟨rfl, rfl, rfl⟩ := ha
        obtain ⟨h1, h2⟩ := cK h hFr hrec hx.2 hsn all hall
        simp only [T.rep, K.rep] at hx1
        obtain ⟨us, rfl, hus⟩ := hx1
        exact ⟨⟨⟨us, rfl, (eh hcs hus).mono (fun c v hc => C.rep.mono hev c v hc)⟩, h1⟩, h2⟩
      · cases ha
    · rename_i id off
      split at ha
      · rename_i e ys hu hv
        split at ha
        · rename_i hle
          split at ha
          · rename_i cs as' ls' rs' hcs hrec
            simp only [Option.some.injEq, Prod.mk.injEq] at ha
            obtain ⟨rfl, rfl, rfl⟩ := ha
            have hall' : ∀ (j : Nat) p, (ls'.map (tR γ))[j]? = some p → all[k + 1 + j]? = some p := fun j p hj => by
              have := hall (j + 1) p (by simpa using hj)
              rwa [show k + (j + 1) = k + 1 + j by omega] at this
            obtain ⟨h1, h2⟩ := cK h hFr hrec hx.2 hsn all hall'
            simp only [T.rep, K.rep, V.rep] at hx1
            obtain ⟨b, o, hl, rfl⟩ := hx1
            have hcl := cz hcs
            simp only [List.length_take, List.length_drop] at hcl
            refine ⟨⟨⟨b, o + off, ?_, rfl⟩, h1⟩, fun l hl' => ?_⟩
            · have := hall 0 (b, o + off) (by simp [tR, hl])
              simpa using this
            · rcases List.mem_cons.1 hl' with rfl | hl'
              · refine ⟨ys, b, o, hv, hl, by simp only; omega, ?_⟩
                simp only
                rw [show cs.length = P.cellsOf e by omega]
                exact hcs
              · exact h2 l hl'
          · cases ha
        · cases ha
      · cases ha
    · rename_i id off sz n
      split at ha
      · rename_i cs hcs
        split at ha
        · rename_i es as' ls' rs' hes hrec
          simp only [Option.some.injEq, Prod.mk.injEq] at ha
          obtain ⟨rfl, rfl, rfl⟩ := ha
          obtain ⟨h1, h2⟩ := cK h hFr hrec hx.2 (fun i hi => hsn i (by simp [hi])) all hall
          simp only [T.rep, K.rep, V.rep] at hx1
          obtain ⟨b, o, cap, hl, rfl, hle⟩ := hx1
          have hcells := gN h hcs hFr (hsn id (by simp)) hl
          obtain ⟨hr, hlen⟩ := fW hes hcells
          refine ⟨⟨?_, h1⟩, h2⟩
          simp only [A.rep, C.rep]
          exact ⟨_, n, cap, rfl, hlen.symm, hle, .inr ⟨b, o + off, rfl, hr⟩⟩
        · cases ha
      · cases ha
    · rename_i f caps
      split at ha
      · rename_i cs as' ls' rs' hcs hrec
        simp only [Option.some.injEq, Prod.mk.injEq] at ha
        obtain ⟨rfl, rfl, rfl⟩ := ha
        obtain ⟨h1, h2⟩ := cK h hFr hrec hx.2 (fun i hi => hsn i (by simp [hi])) all hall
        simp only [T.rep, K.rep, V.rep] at hx1
        obtain ⟨us, rfl, hus⟩ := hx1
        refine ⟨⟨?_, h1⟩, h2⟩
        simp only [A.rep, C.rep]
        exact ⟨us, rfl, dJ.2 (mB h hFr hcs hus (fun i hi => hsn i (by simp only [List.mem_append]; exact .inl hi)))⟩
      · cases ha
    · rename_i u _ _ _
      split at ha
      · rename_i c as' ls' rs' hcs hrec
        simp only [Option.some.injEq, Prod.mk.injEq] at ha
        obtain ⟨rfl, rfl, rfl⟩ := ha
        obtain ⟨h1, h2⟩ := cK h hFr hrec hx.2 hsn all hall
        simp only [T.rep, K.rep] at hx1
        exact ⟨⟨AP hcs hev hx1, h1⟩, h2⟩
      · cases ha
    · cases ha
  | [], [], _ :: _, _, _, _, _, _, h, _, _, _ => h.elim
  | [], _ :: _, _, _, _, _, _, h, _, _, _, _ => by simp [bP] at h
  | _ :: _, [], _, _, _, _, _, h, _, _, _, _ => by simp [bP] at h
  | _ :: _, _ :: _, [], _, _, _, _, _, h, _, _, _ => h.elim
def fe (ut : List (Nat × Nat)) (tok : Nat → Option Nat) : Nat → Option Nat := fun i => match lk ut i with | some n => some n | none => tok i
theorem dR (i n : Nat) (ut : List (Nat × Nat)) (tok : Nat → Option Nat) : fe ((i, n) :: ut) tok = fe ut (fun j => if j = i then some n else tok j) := by
  funext j
  simp only [fe, lk]
  cases lk ut j with
  | some y => rfl
  | none =>
    by_cases h : i = j
    · simp [h]
    · simp [h, Ne.symm h]
theorem mo (tok : Nat → Option Nat) : fe [] tok = tok := rfl
theorem Ex.trans {γ γ' γ'' : Gh} {tok tok' tok'' : Nat → Option Nat} {w w' w'' : World} (h : Ex γ γ' tok tok' w w') (k : Ex γ' γ'' tok' tok'' w' w'') : Ex γ γ'' tok tok'' w w'' where
  ev := h.ev.trans k.ev
  loc id p hp := k.loc id p (h.loc id p hp)
  tok i n hi := by
    rcases h.tok i n hi with ⟨h1, h2⟩ | ⟨n', h1, h2⟩
    · rcases k.tok i n h1 with ⟨k1, k2⟩ | ⟨n'', k1, k2⟩
      · exact .inl ⟨k1, k2.trans h2⟩
      · exact .inr ⟨n'', k1, k2⟩
    · rcases k.tok i n' h1 with ⟨k1, _⟩ | ⟨n'', k1, k2⟩
      · exact .inr ⟨n', k1, h2⟩
      · exact .inr ⟨n'', k1, by omega⟩
theorem d9 : ∀ {rs : List Res} {nt i n : Nat}, (i, n) ∈ (ga nt rs).2 → nt ≤ i
  | [], nt, i, n, h => by simp [ga] at h
  | .c x :: rs, nt, i, n, h => d9 (rs := rs) (by simpa [ga] using h)
  | .agg xs :: rs, nt, i, n, h => d9 (rs := rs) (by simpa [ga] using h)
  | .top sz es :: rs, nt, i, n, h => by
    simp only [ga, List.mem_cons, Prod.mk.injEq] at h
    rcases h with ⟨rfl, _⟩ | h
    · exact Nat.le_refl _
    · have := d9 (rs := rs) h; omega
theorem eN {F : Fm} {a : Act} {w : World} {N : Nat → Nat → Prop} (hn0 : ∀ b lo, N b lo → F.spare b lo) : ∀ {rs : List Res} {us : List Value} {nt : Nat} {γ : Gh} {m : Mem}, Rel F γ m a w → aJ (Res.rep γ.fr N w) rs us → dl rs us → (∀ i n, (i, n) ∈ (ga nt rs).2 → m.tok i = none) →
    (∀ id xs b o, m.var id = some xs → γ.loc id = some (b, o) → ∀ lo, ¬ N b lo) → (∀ j l, m.tok j = some l → (γ.tk j).cap ≠ l → ∀ (r : Nat) sz es u, rs[r]? = some (.top sz es) → us[r]? = some u → ∀ b, bK u = some b → (γ.tk j).base.map (·.block) ≠ some b) →
    ∃ γ' : Gh, γ'.fr = γ.fr ∧ Rel F γ' { m with tok := fe (ga nt rs).2 m.tok } a w ∧ Ex γ γ' m.tok (fe (ga nt rs).2 m.tok) w w ∧ aJ (K.rep γ' (fe (ga nt rs).2 m.tok) w) (ga nt rs).1 us
  | [], [], nt, γ, m, h, _, _, _, _, _ => ⟨γ, rfl, by simpa only [ga, mo] using h, by simpa only [ga, mo] using Ex.refl γ m.tok w, trivial⟩
  | .c x :: rs, u :: us, nt, γ, m, h, hr, ht, hnt, hloc, hap => by
    obtain ⟨γ', h1, h2, hx, h3⟩ := eN hn0 h hr.2 ht (fun i n hi => hnt i n (by simpa [ga] using hi)) hloc (fun j l hj hc r sz es u hr hu => hap j l hj hc (r + 1) sz es u (by simpa using hr) (by simpa using hu))
    refine ⟨γ', h1, h2, hx, ?_, h3⟩
    simp only [K.rep, V.rep]
    rw [h1]
    exact hr.1
  | .agg xs :: rs, u :: us, nt, γ, m, h, hr, ht, hnt, hloc, hap => by
    obtain ⟨γ', h1, h2, hx, h3⟩ := eN hn0 h hr.2 ht (fun i n hi => hnt i n (by simpa [ga] using hi)) hloc (fun j l hj hc r sz es u hr hu => hap j l hj hc (r + 1) sz es u (by simpa using hr) (by simpa using hu))
    refine ⟨γ', h1, h2, hx, ?_, h3⟩
    obtain ⟨vs, hv, hxs⟩ := hr.1
    simp only [K.rep]
    refine ⟨vs, hv, V.cells_rep ?_⟩
    rw [h1]
    exact hxs
  | .top sz es :: rs, u :: us, nt, γ, m, h, hr, ht, hnt, hloc, hap => by
    obtain ⟨hslice, base, cap, rfl, hle, htop⟩ := hr.1
    have hk : es.length ≤ cap ∧ (cap = es.length ∨ ∃ b, base = some ⟨b, 0, none⟩ ∧ F.spare b (es.length * sz) ∧ (∃ arr e, w.heap[b]? = some (.cells arr e (0, 0)) ∧ cap * sz ≤ arr.size) ∧ ∀ o, es.length * sz ≤ o → ¬ γ.fr b o) := by
      refine ⟨hle, ?_⟩
      rcases htop with htop | ⟨b, h1, h2, h3, h4⟩
      · exact .inl htop
      · exact .inr ⟨b, h1, hn0 _ _ h2, h3, h4⟩
    have hspare : cap ≠ es.length → ∃ b, base = some ⟨b, 0, none⟩ ∧ N b (es.length * sz) ∧ bK (.slice base es.length cap) = some b := fun hc => by
      obtain ⟨b, h1, h2, _, _⟩ := htop.resolve_left hc
      exact ⟨b, h1, h2, by simp [bK, h1, hc]⟩
    obtain ⟨h1, h2⟩ := h.addTok (i := nt) (n := es.length) (hnt nt es.length (by simp [ga])) (k := ⟨base, cap, sz⟩) hk
      (fun j l hj hcj hc => by
        obtain ⟨b, hb, _, hsp⟩ := hspare hc
        have := hap j l hj hcj 0 sz es _ rfl rfl b hsp
        simpa [hb] using this)
      (fun id xs b o hv hl hc => by
        obtain ⟨b', hb, hge, _⟩ := hspare hc
        simp only [hb, Option.map_some, ne_eq, Option.some.injEq]
        rintro rfl
        exact hloc id xs b' o hv hl _ hge)
    have hr' : aJ (Res.rep γ.fr N w) rs us := hr.2
    obtain ⟨γ', g1, g2, gx, g3⟩ := eN (rs := rs) (us := us) (nt := nt + 1) hn0 h1 hr' ht.2 (fun i n hi => by
        show (if i = nt then _ else _) = none
        have := d9 hi
        rw [if_neg (by omega)]; exact hnt i n (by simp only [ga, List.mem_cons]; exact .inr hi)) hloc (fun j l hj hc r sz' es' u hr hu b hb => by
          by_cases he : j = nt
          · subst he
            simp only [if_true, Option.some.injEq] at hj hc ⊢
            subst hj
            obtain ⟨b', hb', _, hsp⟩ := hspare hc
            have := ht.1 r sz' es' u hr hu b' hsp
            simp only [hb', Option.map_some, ne_eq, Option.some.injEq]
            rintro rfl
            exact this hb
          · simp only [he, if_false] at hj hc ⊢
            exact hap j l hj hc (r + 1) sz' es' u (by simpa using hr) (by simpa using hu) b hb)
    refine ⟨γ', g1, ?_, ?_, ?_, ?_⟩
    · simp only [ga, dR]
      exact g2
    · simp only [ga, dR]
      exact h2.trans gx
    · simp only [ga, dR]
      refine K.rep.mono gx (.v (.own sz es (.tok nt))) _ ?_
      simp only [K.rep, V.rep]
      exact ⟨hslice, es.length, by simp, Nat.le_refl _, fun _ => ⟨by simp, by simp⟩⟩
    · simp only [ga, dR]
      exact g3
  | [], _ :: _, _, _, _, _, h, _, _, _, _ => h.elim
  | _ :: _, [], _, _, _, _, h, _, _, _, _ => h.elim
end Go.Dm
