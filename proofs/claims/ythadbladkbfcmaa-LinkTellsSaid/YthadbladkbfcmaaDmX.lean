/-
  The data machine, part X: loops, round by round; numbers.
-/
import Derived.Test.YthadbladkbfcmaaDmW
namespace Go.Dm
open Go.RowKit

/-- The loop of which the first region is r. -/
def loopAt (r : Nat) : Code → Option Code
  | .loop b => if firstRegion b = r then some b else loopAt r b
  | .seq a b => match loopAt r a with | some c => some c | none => loopAt r b
  | .cond _ a b => match loopAt r a with | some c => some c | none => loopAt r b
  | .block _ b => loopAt r b
  | _ => none

def LB (P : Program) (f r : Nat) : Code :=
  match P.funcs[f]? with
  | some fn => match fn.body with
    | some c => match loopAt r c with | some b => b | none => .skip
    | none => .skip
  | none => .skip

/-- One round, and on. -/
def NextIs (E : Env) (H : Nat → LoopHint) (n : Nat) (b : Code) (nv nt : Nat) (s s' : St) : Prop :=
  ∃ s2, evalCode E H n b s = some (.normal, s2) ∧ (s2.cut nv nt).map (fun s => { s with tmps := forgetAll s.tmps (H (firstRegion b)).forget }) = some s'

/-- One round, and out. -/
def OutIs (E : Env) (H : Nat → LoopHint) (n : Nat) (b : Code) (s : St) (e : Ext) (s' : St) : Prop := evalCode E H n b s = some (e, s') ∧ e ≠ .normal

def gNext (E : Env) (H : Nat → LoopHint) (n : Nat) (b : Code) (nv nt : Nat) (s : St) (gs : List G) : Option (St × List Prop) :=
  match gCode E H n b s gs with
  | some (.normal, s2, [], ps) => match s2.cut nv nt with
    | some s3 => some ({ s3 with tmps := forgetAll s3.tmps (H (firstRegion b)).forget }, ps)
    | none => none
  | _ => none

def gOut (E : Env) (H : Nat → LoopHint) (n : Nat) (b : Code) (s : St) (gs : List G) : Option (Ext × St × List Prop) :=
  match gCode E H n b s gs with
  | some (.normal, _, _, _) => none
  | some (e, s2, [], ps) => some (e, s2, ps)
  | _ => none

theorem next_of {E : Env} {H : Nat → LoopHint} {n : Nat} {b : Code} {nv nt : Nat} {s s' : St} {gs : List G} {ps : List Prop} (h : gNext E H n b nv nt s gs = some (s', ps)) (hp : allP ps) : NextIs E H n b nv nt s s' := by
  unfold gNext at h
  split at h
  · rename_i s2 ps2 hg
    split at h
    · rename_i s3 hc
      simp only [Option.some.injEq, Prod.mk.injEq] at h
      obtain ⟨rfl, rfl⟩ := h
      exact ⟨s2, gCode_sound b _ _ _ _ _ _ hg hp, by rw [hc]; rfl⟩
    · cases h
  · cases h

theorem out_of {E : Env} {H : Nat → LoopHint} {n : Nat} {b : Code} {s s' : St} {gs : List G} {e : Ext} {ps : List Prop} (h : gOut E H n b s gs = some (e, s', ps)) (hp : allP ps) : OutIs E H n b s e s' := by
  unfold gOut at h
  split at h
  · cases h
  · rename_i e2 s2 ps2 hne hg
    simp only [Option.some.injEq, Prod.mk.injEq] at h
    obtain ⟨rfl, rfl, rfl⟩ := h
    exact ⟨gCode_sound b _ _ _ _ _ _ hg hp, fun he => hne he⟩
  · cases h

theorem next_run {E : Env} {H : Nat → LoopHint} {n : Nat} {b : Code} {nv nt : Nat} {s s' : St} {Q : Prop} (q : Q) {gs : List G} (h : (gNext E H n b nv nt s gs).map (fun r => (r.1, allP r.2)) = some (s', Q)) : NextIs E H n b nv nt s s' := by
  rw [Option.map_eq_some_iff] at h
  obtain ⟨⟨s0, ps⟩, h1, h2⟩ := h
  simp only [Prod.mk.injEq] at h2
  obtain ⟨rfl, rfl⟩ := h2
  exact next_of h1 q
theorem out_run {E : Env} {H : Nat → LoopHint} {n : Nat} {b : Code} {s s' : St} {e : Ext} {Q : Prop} (q : Q) {gs : List G} (h : (gOut E H n b s gs).map (fun r => (r.1, r.2.1, allP r.2.2)) = some (e, s', Q)) : OutIs E H n b s e s' := by
  rw [Option.map_eq_some_iff] at h
  obtain ⟨⟨e0, s0, ps⟩, h1, h2⟩ := h
  simp only [Prod.mk.injEq] at h2
  obtain ⟨rfl, rfl, rfl⟩ := h2
  exact out_of h1 q

/-- N rounds, and out in the one behind them. -/
theorem loop_of {E : Env} {H : Nat → LoopHint} {n : Nat} {b : Code} {s0 : St} (S : Nat → St) (N : Nat) {e : Ext} {s' : St} {nv nt : Nat} (h0 : s0 = S 0)
    (hv : (S 0).vars.length = nv) (ht : (S 0).toks.length = nt)
    (step : ∀ i, i < N → NextIs E H n b nv nt (S i) (S (i + 1))) (last : OutIs E H n b (S N) e s') (hn : N < n) : LoopAt E H n b s0 e s' :=
  fun _ hs => loop_up S N (hs.trans h0) hv ht step last.1 last.2 hn

def iand (k : IntKind) (x y : Int) : Int := k.wrap (BitVec.ofInt k.bits x &&& BitVec.ofInt k.bits y).toNat
def ior (k : IntKind) (x y : Int) : Int := k.wrap (BitVec.ofInt k.bits x ||| BitVec.ofInt k.bits y).toNat
def ixor (k : IntKind) (x y : Int) : Int := k.wrap (BitVec.ofInt k.bits x ^^^ BitVec.ofInt k.bits y).toNat
def iandn (k : IntKind) (x y : Int) : Int := k.wrap (BitVec.ofInt k.bits x &&& ~~~BitVec.ofInt k.bits y).toNat
theorem ct {α : Type} {b : Bool} {x y z : α} (h : b = true) (hx : x = z) : cond b x y = z := by rw [h]; exact hx
theorem cf {α : Type} {b : Bool} {x y z : α} (h : b = false) (hy : y = z) : cond b x y = z := by rw [h]; exact hy
abbrev u (n : Int) : C := .raw (.int .u64 n)
abbrev ii (n : Int) : C := .raw (.int .i64 n)
abbrev w4 (n : Int) : C := .raw (.int .u32 n)
abbrev bo (b : Bool) : C := .raw (.bool b)
abbrev tc (x : C) : T := .k (.v (.c x))

theorem wrap_i64 {x : Int} (h1 : -9223372036854775808 ≤ x) (h2 : x < 9223372036854775808) : IntKind.wrap .i64 x = x := by
  unfold IntKind.wrap
  simp [IntKind.signed, IntKind.bits]
  omega
/-! ### Loops over a list -/
theorem fold_loop {E : Env} {H : Nat → LoopHint} {n : Nat} {b : Code} {s0 : St} {α σ : Type} (S : σ → Nat → St) (P : Nat → σ → Prop) (l : List α) (g : σ → α → σ) (a0 : σ) {nv nt : Nat} {e : Ext} {t : σ → St}
    (hs : s0 = S a0 0) (hv : (S a0 0).vars.length = nv) (ht : (S a0 0).toks.length = nt) (hP : P 0 a0)
    (step : ∀ a i x, l[i]? = some x → P i a → NextIs E H n b nv nt (S a i) (S (g a x) (i + 1)) ∧ P (i + 1) (g a x))
    (last : P l.length (l.foldl g a0) → OutIs E H n b (S (l.foldl g a0) l.length) e (t (l.foldl g a0))) (hn : l.length < n) : LoopAt E H n b s0 e (t (l.foldl g a0)) := by
  have hall : ∀ i, i ≤ l.length → P i ((l.take i).foldl g a0) := by
    intro i
    induction i with
    | zero => intro _; simpa using hP
    | succ i ih =>
      intro hi
      have hx : l[i]? = some l[i] := List.getElem?_eq_getElem (by omega)
      have := (step _ i _ hx (ih (by omega))).2
      rwa [List.take_add_one, hx, List.foldl_append]
  refine loop_of (nv := nv) (nt := nt) (fun i => S ((l.take i).foldl g a0) i) l.length (by simpa using hs) (by simpa using hv) (by simpa using ht) (fun i hi => ?_) ?_ hn
  · have hx : l[i]? = some l[i] := List.getElem?_eq_getElem hi
    have := (step _ i _ hx (hall i (by omega))).1
    rw [List.take_add_one, hx, List.foldl_append]
    exact this
  · rw [List.take_length]
    exact last (by have := hall l.length (by omega); rwa [List.take_length] at this)

theorem find_hit {E : Env} {H : Nat → LoopHint} {n : Nat} {b : Code} {s0 : St} {α : Type} (S : Nat → St) (l : List α) (p : α → Bool) {nv nt : Nat} {e : Ext} {t : St}
    (hs : s0 = S 0) (hv : (S 0).vars.length = nv) (ht : (S 0).toks.length = nt)
    (step : ∀ i x, l[i]? = some x → p x = false → NextIs E H n b nv nt (S i) (S (i + 1)))
    (hit : ∀ x, l[l.findIdx p]? = some x → p x = true → OutIs E H n b (S (l.findIdx p)) e t) (hj : l.findIdx p < l.length) (hn : l.length < n) : LoopAt E H n b s0 e t := by
  refine loop_of (nv := nv) (nt := nt) S (l.findIdx p) hs hv ht (fun i hi => ?_) ?_ (by omega)
  · have hx : l[i]? = some l[i] := List.getElem?_eq_getElem (by omega)
    exact step i _ hx (by have := List.not_of_lt_findIdx hi; simpa using this)
  · have hx : l[l.findIdx p]? = some l[l.findIdx p] := List.getElem?_eq_getElem hj
    exact hit _ hx (List.findIdx_getElem (w := hj))

theorem find_miss {E : Env} {H : Nat → LoopHint} {n : Nat} {b : Code} {s0 : St} {α : Type} (S : Nat → St) (l : List α) (p : α → Bool) {nv nt : Nat} {e : Ext} {t : St}
    (hs : s0 = S 0) (hv : (S 0).vars.length = nv) (ht : (S 0).toks.length = nt)
    (step : ∀ i x, l[i]? = some x → p x = false → NextIs E H n b nv nt (S i) (S (i + 1)))
    (miss : OutIs E H n b (S l.length) e t) (hj : l.all (fun x => !p x) = true) (hn : l.length < n) : LoopAt E H n b s0 e t := by
  refine loop_of (nv := nv) (nt := nt) S l.length hs hv ht (fun i hi => ?_) miss hn
  have hx : l[i]? = some l[i] := List.getElem?_eq_getElem hi
  refine step i _ hx ?_
  have := List.all_eq_true.1 hj l[i] (List.getElem_mem hi)
  simpa using this
theorem findIdx_lt_of_any {α : Type} {l : List α} {p : α → Bool} (h : l.any p = true) : l.findIdx p < l.length := by
  rw [List.findIdx_lt_length]
  simpa using h
theorem all_of_any {α : Type} {l : List α} {p : α → Bool} (h : l.any p = false) : l.all (fun x => !p x) = true := by
  rw [List.all_eq_true]
  intro x hx
  rw [List.any_eq_false] at h
  have := h x hx
  simpa using this

theorem w64 {i n : Nat} (h : i < n) (hn : n < 9223372036854775808) : IntKind.wrap .i64 ((i : Int) + 1) = ((i + 1 : Nat) : Int) := by rw [wrap_i64 (by omega) (by omega)]; simp
abbrev nilC : List (List C) := []
abbrev st (s : ByteArray) : C := .raw (.string s)
abbrev by8 (n : Int) : C := .raw (.int .u8 n)
/-! ### Short names for printed proofs -/
theorem aa {p q : Prop} (a : p) (b : q) : p ∧ q := ⟨a, b⟩
theorem tt : true = true := rfl
theorem ff : false = false := rfl
theorem nn {b : Bool} (h : b = true) : (!b) = false := by rw [h]; rfl
theorem nf {b : Bool} (h : b = false) : (!b) = true := by rw [h]; rfl
theorem map_get {α : Type} {f : α → List C} {l : List α} {i : Nat} {x : α} (h : l[i]? = some x) : (l.map f)[i]? = some (f x) := by rw [List.getElem?_map, h]; rfl
theorem map_len {α : Type} (f : α → List C) (l : List α) : (l.map f).length = l.length := List.length_map f
theorem map_app {α : Type} (f : α → List C) (l r : List α) : l.map f ++ r.map f = (l ++ r).map f := List.map_append.symm
theorem nil_app (l : List (List C)) : [] ++ l = l := rfl
theorem app_nil (l : List (List C)) : l ++ [] = l := List.append_nil l
theorem map_cut {α : Type} (f : α → List C) (l : List α) (a : Nat) : ((l.map f).take l.length).drop a = (l.drop a).map f := by
  rw [← List.map_take, ← List.map_drop, List.take_length]
theorem map_cuts {α : Type} (f : α → List C) (l : List α) (a b : Nat) : ((l.map f).take b).drop a = ((l.take b).drop a).map f := by
  rw [← List.map_take, ← List.map_drop]
theorem cut_nil (a b : Nat) : ((([] : List (List C)).take b).drop a) = [] := by simp
theorem beq_t (x : Int) : (x == x) = true := beq_self_eq_true x
theorem beq_b (x : Bool) : (x == x) = true := beq_self_eq_true x
abbrev eS (s : ByteArray) : List C := [st s]
abbrev eU (n : Int) : List C := [u n]
abbrev eI (n : Int) : List C := [ii n]
abbrev eB (b : Bool) : List C := [bo b]
abbrev strs (l : List ByteArray) : List (List C) := l.map eS
theorem len_map {α : Type} (f : α → List C) {l : List α} {n : Nat} (h : l.length ≤ n) : (l.map f).length ≤ n := by rw [List.length_map]; exact h
/-! ### Loops over a list, for every depth -/
/-- A search: by what is found first, or by nothing. -/
theorem search {E : Nat → Env} {H : Nat → LoopHint} {n : Nat} {b : Code} {α : Type} (S : Nat → St) (l : List α) (p : α → Bool) (R : Nat → α → St) (D : St) {nv nt : Nat} {e e' : Ext}
    (hv : (S 0).vars.length = nv) (ht : (S 0).toks.length = nt)
    (step : ∀ k i x, l[i]? = some x → p x = false → NextIs (E k) H n b nv nt (S i) (S (i + 1)))
    (hit : ∀ k i x, l[i]? = some x → p x = true → OutIs (E k) H n b (S i) e (R i x))
    (done : ∀ k, OutIs (E k) H n b (S l.length) e' D) (hn : l.length < n) :
    (l.any p = false ∧ ∀ k, LoopAt (E k) H n b (S 0) e' D) ∨ (l.any p = true ∧ ∃ i x, l[i]? = some x ∧ p x = true ∧ l.find? p = some x ∧ (∀ j y, j < i → l[j]? = some y → p y = false) ∧ ∀ k, LoopAt (E k) H n b (S 0) e (R i x)) := by
  cases hb : l.any p with
  | false => exact .inl ⟨rfl, fun k => find_miss S l p rfl hv ht (step k) (done k) (all_of_any hb) hn⟩
  | true =>
    have hj := findIdx_lt_of_any hb
    have hx : l[l.findIdx p]? = some l[l.findIdx p] := List.getElem?_eq_getElem hj
    have hp : p l[l.findIdx p] = true := List.findIdx_getElem (w := hj)
    refine .inr ⟨rfl, _, _, hx, hp, by rw [List.find?_eq_getElem?_findIdx, hx], fun j y hlt hy => ?_, fun k => find_hit S l p rfl hv ht (step k) (fun x hy hq => ?_) hj hn⟩
    · have := List.not_of_lt_findIdx hlt
      obtain ⟨hj2, rfl⟩ := List.getElem?_eq_some_iff.1 hy
      simpa using this
    · rw [hx] at hy; cases hy
      exact hit k _ _ hx hq

/-- A fold. -/
theorem folds {E : Nat → Env} {H : Nat → LoopHint} {n : Nat} {b : Code} {α σ : Type} (S : σ → Nat → St) (P : Nat → σ → Prop) (l : List α) (g : σ → α → σ) (a0 : σ) {nv nt : Nat} {e : Ext} (t : σ → St)
    (hv : (S a0 0).vars.length = nv) (ht : (S a0 0).toks.length = nt) (hP : P 0 a0)
    (stepP : ∀ a i x, l[i]? = some x → P i a → P (i + 1) (g a x))
    (step : ∀ k a i x, l[i]? = some x → P i a → NextIs (E k) H n b nv nt (S a i) (S (g a x) (i + 1)))
    (last : ∀ k, P l.length (l.foldl g a0) → OutIs (E k) H n b (S (l.foldl g a0) l.length) e (t (l.foldl g a0))) (hn : l.length < n) : P l.length (l.foldl g a0) ∧ ∀ k, LoopAt (E k) H n b (S a0 0) e (t (l.foldl g a0)) := by
  have hall : ∀ i, i ≤ l.length → P i ((l.take i).foldl g a0) := by
    intro i
    induction i with
    | zero => intro _; simpa using hP
    | succ i ih =>
      intro hi
      have hx : l[i]? = some l[i] := List.getElem?_eq_getElem (by omega)
      have := stepP _ i _ hx (ih (by omega))
      rwa [List.take_add_one, hx, List.foldl_append]
  refine ⟨by have := hall l.length (Nat.le_refl _); rwa [List.take_length] at this, fun k => fold_loop S P l g a0 rfl hv ht hP (fun a i x hx hp => ⟨step k a i x hx hp, stepP a i x hx hp⟩) (last k) hn⟩

theorem zip_get {α β : Type} {a : List α} {b : List β} {i : Nat} {p : α × β} (h : (a.zip b)[i]? = some p) : a[i]? = some p.1 ∧ b[i]? = some p.2 := by
  rw [List.getElem?_zip_eq_some] at h
  exact h
theorem zip_beq {α : Type} [BEq α] : ∀ {a b : List α}, a.length = b.length → (a.zip b).any (fun p => !(p.1 == p.2)) = !(a == b)
  | [], [], _ => rfl
  | x :: a, y :: b, h => by
    have := zip_beq (a := a) (b := b) (by simpa using h)
    simp only [List.zip_cons_cons, List.any_cons, this]
    show (!(x == y) || !(a == b)) = !((x == y) && (a == b))
    cases x == y <;> rfl
  | [], _ :: _, h => by simp at h
  | _ :: _, [], h => by simp at h
theorem lt_of_get {α : Type} {l : List α} {i : Nat} {x : α} (h : l[i]? = some x) : i < l.length := (List.getElem?_eq_some_iff.1 h).1
theorem dlt {α : Type} {l : List α} {i : Nat} {x : α} (h : l[i]? = some x) : decide ((i : Int) < (l.length : Int)) = true := decide_eq_true (by have := lt_of_get h; omega)
theorem dge {n : Nat} : decide ((n : Int) < (n : Int)) = false := decide_eq_false (by omega)
theorem w64g {α : Type} {l : List α} {i : Nat} {x : α} (h : l[i]? = some x) (hn : l.length ≤ 1000000000) : IntKind.wrap .i64 ((i : Int) + 1) = ((i + 1 : Nat) : Int) := w64 (n := l.length) (lt_of_get h) (by omega)
theorem beq_len_ne {α : Type} [BEq α] {a b : List α} (h : a.length ≠ b.length) : (a == b) = false := by
  induction a generalizing b with
  | nil => cases b with | nil => simp at h | cons _ _ => rfl
  | cons x a ih => cases b with
    | nil => rfl
    | cons y b =>
      show ((x == y) && (a == b)) = false
      rw [ih (by simpa using h), Bool.and_false]
theorem bytes_beq (a b : ByteArray) : (a == b) = (a.data == b.data) := by cases a; cases b; rfl
instance : LawfulBEq ByteArray where
  rfl {a} := by rw [bytes_beq]; exact beq_self_eq_true _
  eq_of_beq {a b} h := by
    rw [bytes_beq] at h
    have := eq_of_beq h
    cases a; cases b; simp at this; subst this; rfl
theorem beq_s (x : ByteArray) : (x == x) = true := beq_self_eq_true x
/-- so many temporaries that hold whatever, ahead of others -/
def hs : Nat → List T → List T
  | 0, r => r
  | n + 1, r => .hole :: hs n r
/-- so many that hold nothing yet -/
def ks : Nat → List T → List T
  | 0, r => r
  | n + 1, r => .skip :: ks n r
end Go.Dm
