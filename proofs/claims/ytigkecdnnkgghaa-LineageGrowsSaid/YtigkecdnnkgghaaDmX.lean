/-
  The data machine, part X: loops, round by round; numbers.
-/
import Derived.Test.YtigkecdnnkgghaaDmW
namespace Go.Dm
open Go.RowKit

/-- The loop of which the first region is r. -/
def loopAt (r : Nat) : Code → Option Code
  | .loop b => if firstRegion b = r then some b else loopAt r b
  | .seq a b => match loopAt r a with | some c => some c | none => loopAt r b
  | .cond _ a b => match loopAt r a with | some c => some c | none => loopAt r b
  | .block _ b => loopAt r b
  | _ => none

def LB (P : Program) (f r : Nat) : Code :=
  match P.funcs[f]? with
  | some fn => match fn.body with
    | some c => match loopAt r c with | some b => b | none => .skip
    | none => .skip
  | none => .skip

/-- One round, and on. -/
def NextIs (E : Env) (H : Nat → LoopHint) (n : Nat) (b : Code) (nv nt : Nat) (s s' : St) : Prop :=
  ∃ s2, evalCode E H n b s = some (.normal, s2) ∧ (s2.cut nv nt).map (fun s => { s with tmps := forgetAll s.tmps (H (firstRegion b)).forget }) = some s'

/-- One round, and out. -/
def OutIs (E : Env) (H : Nat → LoopHint) (n : Nat) (b : Code) (s : St) (e : Ext) (s' : St) : Prop := evalCode E H n b s = some (e, s') ∧ e ≠ .normal

def gNext (E : Env) (H : Nat → LoopHint) (n : Nat) (b : Code) (nv nt : Nat) (s : St) (gs : List G) : Option (St × List Prop) :=
  match gCode E H n b s gs with
  | some (.normal, s2, [], ps) => match s2.cut nv nt with
    | some s3 => some ({ s3 with tmps := forgetAll s3.tmps (H (firstRegion b)).forget }, ps)
    | none => none
  | _ => none

def gOut (E : Env) (H : Nat → LoopHint) (n : Nat) (b : Code) (s : St) (gs : List G) : Option (Ext × St × List Prop) :=
  match gCode E H n b s gs with
  | some (.normal, _, _, _) => none
  | some (e, s2, [], ps) => some (e, s2, ps)
  | _ => none

theorem next_of {E : Env} {H : Nat → LoopHint} {n : Nat} {b : Code} {nv nt : Nat} {s s' : St} {gs : List G} {ps : List Prop} (h : gNext E H n b nv nt s gs = some (s', ps)) (hp : allP ps) : NextIs E H n b nv nt s s' := by
  unfold gNext at h
  split at h
  · rename_i s2 ps2 hg
    split at h
    · rename_i s3 hc
      simp only [Option.some.injEq, Prod.mk.injEq] at h
      obtain ⟨rfl, rfl⟩ := h
      exact ⟨s2, gCode_sound b _ _ _ _ _ _ hg hp, by rw [hc]; rfl⟩
    · cases h
  · cases h

theorem out_of {E : Env} {H : Nat → LoopHint} {n : Nat} {b : Code} {s s' : St} {gs : List G} {e : Ext} {ps : List Prop} (h : gOut E H n b s gs = some (e, s', ps)) (hp : allP ps) : OutIs E H n b s e s' := by
  unfold gOut at h
  split at h
  · cases h
  · rename_i e2 s2 ps2 hne hg
    simp only [Option.some.injEq, Prod.mk.injEq] at h
    obtain ⟨rfl, rfl, rfl⟩ := h
    exact ⟨gCode_sound b _ _ _ _ _ _ hg hp, fun he => hne he⟩
  · cases h

/-- N rounds, and out in the one behind them. -/
theorem loop_of {E : Env} {H : Nat → LoopHint} {n : Nat} {b : Code} {s : St} (S : Nat → St) (N : Nat) {e : Ext} {s' : St} {nv nt : Nat} (h0 : s.head (H (firstRegion b)) = S 0)
    (hv : (S 0).vars.length = nv) (ht : (S 0).toks.length = nt)
    (step : ∀ i, i < N → NextIs E H n b nv nt (S i) (S (i + 1))) (last : OutIs E H n b (S N) e s') (hn : N < n) : LoopIs E H n b s e s' :=
  loop_up S N h0 hv ht step last.1 last.2 hn

def iand (k : IntKind) (x y : Int) : Int := k.wrap (BitVec.ofInt k.bits x &&& BitVec.ofInt k.bits y).toNat
def ior (k : IntKind) (x y : Int) : Int := k.wrap (BitVec.ofInt k.bits x ||| BitVec.ofInt k.bits y).toNat
def ixor (k : IntKind) (x y : Int) : Int := k.wrap (BitVec.ofInt k.bits x ^^^ BitVec.ofInt k.bits y).toNat
def iandn (k : IntKind) (x y : Int) : Int := k.wrap (BitVec.ofInt k.bits x &&& ~~~BitVec.ofInt k.bits y).toNat
theorem ct {α : Type} {b : Bool} {x y z : α} (h : b = true) (hx : x = z) : cond b x y = z := by rw [h]; exact hx
theorem cf {α : Type} {b : Bool} {x y z : α} (h : b = false) (hy : y = z) : cond b x y = z := by rw [h]; exact hy
abbrev u (n : Int) : C := .raw (.int .u64 n)
abbrev ii (n : Int) : C := .raw (.int .i64 n)
abbrev w4 (n : Int) : C := .raw (.int .u32 n)
abbrev bo (b : Bool) : C := .raw (.bool b)
abbrev tc (x : C) : T := .k (.v (.c x))

theorem wrap_i64 {x : Int} (h1 : -9223372036854775808 ≤ x) (h2 : x < 9223372036854775808) : IntKind.wrap .i64 x = x := by
  unfold IntKind.wrap
  simp [IntKind.signed, IntKind.bits]
  omega
/-! ### Loops over a list -/
theorem fold_loop {E : Env} {H : Nat → LoopHint} {n : Nat} {b : Code} {s : St} {α σ : Type} (r : Nat) (hr : firstRegion b = r) (S : σ → Nat → St) (P : Nat → σ → Prop) (l : List α) (g : σ → α → σ) (a0 : σ) {nv nt : Nat} {e : Ext} {t : σ → St}
    (hs : s.head (H r) = S a0 0) (hv : (S a0 0).vars.length = nv) (ht : (S a0 0).toks.length = nt) (hP : P 0 a0)
    (step : ∀ a i x, l[i]? = some x → P i a → NextIs E H n b nv nt (S a i) (S (g a x) (i + 1)) ∧ P (i + 1) (g a x))
    (last : P l.length (l.foldl g a0) → OutIs E H n b (S (l.foldl g a0) l.length) e (t (l.foldl g a0))) (hn : l.length < n) : LoopIs E H n b s e (t (l.foldl g a0)) := by
  have hall : ∀ i, i ≤ l.length → P i ((l.take i).foldl g a0) := by
    intro i
    induction i with
    | zero => intro _; simpa using hP
    | succ i ih =>
      intro hi
      have hx : l[i]? = some l[i] := List.getElem?_eq_getElem (by omega)
      have := (step _ i _ hx (ih (by omega))).2
      rwa [List.take_add_one, hx, List.foldl_append]
  refine loop_of (nv := nv) (nt := nt) (fun i => S ((l.take i).foldl g a0) i) l.length (by rw [hr]; simpa using hs) (by simpa using hv) (by simpa using ht) (fun i hi => ?_) ?_ hn
  · have hx : l[i]? = some l[i] := List.getElem?_eq_getElem hi
    have := (step _ i _ hx (hall i (by omega))).1
    rw [List.take_add_one, hx, List.foldl_append]
    exact this
  · rw [List.take_length]
    exact last (by have := hall l.length (by omega); rwa [List.take_length] at this)

theorem find_hit {E : Env} {H : Nat → LoopHint} {n : Nat} {b : Code} {s : St} {α : Type} (r : Nat) (hr : firstRegion b = r) (S : Nat → St) (l : List α) (p : α → Bool) {nv nt : Nat} {e : Ext} {t : St}
    (hs : s.head (H r) = S 0) (hv : (S 0).vars.length = nv) (ht : (S 0).toks.length = nt)
    (step : ∀ i x, l[i]? = some x → p x = false → NextIs E H n b nv nt (S i) (S (i + 1)))
    (hit : ∀ x, l[l.findIdx p]? = some x → p x = true → OutIs E H n b (S (l.findIdx p)) e t) (hj : l.findIdx p < l.length) (hn : l.length < n) : LoopIs E H n b s e t := by
  refine loop_of (nv := nv) (nt := nt) S (l.findIdx p) (by rw [hr]; exact hs) hv ht (fun i hi => ?_) ?_ (by omega)
  · have hx : l[i]? = some l[i] := List.getElem?_eq_getElem (by omega)
    exact step i _ hx (by have := List.not_of_lt_findIdx hi; simpa using this)
  · have hx : l[l.findIdx p]? = some l[l.findIdx p] := List.getElem?_eq_getElem hj
    exact hit _ hx (List.findIdx_getElem (w := hj))

theorem find_miss {E : Env} {H : Nat → LoopHint} {n : Nat} {b : Code} {s : St} {α : Type} (r : Nat) (hr : firstRegion b = r) (S : Nat → St) (l : List α) (p : α → Bool) {nv nt : Nat} {e : Ext} {t : St}
    (hs : s.head (H r) = S 0) (hv : (S 0).vars.length = nv) (ht : (S 0).toks.length = nt)
    (step : ∀ i x, l[i]? = some x → p x = false → NextIs E H n b nv nt (S i) (S (i + 1)))
    (miss : OutIs E H n b (S l.length) e t) (hj : l.all (fun x => !p x) = true) (hn : l.length < n) : LoopIs E H n b s e t := by
  refine loop_of (nv := nv) (nt := nt) S l.length (by rw [hr]; exact hs) hv ht (fun i hi => ?_) miss hn
  have hx : l[i]? = some l[i] := List.getElem?_eq_getElem hi
  refine step i _ hx ?_
  have := List.all_eq_true.1 hj l[i] (List.getElem_mem hi)
  simpa using this
theorem findIdx_lt_of_any {α : Type} {l : List α} {p : α → Bool} (h : l.any p = true) : l.findIdx p < l.length := by
  rw [List.findIdx_lt_length]
  simpa using h
theorem all_of_any {α : Type} {l : List α} {p : α → Bool} (h : l.any p = false) : l.all (fun x => !p x) = true := by
  rw [List.all_eq_true]
  intro x hx
  rw [List.any_eq_false] at h
  have := h x hx
  simpa using this

theorem w64 {i n : Nat} (h : i < n) (hn : n < 9223372036854775808) : IntKind.wrap .i64 ((i : Int) + 1) = ((i + 1 : Nat) : Int) := by rw [wrap_i64 (by omega) (by omega)]; simp
abbrev nilC : List (List C) := []
abbrev st (s : ByteArray) : C := .raw (.string s)
abbrev by8 (n : Int) : C := .raw (.int .u8 n)
end Go.Dm
