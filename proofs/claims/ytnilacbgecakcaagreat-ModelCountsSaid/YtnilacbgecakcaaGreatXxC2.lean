/-
  A part of the proofs over this seat: a machine over data (the file in which the theorems stand says what is proved).
-/
import Derived.ChangeCalls
import Derived.KernelRfl
import Derived.OpenShut
import Derived.ProofKit
import Derived.Test.YtnilacbgecakcaaGreatXxC1
namespace Go.Dm
open Go.RowKit
def md (r : Nat) : Code → Option Code
  | .loop b => if aP b = r then some b else md r b
  | .seq a b => match md r a with | some c => some c | none => md r b
  | .cond _ a b => match md r a with | some c => some c | none => md r b
  | .block _ b => md r b
  | _ => none
def LB (P : Program) (f r : Nat) : Code :=
  match P.funcs[f]? with
  | some fn => match fn.body with
    | some c => match md r c with | some b => b | none => .skip
    | none => .skip
  | none => .skip
def ax (E : Env) (H : Nat → LoopHint) (n : Nat) (b : Code) (nv nt : Nat) (s s' : St) : Prop :=
  ∃ s2, aG E H n b s = some (.normal, s2) ∧ (s2.cut nv nt).map (fun s => { s with tmps := bC s.tmps (H (aP b)).forget }) = some s'
def bj (E : Env) (H : Nat → LoopHint) (n : Nat) (b : Code) (s : St) (e : Ext) (s' : St) : Prop := aG E H n b s = some (e, s') ∧ e ≠ .normal
def y9 (E : Env) (H : Nat → LoopHint) (n : Nat) (b : Code) (nv nt : Nat) (s : St) (gs : List G) : Option (St × List Prop) :=
  match dW E H n b s gs with
  | some (.normal, s2, [], ps) => match s2.cut nv nt with
    | some s3 => some ({ s3 with tmps := bC s3.tmps (H (aP b)).forget }, ps)
    | none => none
  | _ => none
def EO (E : Env) (H : Nat → LoopHint) (n : Nat) (b : Code) (s : St) (gs : List G) : Option (Ext × St × List Prop) :=
  match dW E H n b s gs with
  | some (.normal, _, _, _) => none
  | some (e, s2, [], ps) => some (e, s2, ps)
  | _ => none
theorem BX {E : Env} (hJ : JOk E) {H : Nat → LoopHint} {n : Nat} {b : Code} {nv nt : Nat} {s s' : St} {gs : List G} {ps : List Prop} (h : y9 E H n b nv nt s gs = some (s', ps)) (hp : eV ps) : ax E H n b nv nt s s' := by
  unfold y9 at h
  split at h
  · rename_i s2 ps2 hg
    split at h
    · rename_i s3 hc
      simp only [Option.some.injEq, Prod.mk.injEq] at h
      obtain ⟨rfl, rfl⟩ := h
      exact ⟨s2, bm hJ b _ _ _ _ _ _ hg hp, by rw [hc]; rfl⟩
    · cases h
  · cases h
theorem CV {E : Env} (hJ : JOk E) {H : Nat → LoopHint} {n : Nat} {b : Code} {s s' : St} {gs : List G} {e : Ext} {ps : List Prop} (h : EO E H n b s gs = some (e, s', ps)) (hp : eV ps) : bj E H n b s e s' := by
  unfold EO at h
  split at h
  · cases h
  · rename_i e2 s2 ps2 hne hg
    simp only [Option.some.injEq, Prod.mk.injEq] at h
    obtain ⟨rfl, rfl, rfl⟩ := h
    exact ⟨bm hJ b _ _ _ _ _ _ hg hp, fun he => hne he⟩
  · cases h
theorem zH {E : Env} (hJ : JOk E) {H : Nat → LoopHint} {n : Nat} {b : Code} {nv nt : Nat} {s s' : St} {Q : Prop} (q : Q) {gs : List G} (h : (y9 E H n b nv nt s gs).map (fun r => (r.1, eV r.2)) = some (s', Q)) : ax E H n b nv nt s s' := by
  rw [Option.map_eq_some_iff] at h
  obtain ⟨⟨s0, ps⟩, h1, h2⟩ := h
  simp only [Prod.mk.injEq] at h2
  obtain ⟨rfl, rfl⟩ := h2
  exact BX hJ h1 q
theorem Ck {E : Env} (hJ : JOk E) {H : Nat → LoopHint} {n : Nat} {b : Code} {s s' : St} {e : Ext} {Q : Prop} (q : Q) {gs : List G} (h : (EO E H n b s gs).map (fun r => (r.1, r.2.1, eV r.2.2)) = some (e, s', Q)) : bj E H n b s e s' := by
  rw [Option.map_eq_some_iff] at h
  obtain ⟨⟨e0, s0, ps⟩, h1, h2⟩ := h
  simp only [Prod.mk.injEq] at h2
  obtain ⟨rfl, rfl, rfl⟩ := h2
  exact CV hJ h1 q
theorem iy {E : Env} {H : Nat → LoopHint} {n : Nat} {b : Code} {s0 : St} (S : Nat → St) (N : Nat) {e : Ext} {s' : St} {nv nt : Nat} (h0 : s0 = S 0)
    (hv : (S 0).vars.length = nv) (ht : (S 0).toks.length = nt)
    (step : ∀ i, i < N → ax E H n b nv nt (S i) (S (i + 1))) (last : bj E H n b (S N) e s') (hn : N < n) : aA E H n b s0 e s' :=
  fun _ hs => AU S N (hs.trans h0) hv ht step last.1 last.2 hn
def G0 (k : IntKind) (x y : Int) : Int := k.wrap (BitVec.ofInt k.bits x ^^^ BitVec.ofInt k.bits y).toNat
abbrev u (n : Int) : C := .raw (.int .u64 n)
abbrev ii (n : Int) : C := .raw (.int .i64 n)
abbrev w4 (n : Int) : C := .raw (.int .u32 n)
abbrev bo (b : Bool) : C := .raw (.bool b)
abbrev tc (x : C) : T := .k (.v (.c x))
theorem cI {x : Int} (h1 : -9223372036854775808 ≤ x) (h2 : x < 9223372036854775808) : IntKind.wrap .i64 x = x := by
  unfold IntKind.wrap
  simp [IntKind.signed, IntKind.bits]
  omega
theorem cq {E : Env} {H : Nat → LoopHint} {n : Nat} {b : Code} {s0 : St} {α σ : Type} (S : σ → Nat → St) (P : Nat → σ → Prop) (l : List α) (g : σ → α → σ) (a0 : σ) {nv nt : Nat} {e : Ext} {t : σ → St}
    (hs : s0 = S a0 0) (hv : (S a0 0).vars.length = nv) (ht : (S a0 0).toks.length = nt) (hP : P 0 a0)
    (step : ∀ a i x, l[i]? = some x → P i a → ax E H n b nv nt (S a i) (S (g a x) (i + 1)) ∧ P (i + 1) (g a x))
    (last : P l.length (l.foldl g a0) → bj E H n b (S (l.foldl g a0) l.length) e (t (l.foldl g a0))) (hn : l.length < n) : aA E H n b s0 e (t (l.foldl g a0)) := by
  have hall : ∀ i, i ≤ l.length → P i ((l.take i).foldl g a0) := by
    intro i
    induction i with
    | zero => intro _; simpa using hP
    | succ i ih =>
      intro hi
      have hx : l[i]? = some l[i] := List.getElem?_eq_getElem (by omega)
      have := (step _ i _ hx (ih (by omega))).2
      rwa [List.take_add_one, hx, List.foldl_append]
  refine iy (nv := nv) (nt := nt) (fun i => S ((l.take i).foldl g a0) i) l.length (by simpa using hs) (by simpa using hv) (by simpa using ht) (fun i hi => ?_) ?_ hn
  · have hx : l[i]? = some l[i] := List.getElem?_eq_getElem hi
    have := (step _ i _ hx (hall i (by omega))).1
    rw [List.take_add_one, hx, List.foldl_append]
    exact this
  · rw [List.take_length]
    exact last (by have := hall l.length (by omega); rwa [List.take_length] at this)
theorem oK {E : Env} {H : Nat → LoopHint} {n : Nat} {b : Code} {s0 : St} {α : Type} (S : Nat → St) (l : List α) (p : α → Bool) {nv nt : Nat} {e : Ext} {t : St}
    (hs : s0 = S 0) (hv : (S 0).vars.length = nv) (ht : (S 0).toks.length = nt)
    (step : ∀ i x, l[i]? = some x → p x = false → ax E H n b nv nt (S i) (S (i + 1)))
    (hit : ∀ x, l[l.findIdx p]? = some x → p x = true → bj E H n b (S (l.findIdx p)) e t) (hj : l.findIdx p < l.length) (hn : l.length < n) : aA E H n b s0 e t := by
  refine iy (nv := nv) (nt := nt) S (l.findIdx p) hs hv ht (fun i hi => ?_) ?_ (by omega)
  · have hx : l[i]? = some l[i] := List.getElem?_eq_getElem (by omega)
    exact step i _ hx (by have := List.not_of_lt_findIdx hi; simpa using this)
  · have hx : l[l.findIdx p]? = some l[l.findIdx p] := List.getElem?_eq_getElem hj
    exact hit _ hx (List.findIdx_getElem (w := hj))
theorem gz {E : Env} {H : Nat → LoopHint} {n : Nat} {b : Code} {s0 : St} {α : Type} (S : Nat → St) (l : List α) (p : α → Bool) {nv nt : Nat} {e : Ext} {t : St}
    (hs : s0 = S 0) (hv : (S 0).vars.length = nv) (ht : (S 0).toks.length = nt)
    (step : ∀ i x, l[i]? = some x → p x = false → ax E H n b nv nt (S i) (S (i + 1)))
    (miss : bj E H n b (S l.length) e t) (hj : l.all (fun x => !p x) = true) (hn : l.length < n) : aA E H n b s0 e t := by
  refine iy (nv := nv) (nt := nt) S l.length hs hv ht (fun i hi => ?_) miss hn
  have hx : l[i]? = some l[i] := List.getElem?_eq_getElem hi
  refine step i _ hx ?_
  have := List.all_eq_true.1 hj l[i] (List.getElem_mem hi)
  simpa using this
theorem cL {α : Type} {l : List α} {p : α → Bool} (h : l.any p = true) : l.findIdx p < l.length := by
  rw [List.findIdx_lt_length]
  simpa using h
theorem fv {α : Type} {l : List α} {p : α → Bool} (h : l.any p = false) : l.all (fun x => !p x) = true := by
  rw [List.all_eq_true]
  intro x hx
  rw [List.any_eq_false] at h
  have := h x hx
  simpa using this
theorem w64 {i n : Nat} (h : i < n) (hn : n < 9223372036854775808) : IntKind.wrap .i64 ((i : Int) + 1) = ((i + 1 : Nat) : Int) := by rw [cI (by omega) (by omega)]; simp
abbrev st (s : ByteArray) : C := .raw (.string s)
abbrev by8 (n : Int) : C := .raw (.int .u8 n)
def Wy (_ : List G) (Q : Prop) : Prop := Q
theorem e0 : Wy [] True := trivial
theorem ep {gs : List G} {p Q : Prop} (h : p) (r : Wy gs Q) : Wy gs (p ∧ Q) := ⟨h, r⟩
theorem eg (g : G) {gs : List G} {Q : Prop} (r : Wy gs Q) : Wy (g :: gs) Q := r
theorem eb {b c : Bool} {gs : List G} {Q : Prop} (h : b = c) (r : Wy gs Q) : Wy (.b c :: gs) (b = c ∧ Q) := ⟨h, r⟩
theorem en {b c : Bool} {gs : List G} {Q : Prop} (h : b = c) (r : Wy gs Q) : Wy (.b (not c) :: gs) (not b = not c ∧ Q) := ⟨congrArg not h, r⟩
theorem et {gs : List G} {Q : Prop} (r : Wy gs Q) : Wy (.b true :: gs) (true = true ∧ Q) := ⟨rfl, r⟩
theorem ef {gs : List G} {Q : Prop} (r : Wy gs Q) : Wy (.b false :: gs) (false = false ∧ Q) := ⟨rfl, r⟩
theorem eq1 (n : Nat) {gs : List G} {Q : Prop} (r : Wy gs Q) : Wy gs (n = n ∧ Q) := ⟨rfl, r⟩
theorem ec {P : Program} {gl : Nat → Option (List C)} {X : Tab} {H : FuncId → Nat → LoopHint} {n k : Nat} {g : FuncId} {xs : List A} {ims ims' : List (List C)} {rs : List Res} {gs : List G} {Q : Prop} (h : ag P gl X H n k g xs ims = some (rs, ims')) (r : Wy gs Q) : Wy (.call rs ims' :: gs) (ag P gl X H n k g xs ims = some (rs, ims') ∧ Q) := ⟨h, r⟩
theorem ro {P : Program} {gl : Nat → Option (List C)} {X : Tab} {H : FuncId → Nat → LoopHint} {n k : Nat} {g : FuncId} {fn : Func} {Q : Prop} {xs : List A} {ims ims' : List (List C)} {gs : List G} {rs : List Res} (q : Wy gs Q) (hg : P.funcs[g]? = some fn := by rfl) (hx : X g = none := by rfl)
    (h : (gFn (A3 P gl X H n k) (H g) n fn xs ims gs).map (fun r => (r.1, r.2.1, eV r.2.2)) = some (rs, ims', Q) := by kernel_rfl) : ag P gl X H n (k + 1) g xs ims = some (rs, ims') := wW hg hx q h
theorem rt {P : Program} {gl : Nat → Option (List C)} {X : Tab} {H : FuncId → Nat → LoopHint} {n k : Nat} {g : FuncId} {fn : Func} {Q : Prop} {xs : List A} {gs : List G} {rs : List Res} {r : Option (List Res × List (List C))} (q : Wy gs Q) (e : some (rs, ([] : List (List C))) = r) (hg : P.funcs[g]? = some fn := by rfl) (hx : X g = none := by rfl)
    (h : (gFn (A3 P gl X H n k) (H g) n fn xs [] gs).map (fun r => (r.1, r.2.1, eV r.2.2)) = some (rs, [], Q) := by kernel_rfl) : ag P gl X H n (k + 1) g xs [] = r := (wW hg hx q h).trans e
theorem rti {P : Program} {gl : Nat → Option (List C)} {X : Tab} {H : FuncId → Nat → LoopHint} {n k : Nat} {g : FuncId} {fn : Func} {Q : Prop} {xs : List A} {ims ims' : List (List C)} {gs : List G} {rs : List Res} {r : Option (List Res × List (List C))} (q : Wy gs Q) (e : some (rs, ims') = r) (hg : P.funcs[g]? = some fn := by rfl) (hx : X g = none := by rfl)
    (h : (gFn (A3 P gl X H n k) (H g) n fn xs ims gs).map (fun r => (r.1, r.2.1, eV r.2.2)) = some (rs, ims', Q) := by kernel_rfl) : ag P gl X H n (k + 1) g xs ims = r := (wW hg hx q h).trans e
theorem nx {P : Program} {F : jo} {gl : Nat → Option (List C)} {HH : FuncId → Nat → LoopHint} {N d : Nat} {H : Nat → LoopHint} {n : Nat} {b : Code} {nv nt : Nat} {s s' : St} {Q : Prop} {gs : List G} (q : Wy gs Q) (h : (y9 (nI P F gl HH N d) H n b nv nt s gs).map (fun r => (r.1, eV r.2)) = some (s', Q) := by kernel_rfl) : ax (nI P F gl HH N d) H n b nv nt s s' := zH (i8 d) q h
theorem ou {P : Program} {F : jo} {gl : Nat → Option (List C)} {HH : FuncId → Nat → LoopHint} {N d : Nat} {H : Nat → LoopHint} {n : Nat} {b : Code} {s s' : St} {e : Ext} {Q : Prop} {gs : List G} (q : Wy gs Q) (h : (EO (nI P F gl HH N d) H n b s gs).map (fun r => (r.1, r.2.1, eV r.2.2)) = some (e, s', Q) := by kernel_rfl) : bj (nI P F gl HH N d) H n b s e s' := Ck (i8 d) q h
theorem nn {b : Bool} (h : b = true) : (!b) = false := by rw [h]; rfl
theorem ao {α : Type} {f : α → List C} {l : List α} {i : Nat} {x : α} (h : l[i]? = some x) : (l.map f)[i]? = some (f x) := by rw [List.getElem?_map, h]; rfl
theorem af {α : Type} (f : α → List C) (l : List α) : (l.map f).length = l.length := List.length_map f
theorem a9 {α : Type} (f : α → List C) (l r : List α) : l.map f ++ r.map f = (l ++ r).map f := List.map_append.symm
theorem bq (l : List (List C)) : [] ++ l = l := rfl
theorem lz {α : Type} (f : α → List C) (l : List α) (a : Nat) : ((l.map f).take l.length).drop a = (l.drop a).map f := by
  rw [← List.map_take, ← List.map_drop, List.take_length]
abbrev eS (s : ByteArray) : List C := [st s]
abbrev eU (n : Int) : List C := [u n]
abbrev eI (n : Int) : List C := [ii n]
abbrev eB (b : Bool) : List C := [bo b]
abbrev uC (l : List ByteArray) : List (List C) := l.map eS
theorem ar {α : Type} (f : α → List C) {l : List α} {n : Nat} (h : l.length ≤ n) : (l.map f).length ≤ n := by rw [List.length_map]; exact h
theorem cO {α : Type} {f : α → List C} {g : α → C} (h : ∀ x, f x = [g x]) (l : List α) : (l.map f).flatten.map V.c = l.map fun x => V.c (g x) := by
  induction l with
  | nil => rfl
  | cons x l ih => simp only [List.map_cons, List.flatten_cons, List.map_append, h, ih]; rfl
theorem cN {α : Type} (f : α → List C) {l : List α} (h : 0 < l.length) : 0 < (l.map f).length := by rw [List.length_map]; exact h
theorem gu {α : Type} (f : α → List C) {l : List α} {j : Nat} (h : j < l.length) : j < (l.map f).length := by rw [List.length_map]; exact h
theorem jh {α : Type} (g : α → V) (l : List α) (j : Nat) (v : V) (h : j < l.length) : 0 + j * 1 + [v].length ≤ (l.map g).length := by
  simp only [List.length_map, List.length_cons, List.length_nil]; omega
theorem fN {α : Type} (g : α → V) (l : List α) (j : Nat) (y : α) (h : j < l.length) : (l.map g).take (0 + j * 1) ++ [g y] ++ (l.map g).drop (0 + j * 1 + [g y].length) = (l.set j y).map g := by
  have e : 0 + j * 1 = j := by omega
  rw [e, List.set_eq_take_append_cons_drop, if_pos h]
  simp
theorem xm {α : Type} (g : α → V) (l : List α) (j : Nat) (y : α) (h : l[j]? = some y) : (l.map g)[0 + j * 1]? = some (g y) := by
  have e : 0 + j * 1 = j := by omega
  rw [e, List.getElem?_map, h]; rfl
theorem rI {α : Type} (g : α → C) : ∀ (l : List α), (l.map fun x => V.c (g x)).mapM V.toC = some (l.map g)
  | [] => rfl
  | x :: l => by rw [List.map_cons, List.mapM_cons, rI g l]; rfl
theorem m9 {α : Type} (g : α → C) : ∀ (l : List α), gb 1 l.length (l.map g) = some (l.map fun x => [g x])
  | [] => rfl
  | x :: l => by
    simp only [List.length_cons, List.map_cons, gb]
    rw [if_pos (by omega)]
    simp only [List.drop_succ_cons, List.drop_zero, m9 g l, Option.map_some]
    rfl
theorem bD {α : Type} (g : α → C) (l : List α) {n : Nat} (h : n = l.length) : (((l.map fun x => V.c (g x)).drop 0).mapM V.toC).bind (gb 1 n) = some (l.map fun x => [g x]) := by
  subst h
  rw [List.drop_zero, rI, Option.bind_some, m9]
theorem wK {α : Type} (g : α → C) (l : List α) (n : Nat) : (l.map fun x => V.c (g x)).all (V.old n) = true := by
  simp [V.old]
theorem ql {α : Type} (g : α → C) (l : List α) (k : Nat) : (l.map fun x => V.c (g x)).map (V.untok k) = l.map fun x => V.c (g x) := by
  simp [V.untok]
def uY (rows : List Nat) (n k : Nat) : Nat → List (List V) → Option (List (List V) × List Prop)
  | _, [] => some ([], [])
  | i, xs :: r => match uY rows n k (i + 1) r with
    | some (ys, ps) => if rows.contains i then some (xs :: ys, (xs.all (V.old n) = true) :: (xs.map (V.untok k) = xs) :: ps) else if xs.all (V.old n) then some (xs.map (V.untok k) :: ys, ps) else none
    | none => none
theorem iz {rows : List Nat} {n k : Nat} : ∀ {i : Nat} {xs ys : List (List V)} {ps : List Prop}, uY rows n k i xs = some (ys, ps) → eV ps → xs.all (fun x => x.all (V.old n)) = true ∧ xs.map (fun x => x.map (V.untok k)) = ys
  | _, [], ys, ps, h, _ => by simp only [uY, Option.some.injEq, Prod.mk.injEq] at h; obtain ⟨rfl, _⟩ := h; exact ⟨rfl, rfl⟩
  | i, x :: xs, ys, ps, h, hp => by
    simp only [uY] at h
    split at h
    · rename_i zs qs hr
      split at h
      · simp only [Option.some.injEq, Prod.mk.injEq] at h
        obtain ⟨rfl, rfl⟩ := h
        obtain ⟨h1, h2, h3⟩ := hp
        obtain ⟨g1, g2⟩ := iz hr h3
        exact ⟨by simp only [List.all_cons, h1, g1, Bool.and_self], by rw [List.map_cons, g2, h2]⟩
      · split at h
        · rename_i h1
          simp only [Option.some.injEq, Prod.mk.injEq] at h
          obtain ⟨rfl, rfl⟩ := h
          obtain ⟨g1, g2⟩ := iz hr hp
          exact ⟨by simp only [List.all_cons, h1, g1, Bool.and_self], by rw [List.map_cons, g2]⟩
        · cases h
    · cases h
def u9 (rows : List Nat) (E : Env) (H : Nat → LoopHint) (n : Nat) (b : Code) (nv nt : Nat) (s : St) (gs : List G) : Option (St × List Prop) :=
  match dW E H n b s gs with
  | some (.normal, s2, [], ps) => match uY rows nv nt 0 (s2.vars.take nv) with
    | some (vs, qs) => some (⟨bC (s2.tmps.map (T.cut nv nt)) (H (aP b)).forget, vs, s2.toks.take nt⟩, ps ++ qs)
    | none => none
  | _ => none
theorem uS {E : Env} (hJ : JOk E) {H : Nat → LoopHint} {n : Nat} {b : Code} {nv nt : Nat} {s s' : St} {Q : Prop} (rows : List Nat) (q : Q) {gs : List G} (h : (u9 rows E H n b nv nt s gs).map (fun r => (r.1, eV r.2)) = some (s', Q)) : ax E H n b nv nt s s' := by
  rw [Option.map_eq_some_iff] at h
  obtain ⟨⟨s0, ps⟩, h1, h2⟩ := h
  simp only [Prod.mk.injEq] at h2
  obtain ⟨rfl, rfl⟩ := h2
  unfold u9 at h1
  split at h1
  · rename_i s2 ps2 hg
    split at h1
    · rename_i vs qs hv
      simp only [Option.some.injEq, Prod.mk.injEq] at h1
      obtain ⟨rfl, rfl⟩ := h1
      rw [bQ] at q
      obtain ⟨g1, g2⟩ := iz hv q.2
      refine ⟨s2, bm hJ b _ _ _ _ _ _ hg q.1, ?_⟩
      simp only [St.cut, g1, g2, if_true, Option.map_some]
    · cases h1
  · cases h1
theorem nx2 {P : Program} {F : jo} {gl : Nat → Option (List C)} {HH : FuncId → Nat → LoopHint} {N d : Nat} {H : Nat → LoopHint} {n : Nat} {b : Code} {nv nt : Nat} {s s' : St} {Q : Prop} (rows : List Nat) {gs : List G} (q : Wy gs Q) (h : (u9 rows (nI P F gl HH N d) H n b nv nt s gs).map (fun r => (r.1, eV r.2)) = some (s', Q) := by kernel_rfl) : ax (nI P F gl HH N d) H n b nv nt s s' := uS (i8 d) rows q h
theorem gA {E : Nat → Env} {H : Nat → LoopHint} {n : Nat} {b : Code} {α : Type} (S : Nat → St) (l : List α) (p : α → Bool) (R : Nat → α → St) (D : St) {nv nt : Nat} {e e' : Ext}
    (hv : (S 0).vars.length = nv) (ht : (S 0).toks.length = nt)
    (step : ∀ k i x, l[i]? = some x → p x = false → ax (E k) H n b nv nt (S i) (S (i + 1)))
    (hit : ∀ k i x, l[i]? = some x → p x = true → bj (E k) H n b (S i) e (R i x))
    (done : ∀ k, bj (E k) H n b (S l.length) e' D) (hn : l.length < n) :
    (l.any p = false ∧ ∀ k, aA (E k) H n b (S 0) e' D) ∨ (l.any p = true ∧ ∃ i x, l[i]? = some x ∧ p x = true ∧ l.find? p = some x ∧ (∀ j y, j < i → l[j]? = some y → p y = false) ∧ ∀ k, aA (E k) H n b (S 0) e (R i x)) := by
  cases hb : l.any p with
  | false => exact .inl ⟨rfl, fun k => gz S l p rfl hv ht (step k) (done k) (fv hb) hn⟩
  | true =>
    have hj := cL hb
    have hx : l[l.findIdx p]? = some l[l.findIdx p] := List.getElem?_eq_getElem hj
    have hp : p l[l.findIdx p] = true := List.findIdx_getElem (w := hj)
    refine .inr ⟨rfl, _, _, hx, hp, by rw [List.find?_eq_getElem?_findIdx, hx], fun j y hlt hy => ?_, fun k => oK S l p rfl hv ht (step k) (fun x hy hq => ?_) hj hn⟩
    · have := List.not_of_lt_findIdx hlt
      obtain ⟨hj2, rfl⟩ := List.getElem?_eq_some_iff.1 hy
      simpa using this
    · rw [hx] at hy; cases hy
      exact hit k _ _ hx hq
theorem CI {E : Nat → Env} {H : Nat → LoopHint} {n : Nat} {b : Code} {α σ : Type} (S : σ → Nat → St) (P : Nat → σ → Prop) (l : List α) (g : σ → α → σ) (a0 : σ) {nv nt : Nat} {e : Ext} (t : σ → St)
    (hv : (S a0 0).vars.length = nv) (ht : (S a0 0).toks.length = nt) (hP : P 0 a0)
    (stepP : ∀ a i x, l[i]? = some x → P i a → P (i + 1) (g a x))
    (step : ∀ k a i x, l[i]? = some x → P i a → ax (E k) H n b nv nt (S a i) (S (g a x) (i + 1)))
    (last : ∀ k, P l.length (l.foldl g a0) → bj (E k) H n b (S (l.foldl g a0) l.length) e (t (l.foldl g a0))) (hn : l.length < n) : P l.length (l.foldl g a0) ∧ ∀ k, aA (E k) H n b (S a0 0) e (t (l.foldl g a0)) := by
  have hall : ∀ i, i ≤ l.length → P i ((l.take i).foldl g a0) := by
    intro i
    induction i with
    | zero => intro _; simpa using hP
    | succ i ih =>
      intro hi
      have hx : l[i]? = some l[i] := List.getElem?_eq_getElem (by omega)
      have := stepP _ i _ hx (ih (by omega))
      rwa [List.take_add_one, hx, List.foldl_append]
  refine ⟨by have := hall l.length (Nat.le_refl _); rwa [List.take_length] at this, fun k => cq S P l g a0 rfl hv ht hP (fun a i x hx hp => ⟨step k a i x hx hp, stepP a i x hx hp⟩) (last k) hn⟩
theorem AZ {α β : Type} {a : List α} {b : List β} {i : Nat} {p : α × β} (h : (a.zip b)[i]? = some p) : a[i]? = some p.1 ∧ b[i]? = some p.2 := by
  rw [List.getElem?_zip_eq_some] at h
  exact h
theorem bO {α : Type} {l : List α} {i : Nat} {x : α} (h : l[i]? = some x) : i < l.length := (List.getElem?_eq_some_iff.1 h).1
theorem dlt {α : Type} {l : List α} {i : Nat} {x : α} (h : l[i]? = some x) : decide ((i : Int) < (l.length : Int)) = true := decide_eq_true (by have := bO h; omega)
theorem dge {n : Nat} : decide ((n : Int) < (n : Int)) = false := decide_eq_false (by omega)
theorem mq {α : Type} {l : List α} {i : Nat} {x : α} (h : l[i]? = some x) (hn : l.length ≤ 1000000000) : IntKind.wrap .i64 ((i : Int) + 1) = ((i + 1 : Nat) : Int) := w64 (n := l.length) (bO h) (by omega)
theorem pA (a b : ByteArray) : (a == b) = (a.data == b.data) := by cases a; cases b; rfl
instance : LawfulBEq ByteArray where
  rfl {a} := by rw [pA]; exact beq_self_eq_true _
  eq_of_beq {a b} h := by
    rw [pA] at h
    have := eq_of_beq h
    cases a; cases b; simp at this; subst this; rfl
def hs : Nat → List T → List T
  | 0, r => r
  | n + 1, r => .hole :: hs n r
def ks : Nat → List T → List T
  | 0, r => r
  | n + 1, r => .skip :: ks n r
end Go.Dm
namespace Go.Dm
open Go.RowKit Go.ChangeShapes Go.WideShapes
def Typ (P : Program) : Nat → TypeId → List C → Prop
  | 0, _, _ => False
  | f + 1, t, xs =>
    match P.underlying t with
    | some .bool => ∃ b, xs = [.raw (.bool b)]
    | some (.int k) => ∃ n, xs = [.raw (.int k n)] ∧ (Lit.int k n).wf = true
    | some .string => ∃ s : ByteArray, xs = [.raw (.string s)] ∧ s.size ≤ maxLen
    | some (.slice e) => ∃ es, xs = [.slice (P.cellsOf e) es] ∧ es.length ≤ maxLen ∧ ∀ x ∈ es, Typ P f e x
    | some (.array n e) => ∃ es : List (List C), xs = es.flatten ∧ es.length = n ∧ ∀ x ∈ es, Typ P f e x
    | some (.struct fs) => ∃ ps : List (List C), xs = ps.flatten ∧ aJ (fun g x => Typ P f g.type x) fs.toList ps
    | _ => False
def mw (P : Program) : List Field → Nat → Option Nat
  | [], o => some o
  | f :: fs, o => if f.offset = o then mw P fs (o + P.cellsOf f.type) else none
def eH (P : Program) : Nat → TypeId → Bool
  | 0, _ => false
  | f + 1, t =>
    match P.underlying t with
    | some .bool | some (.int _) | some .string => true
    | some (.slice e) => decide (0 < P.cellsOf e) && eH P f e
    | some (.array n e) => decide (P.cellsOf t = n * P.cellsOf e) && eH P f e
    | some (.struct fs) => decide (mw P fs.toList 0 = some (P.cellsOf t)) && fs.toList.all (fun g => eH P f g.type)
    | _ => false
section
variable {H : Type} {enc : TypeId × Value → H} {P : Program} {w : World} {base : Nat} {held : Bool}
def tv (w : World) : Nat → Nat → Prop := fun b _ => b < w.heap.size
theorem sL {R : List C → Prop} {sz : Nat} : ∀ {n : Nat} {cs : List Value}, cs.length = n * sz → (∀ i, i < n → ∃ ys, R ys ∧ aJ (C.rep (tv w) w) ys ((cs.drop (i * sz)).take sz)) →
    ∃ es : List (List C), es.length = n ∧ (∀ x ∈ es, R x) ∧ aJ (C.rep (tv w) w) es.flatten cs
  | 0, cs, hl, _ => by
    have : cs = [] := List.eq_nil_of_length_eq_zero (by simpa using hl)
    subst this
    exact ⟨[], rfl, by simp, trivial⟩
  | n + 1, cs, hl, h => by
    obtain ⟨ys, hy, hr⟩ := h 0 (by omega)
    rw [Nat.zero_mul, List.drop_zero] at hr
    obtain ⟨es, h1, h2, h3⟩ := sL (n := n) (sz := sz) (cs := cs.drop sz) (by rw [List.length_drop, hl, Nat.succ_mul]; omega) (fun i hi => by
      obtain ⟨ys, hy, hr⟩ := h (i + 1) (by omega)
      refine ⟨ys, hy, ?_⟩
      rw [List.drop_drop]
      rwa [show sz + i * sz = (i + 1) * sz by rw [Nat.succ_mul]; omega])
    refine ⟨ys :: es, by simp [h1], ?_, ?_⟩
    · intro x hx
      rcases List.mem_cons.1 hx with rfl | hx
      · exact hy
      · exact h2 x hx
    · rw [List.flatten_cons]
      have := hr.append h3
      rwa [List.take_append_drop] at this
theorem m8 {R : Field → List C → Prop} : ∀ {fs : List Field} {o m : Nat} {cs : List Value}, mw P fs o = some m → o + cs.length = m → (∀ f ∈ fs, ∃ ys, R f ys ∧ aJ (C.rep (tv w) w) ys ((cs.drop (f.offset - o)).take (P.cellsOf f.type))) → (∀ f ∈ fs, o ≤ f.offset) →
    ∃ ps : List (List C), aJ R fs ps ∧ aJ (C.rep (tv w) w) ps.flatten cs
  | [], o, m, cs, hm, hl, _, _ => by
    simp only [mw, Option.some.injEq] at hm
    have : cs = [] := List.eq_nil_of_length_eq_zero (by omega)
    subst this
    exact ⟨[], trivial, trivial⟩
  | f :: fs, o, m, cs, hm, hl, h, ho => by
    simp only [mw] at hm
    split at hm
    · rename_i hf
      obtain ⟨ys, hy, hr⟩ := h f (by simp)
      rw [hf, Nat.sub_self, List.drop_zero] at hr
      have hge : ∀ {gs : List Field} {a b : Nat}, mw P gs a = some b → a ≤ b := by
        intro gs
        induction gs with
        | nil => intro a b h; simp only [mw, Option.some.injEq] at h; omega
        | cons g gs ih => intro a b h; simp only [mw] at h; split at h
                          · have := ih h; omega
                          · cases h
      have hall : ∀ {gs : List Field} {a b : Nat}, mw P gs a = some b → ∀ g ∈ gs, a ≤ g.offset := by
        intro gs
        induction gs with
        | nil => intro a b h g hg; simp at hg
        | cons g gs ih =>
          intro a b h g' hg'
          simp only [mw] at h
          split at h
          · rename_i hga
            rcases List.mem_cons.1 hg' with rfl | hg'
            · omega
            · have := ih h g' hg'; omega
          · cases h
      have hle := hge hm
      obtain ⟨ps, h1, h2⟩ := m8 (R := R) (cs := cs.drop (P.cellsOf f.type)) hm (by rw [List.length_drop]; omega) (fun g hg => by
        obtain ⟨ys, hy, hr⟩ := h g (by simp [hg])
        refine ⟨ys, hy, ?_⟩
        have := hall hm g hg
        rw [List.drop_drop]
        rwa [show P.cellsOf f.type + (g.offset - (o + P.cellsOf f.type)) = g.offset - o by omega]) (hall hm)
      refine ⟨ys :: ps, ⟨hy, h1⟩, ?_⟩
      rw [List.flatten_cons]
      have := hr.append h2
      rwa [List.take_append_drop] at this
    · cases hm
theorem pK {α β : Type} {f : α → Option β} : ∀ {xs : List α} {ys : List β}, xs.mapM f = some ys → ∀ (i : Nat) (x : α), xs[i]? = some x → ∃ y, ys[i]? = some y ∧ f x = some y
  | [], ys, h, i, x, hx => by simp at hx
  | a :: xs, ys, h, i, x, hx => by
    rw [List.mapM_cons] at h
    simp only [Option.pure_def, Option.bind_eq_bind, Option.bind_eq_some_iff, Option.some.injEq] at h
    obtain ⟨z, hz, zs, hzs, rfl⟩ := h
    cases i with
    | zero => simp at hx; subst hx; exact ⟨z, rfl, hz⟩
    | succ i => simp at hx ⊢; exact pK hzs i x hx
theorem cells?_some {a : Addr} {n : Nat} {vs : List Value} (h : w.cells? base a n = some vs) : vs.length = n ∧ ∀ j, j < n → ∃ v, vs[j]? = some v ∧ w.cell? (a.add j) = some v := by
  unfold World.cells? at h
  split at h
  · refine ⟨by have := cz h; simpa using this, fun j hj => ?_⟩
    obtain ⟨y, h1, h2⟩ := pK h j j (by simp [hj])
    exact ⟨y, h1, h2⟩
  · cases h
theorem v6 {a : Addr} {v : Value} (h : w.cell? a = some v) : a.spot = none := by
  unfold World.cell? at h
  split at h
  · split at h
    · cases h
    · rename_i hs; cases hq : a.spot with
      | none => rfl
      | some _ => rw [hq] at hs; simp at hs
  · cases h
theorem si {b o n : Nat} : (⟨b, o, none⟩ : Addr).add n = ⟨b, o + n, none⟩ := by
  unfold Addr.add
  split
  · rename_i h; subst h; rfl
  · rfl
theorem fJ : ∀ (n : Nat) {t : TypeId} {fuel : Nat} {cs : List Value} {x : DataW H × List MemPlace}, eH P n t = true → DataW.trod enc P w base (fun _ => true) held fuel t cs = some x →
    ∃ xs, Typ P n t xs ∧ aJ (C.rep (tv w) w) xs cs
  | 0, t, fuel, cs, x, hp, _ => by simp [eH] at hp
  | n + 1, t, fuel, cs, x, hp, h => by
    simp only [eH] at hp
    split at hp
    · rename_i hu
      obtain ⟨b, rfl, _⟩ := DataW.trod_bool hu h
      exact ⟨[.raw (.bool b)], by simp only [Typ, hu]; exact ⟨b, rfl⟩, (by unfold C.rep; exact ⟨rfl, rfl⟩), trivial⟩
    · rename_i k hu
      obtain ⟨i, rfl, _, hw⟩ := DataW.trod_int hu h
      exact ⟨[.raw (.int k i)], by simp only [Typ, hu]; exact ⟨i, rfl, hw⟩, (by unfold C.rep; exact ⟨rfl, rfl⟩), trivial⟩
    · rename_i hu
      obtain ⟨s, rfl, _, hs⟩ := DataW.trod_string hu h
      exact ⟨[.raw (.string s)], by simp only [Typ, hu]; exact ⟨s, rfl, hs⟩, (by unfold C.rep; exact ⟨rfl, rfl⟩), trivial⟩
    · rename_i e hu
      simp only [Bool.and_eq_true, decide_eq_true_eq] at hp
      obtain ⟨hpos, hp⟩ := hp
      rcases DataW.trod_slice hu h with ⟨rfl, _⟩ | ⟨a, len, cap, elems, rest, m, _, rfl, _, hb, hlc, hcm, hel, hget, hsp, _⟩
      · refine ⟨[.slice (P.cellsOf e) []], by simp only [Typ, hu]; exact ⟨[], rfl, by simp, by simp⟩, ?_, trivial⟩
        simp only [C.rep]
        exact ⟨none, 0, 0, rfl, rfl, Nat.le_refl _, .inl ⟨rfl, rfl⟩⟩
      · have hread : ∀ i, i < len → ∃ vs ys, w.cells? base (a.add (i * P.cellsOf e)) (P.cellsOf e) = some vs ∧ Typ P n e ys ∧ aJ (C.rep (tv w) w) ys vs := fun i hi => by
          have hg := hget i hi
          rw [List.getElem?_eq_getElem (by omega)] at hg
          simp only [Option.bind_eq_some_iff] at hg
          obtain ⟨vs, h1, h2⟩ := hg
          obtain ⟨ys, h3, h4⟩ := fJ n hp h2
          exact ⟨vs, ys, h1, h3, h4⟩
        by_cases hcap : cap = 0
        · have : len = 0 := by omega
          subst this; subst hcap
          refine ⟨[.slice (P.cellsOf e) []], by simp only [Typ, hu]; exact ⟨[], rfl, by simp, by simp⟩, ?_, trivial⟩
          simp only [C.rep]
          exact ⟨some a, 0, 0, rfl, rfl, Nat.le_refl _, .inl ⟨rfl, rfl⟩⟩
        · have hspot : a.spot = none := by
            have hz : ∀ {i : Nat}, i * P.cellsOf e = 0 → ∀ vs, w.cells? base (a.add (i * P.cellsOf e)) (P.cellsOf e) = some vs → a.spot = none := fun {i} hi vs hv => by
              obtain ⟨_, h2⟩ := cells?_some hv
              obtain ⟨v, _, h3⟩ := h2 0 hpos
              rw [hi] at h3
              simpa [Addr.add] using v6 h3
            by_cases hl : len = 0
            · obtain ⟨hr1, hr2⟩ := hsp rfl
              have hg := hr2 0 (by omega)
              rw [List.getElem?_eq_getElem (by omega)] at hg
              simp only [Option.bind_eq_some_iff] at hg
              obtain ⟨vs, h1, _⟩ := hg
              exact hz (by simp [hl]) vs h1
            · obtain ⟨vs, _, h1, _⟩ := hread 0 (by omega)
              exact hz (by simp) vs h1
          obtain ⟨b, o, sp⟩ := a
          simp only at hspot
          subst hspot
          have hrows : ∀ k i, i + k = len → ∃ es : List (List C), es.length = k ∧ (∀ x ∈ es, Typ P n e x) ∧ be (tv w) w (P.cellsOf e) b es (o + i * P.cellsOf e) := by
            intro k
            induction k with
            | zero => intro i _; exact ⟨[], rfl, by simp, by simp only [be]⟩
            | succ k ih =>
              intro i hi
              obtain ⟨es, h1, h2, h3⟩ := ih (i + 1) (by omega)
              obtain ⟨vs, ys, g1, g2, g3⟩ := hread i (by omega)
              obtain ⟨c1, c2⟩ := cells?_some g1
              refine ⟨ys :: es, by simp [h1], ?_, ?_⟩
              · intro x hx
                rcases List.mem_cons.1 hx with rfl | hx
                · exact g2
                · exact h2 x hx
              · simp only [be]
                refine ⟨by rw [g3.length, c1], db fun j c hj => ?_, by rwa [show o + i * P.cellsOf e + P.cellsOf e = o + (i + 1) * P.cellsOf e by rw [Nat.succ_mul]; omega]⟩
                have hjl : j < P.cellsOf e := by
                  have := (List.getElem?_eq_some_iff.1 hj).1
                  rw [g3.length, c1] at this
                  exact this
                obtain ⟨v, q1, q2⟩ := c2 j hjl
                rw [si, si] at q2
                obtain ⟨v', q3, q4⟩ := g3.get j c hj
                rw [q1] at q3; cases q3
                exact ⟨World.block_lt_of_cell? w _ q2, v, q2, q4⟩
          obtain ⟨es, h1, h2, h3⟩ := hrows len 0 (by omega)
          rw [Nat.zero_mul, Nat.add_zero] at h3
          refine ⟨[.slice (P.cellsOf e) es], by simp only [Typ, hu]; exact ⟨es, rfl, by omega, h2⟩, ?_, trivial⟩
          simp only [C.rep]
          exact ⟨some ⟨b, o, none⟩, len, cap, rfl, h1.symm, hlc, .inr ⟨b, o, rfl, h3⟩⟩
    · rename_i k e hu
      simp only [Bool.and_eq_true, decide_eq_true_eq] at hp
      obtain ⟨hsz, hp⟩ := hp
      obtain ⟨xs, m, _, _, hcl, hxl, hget⟩ := DataW.trod_array hu h
      obtain ⟨es, h1, h2, h3⟩ := sL (w := w) (R := Typ P n e) (n := k) (sz := P.cellsOf e) (cs := cs) (by rw [hcl, hsz]) (fun i hi => by
        have hg := hget i hi
        rw [List.getElem?_eq_getElem (by omega)] at hg
        exact fJ n hp hg)
      exact ⟨es.flatten, by simp only [Typ, hu]; exact ⟨es, rfl, h1, h2⟩, h3⟩
    · rename_i fs hu
      simp only [Bool.and_eq_true, decide_eq_true_eq] at hp
      obtain ⟨hrow, hp⟩ := hp
      obtain ⟨xs, m, _, _, hcl, hxl, hget⟩ := DataW.trod_struct hu h
      obtain ⟨ps, h1, h2⟩ := m8 (w := w) (P := P) (R := fun g x => Typ P n g.type x) (cs := cs) hrow (by omega) (fun f hf => by
        obtain ⟨i, hi, rfl⟩ := List.getElem_of_mem hf
        have hi' : i < fs.size := by simpa using hi
        have hg := hget i fs[i] (by simp [hi'])
        rw [List.getElem?_eq_getElem (by omega)] at hg
        have hpt := List.all_eq_true.1 hp _ hf
        have := fJ n hpt (by simpa using hg)
        simpa using this) (fun _ _ => Nat.zero_le _)
      exact ⟨ps.flatten, by simp only [Typ, hu]; exact ⟨ps, rfl, h1⟩, h2⟩
    · cases hp
def mkA (P : Program) (t : TypeId) (xs : List C) : A :=
  match fY P t with
  | some true => .agg xs
  | _ => match xs with
    | [x] => .c x
    | xs => .agg xs
theorem CP {n : Nat} {t : TypeId} {v : Value} {d : DataW H} {ps : List MemPlace} {r : Reach} {b0 : Nat} (hp : eH P n t = true) (hv : Value.okWide P w r b0 t v) (h : DataW.Trod enc P w base (fun _ => true) held t v d ps) :
    ∃ xs, Typ P n t xs ∧ (mkA P t xs).rep (tv w) w [] v := by
  obtain ⟨fuel, hf⟩ := h
  obtain ⟨xs, h1, h2⟩ := fJ n hp hf
  refine ⟨xs, h1, ?_⟩
  cases n with
  | zero => simp [eH] at hp
  | succ n =>
    simp only [eH] at hp
    have agg : ∀ cs : Array Value, v = .agg cs → fY P t = some true → (mkA P t xs).rep (tv w) w [] v := fun cs hcs ha => by
      subst hcs
      simp only [mkA, ha, A.rep]
      exact ⟨cs.toList, by simp, by simpa [Value.cells] using h2⟩
    have one : ∀ x, xs = [x] → fY P t ≠ some true → v.cells.toList = [v] → (mkA P t xs).rep (tv w) w [] v := fun x hx ha hc => by
      subst hx
      rw [hc] at h2
      unfold mkA
      split
      · rename_i he; exact absurd he ha
      · exact h2.1
    split at hp
    · rename_i hu
      simp only [Typ, hu] at h1
      obtain ⟨b, rfl⟩ := h1
      simp only [Value.okWide, hu, Cell.okWide] at hv
      exact one _ rfl (by simp [fY, hu, TypeDesc.isRow]) (by cases v <;> simp_all [Cell.ok, Value.cells])
    · rename_i k hu
      simp only [Typ, hu] at h1
      obtain ⟨b, rfl, _⟩ := h1
      simp only [Value.okWide, hu, Cell.okWide] at hv
      exact one _ rfl (by simp [fY, hu, TypeDesc.isRow]) (by cases v <;> simp_all [Cell.ok, Value.cells])
    · rename_i hu
      simp only [Typ, hu] at h1
      obtain ⟨b, rfl, _⟩ := h1
      simp only [Value.okWide, hu, Cell.okWide] at hv
      exact one _ rfl (by simp [fY, hu, TypeDesc.isRow]) (by cases v <;> simp_all [Cell.ok, Value.cells])
    · rename_i e hu
      simp only [Typ, hu] at h1
      obtain ⟨es, rfl, _⟩ := h1
      simp only [Value.okWide, hu, Cell.okWide] at hv
      exact one _ rfl (by simp [fY, hu, TypeDesc.isRow]) (by cases v <;> simp_all [Cell.ok, Value.cells])
    · rename_i k e hu
      simp only [Value.okWide, hu] at hv
      obtain ⟨cs, rfl, _⟩ := hv
      exact agg cs rfl (by simp [fY, hu, TypeDesc.isRow])
    · rename_i fs hu
      simp only [Value.okWide, hu] at hv
      obtain ⟨cs, rfl, _⟩ := hv
      exact agg cs rfl (by simp [fY, hu, TypeDesc.isRow])
    · cases hp
def xT (P : Program) : List TypeId → List (List C) → List A
  | t :: ts, x :: xs => mkA P t x :: xT P ts xs
  | _, _ => []
theorem mZ (P : Program) : ∀ (ts : List TypeId) (xss : List (List C)), dS (xT P ts xss) = true
  | [], _ => by simp [xT, dS]
  | _ :: _, [] => by simp [xT, dS]
  | t :: ts, x :: xs => by
    have ih := mZ P ts xs
    simp only [xT, dS, List.all_cons, Bool.and_eq_true] at ih ⊢
    refine ⟨?_, ih⟩
    unfold mkA
    split
    · rename_i h; split at h <;> (try split at h) <;> simp at h
    · rfl
theorem vc {n : Nat} {r : Reach} {b0 : Nat} : ∀ {ts : List TypeId} {vs : List Value} {ds : List (DataW H)} {ps : List MemPlace}, ts.all (fun t => eH P n t) = true → (∀ (j : Nat) t v, ts[j]? = some t → vs[j]? = some v → Value.okWide P w r b0 t v) → DataW.TrodAll enc P w base (fun _ => true) held ts vs ds ps →
    ∃ xss, aJ (Typ P n) ts xss ∧ aJ (A.rep (tv w) w []) (xT P ts xss) vs
  | [], vs, ds, ps, _, _, h => by
    obtain ⟨rfl, _, _⟩ := trodAll_nil h
    exact ⟨[], trivial, trivial⟩
  | t :: ts, vs, ds, ps, hp, hv, h => by
    obtain ⟨v, vs', d, ds', p, q, rfl, rfl, rfl, h1, h2⟩ := trodAll_cons h
    simp only [List.all_cons, Bool.and_eq_true] at hp
    obtain ⟨xs, g1, g2⟩ := CP hp.1 (hv 0 t v rfl rfl) h1
    obtain ⟨xss, g3, g4⟩ := vc hp.2 (fun j t' v' ht hv' => hv (j + 1) t' v' (by simpa using ht) (by simpa using hv')) h2
    exact ⟨xs :: xss, ⟨g1, g3⟩, ⟨g2, g4⟩⟩
theorem ja {W' : World} {sp' : Nat → Bool} (hl : laidOutB P = true) : ∀ {ts : List TypeId} {vs : List Value} {ds : List (DataW H)} {ps : List MemPlace}, (∀ t ∈ ts, P.readableRec t = true ∧ t < P.types.size) → DataW.TrodAll enc P w base (fun _ => true) true ts vs ds ps → (∀ p ∈ ps, w.sameAt W' p) → (∀ p ∈ ps, sp' p.block = true) →
    DataW.TrodAll enc P W' base sp' true ts vs ds ps
  | [], vs, ds, ps, _, h, _, _ => by
    obtain ⟨rfl, rfl, rfl⟩ := trodAll_nil h
    rfl
  | t :: ts, vs, ds, ps, ht, h, hs, hsp => by
    obtain ⟨v, vs', d, ds', p, q, rfl, rfl, rfl, h1, h2⟩ := trodAll_cons h
    exact ⟨p, q, WideElems.Trod_stays hl (ht t (by simp)).1 (ht t (by simp)).2 h1 (fun x hx => hs x (by simp [hx])) (fun x hx => hsp x (by simp [hx])), ja hl (fun t' ht' => ht t' (by simp [ht'])) h2 (fun x hx => hs x (by simp [hx])) (fun x hx => hsp x (by simp [hx])), rfl⟩
end
theorem qn {H : Type} {enc : TypeId × Value → H} {P : Program} {f : FuncId} {fn : Func} {s : ChangeSpec} {E : Env} (hE : EnvOk E) (hP : E.P = P) {n : Nat} {tb : TypeId}
    (hl : laidOutB P = true) (hr : ∀ t ∈ fn.params.toList, P.readableRec t = true ∧ t < P.types.size) (hp : fn.params.toList.all (fun t => eH P n t) = true) (hv : s.vars = [])
    (hs : ∀ ds : List (DataW H), ds.length = fn.params.toList.length → s.fn H ds = { results := [.lit (.bool true)], args := ds }) (hrt : fn.resultTypes = #[tb]) (hb : P.underlying tb = some .bool)
    (law : ∀ xss, aJ (Typ P n) fn.params.toList xss → E.F f (xT P fn.params.toList xss) [] = some ([.c (.raw (.bool true))], []))
    (W : World) (hgl : cJ E.gl (tv W) W) (base : Nat) (args : Array Value) (ds gs : List (DataW H)) (before : List MemPlace)
    (hval : ∀ (j : Nat) t v, fn.params[j]? = some t → args[j]? = some v → Value.okWide P W .any base t v) (hW : DataW.Whole enc P fn.params.toList s.vars false W args.toList ds gs before) :
    Calls P f args W fun e W' => ∃ v, e = .returned v ∧ s.post enc P fn false true false false W args v W' := by
  subst hP
  have hW' := hW
  obtain ⟨p, q, hA, hV, rfl, _, _⟩ := hW
  rw [hv] at hV
  obtain ⟨rfl, rfl⟩ := trodVars_none hV
  obtain ⟨xss, hx, hrep⟩ := vc (n := n) (r := .any) (b0 := base) hp (fun j t v ht hv => hval j t v (by simpa using ht) (by simpa using hv)) hA
  obtain ⟨_, hmeets'⟩ := hE.call _ _ _ _ _ (law xss hx)
  have hmeets := hmeets'.plain (mZ _ _ _)
  have hm := hmeets (tv W) W [] args.toList (fun b _ h => h) hgl trivial (fun i j cs ds p q _ hi => by simp at hi) hrep
  rw [Array.toArray_toList] at hm
  refine hm.mono fun e W' hpost => ?_
  obtain ⟨us, Fr', rfl, hbb, _, _, hres, _⟩ := hpost
  have hbel : Below W.heap.size W W' := (hbb.mono (imp' := fun _ _ => False) (fun b o h => gG h)).below
  cases us with
  | nil => exact hres.elim
  | cons u us =>
    cases us with
    | cons _ _ => exact hres.2.elim
    | nil =>
      have hu : u = .bool true := by
        have := hres.1
        simp only [Res.rep, C.rep] at this
        exact this.1
      subst hu
      have hlt := hW'.lt
      refine ⟨.bool true, rfl, ds, [], p ++ [], [], p, [], hW', ?_, ?_, ?_, hbel.frame _, fun h => by cases h⟩
      · rw [List.append_nil, hs ds (by have := DataWlen hA; exact this)]
        rw [hrt]
        exact trodAll_mk1 (shut_bool hb true)
      · rw [List.append_nil, hs ds (by have := DataWlen hA; exact this)]
        exact ja hl hr hA (fun x hx => hbel.same (hlt x (by simp [hx]))) (fun x hx => by simpa using hlt x (by simp [hx]))
      · rw [hv, List.append_nil, hs ds (by have := DataWlen hA; exact this)]
        rfl
where
  DataWlen {H : Type} {enc : TypeId × Value → H} {P : Program} {w : World} {base : Nat} {sp : Nat → Bool} {held : Bool} {ts : List TypeId} {vs : List Value} {ds : List (DataW H)} {ps : List MemPlace} (h : DataW.TrodAll enc P w base sp held ts vs ds ps) : ds.length = ts.length := (trodAll_length h).2
end Go.Dm
namespace Go.Dm
open Go.RowKit
theorem za {P : Program} {n : Nat} {t : TypeId} {xs : List C} (hu : P.underlying t = some .bool) (h : Typ P (n + 1) t xs) : ∃ b, xs = [.raw (.bool b)] := by simpa only [Typ, hu] using h
theorem qD {P : Program} {n : Nat} {t : TypeId} {xs : List C} {k : IntKind} (hu : P.underlying t = some (.int k)) (h : Typ P (n + 1) t xs) : ∃ i, xs = [.raw (.int k i)] ∧ (Lit.int k i).wf = true := by simpa only [Typ, hu] using h
theorem tg {P : Program} {n : Nat} {t : TypeId} {xs : List C} (hu : P.underlying t = some .string) (h : Typ P (n + 1) t xs) : ∃ s : ByteArray, xs = [.raw (.string s)] ∧ s.size ≤ maxLen := by simpa only [Typ, hu] using h
theorem pY {P : Program} {n : Nat} {t e : TypeId} {xs : List C} (hu : P.underlying t = some (.slice e)) (h : Typ P (n + 1) t xs) : ∃ es, xs = [.slice (P.cellsOf e) es] ∧ es.length ≤ maxLen ∧ ∀ x ∈ es, Typ P n e x := by simpa only [Typ, hu] using h
theorem tA {P : Program} {n : Nat} {t : TypeId} {xs : List C} {fs : Array Field} (hu : P.underlying t = some (.struct fs)) (h : Typ P (n + 1) t xs) : ∃ ps : List (List C), xs = ps.flatten ∧ aJ (fun g x => Typ P n g.type x) fs.toList ps := by simpa only [Typ, hu] using h
theorem oJ {α : Type} {R : List C → Prop} {f : α → List C} {Q : α → Prop} (hR : ∀ x, R x → ∃ a, x = f a ∧ Q a) : ∀ {es : List (List C)}, (∀ x ∈ es, R x) → ∃ l : List α, es = l.map f ∧ ∀ a ∈ l, Q a
  | [], _ => ⟨[], rfl, by simp⟩
  | e :: es, h => by
    obtain ⟨a, rfl, ha⟩ := hR e (h e (by simp))
    obtain ⟨l, rfl, hl⟩ := oJ (es := es) hR (fun x hx => h x (by simp [hx]))
    exact ⟨a :: l, rfl, by simpa using ⟨ha, hl⟩⟩
theorem sZ {α β : Type} {R : α → β → Prop} {bs : List β} (h : aJ R [] bs) : bs = [] := by
  cases bs with
  | nil => rfl
  | cons _ _ => exact h.elim
theorem du {α β : Type} {R : α → β → Prop} {a : α} {as : List α} {bs : List β} (h : aJ R (a :: as) bs) : ∃ b bs', bs = b :: bs' ∧ R a b ∧ aJ R as bs' := by
  cases bs with
  | nil => exact h.elim
  | cons b bs' => exact ⟨b, bs', rfl, h.1, h.2⟩
end Go.Dm
namespace Go.Dm
open Go.RowKit
theorem BS (h : Array Obj) (o : Obj) (n : Nat) (hn : n = h.size) : (h.push o)[n]? = some o := by subst hn; simp
theorem q9 {P : Program} {gl : Nat → Option (List C)} {f : FuncId} {t e : TypeId} {i : TypeInfo} {z : Value} (hu : P.underlying t = some (.slice e)) (hi : P.info? e = some i) (hz : i.zero = some z) (hzs : z.cells.size = i.size) (_hpos : 0 < i.size) (hby : i.bytes ≤ 131072)
    (hnil : ∀ (n cap : Nat) (w : World), Calls P f #[.slice none n cap] w fun e w' => e = .returned (.slice none 0 0) ∧ w' = w)
    (hsome : ∀ (a : Addr) (n cap : Nat) (w : World) (v' : Value) (w' : World), (∀ ty, (Builtin.append_ #[t, t] ty #[.slice (some ⟨w.heap.size, 0, none⟩) 0 0, .slice (some a) n cap]).run P (w.alloc (.cells #[] e)) = .ok v' w') →
      Calls P f #[.slice (some a) n cap] w fun e w2 => e = .returned v' ∧ w2 = w')
    {sz : Nat} {es : List (List C)} (hsz : sz = i.size ∨ es = []) (hlen : es.length ≤ 1000000) : qr P gl f [.c (.slice sz es)] [] [.top i.size es] [] := by
  intro Fr w locs vs hf hgl him hap hxs
  obtain ⟨v, rfl, hr⟩ : ∃ v, vs = [v] ∧ (C.slice sz es).rep Fr w v := by
    match vs, hxs with
    | [v], h => exact ⟨v, rfl, h.1⟩
    | [], h => exact h.elim
    | _ :: _ :: _, h => exact h.2.elim
  have hl : locs = [] := by
    cases locs with
    | nil => rfl
    | cons _ _ => exact him.elim
  subst hl
  have hr0 := hr
  simp only [C.rep] at hr0
  obtain ⟨a, len, cap, rfl, hle, hcap, hrow⟩ := hr0
  have hle' := hle
  cases a with
  | none =>
    have h0 : es = [] := by
      rcases hrow with ⟨h, _⟩ | ⟨_, _, h, _⟩
      · exact List.eq_nil_of_length_eq_zero (by omega)
      · cases h
    subst h0
    refine (hnil len cap w).mono ?_
    rintro e w' ⟨rfl, rfl⟩
    refine ⟨[.slice none 0 0], Fr, rfl, BelowBut.of_below (Below.refl _ _), fun b o h => h, fun b o h => .inl h, ⟨?_, trivial⟩, ⟨fun j sz es u h => by simp at h, trivial⟩, trivial, rfl⟩
    simp only [Res.rep, C.rep]
    exact ⟨⟨none, 0, 0, rfl, rfl, Nat.le_refl _, .inl ⟨rfl, rfl⟩⟩, none, 0, rfl, Nat.le_refl _, .inl rfl⟩
  | some ad =>
    have hb1 : Below w.heap.size w (w.alloc (.cells #[] e)) := (Below.refl _ w).alloc (Nat.le_refl _) _
    have hev1 : Ev Fr Fr w (w.alloc (.cells #[] e)) := (BelowBut.of_below hb1 : BelowBut (fun _ _ => False) w _).ev (fun _ _ h => h) (fun _ _ _ h => h)
    have hr1 := C.rep.mono hev1 _ _ hr
    obtain ⟨hn, _, hsizes, _⟩ := dK (P := P) hr1 hsz
    obtain ⟨news, hnews, hsrc⟩ := iM hu hr1 hsz
    have hnl := hnews.length
    rw [cj hsizes] at hnl
    by_cases h0 : len = 0
    · have he : es = [] := List.eq_nil_of_length_eq_zero (by omega)
      subst he
      subst h0
      have hn0 : news = [] := List.eq_nil_of_length_eq_zero (by rw [← hnl]; simp)
      subst hn0
      refine (hsome ad 0 cap w _ _ (fun ty => run_append_nothing _ t t ty e i hu hi (some ⟨w.heap.size, 0, none⟩) 0 0 (Nat.le_refl _) _ hsrc)).mono ?_
      rintro e' w' ⟨rfl, rfl⟩
      refine ⟨[.slice (some ⟨w.heap.size, 0, none⟩) 0 0], Fr, rfl, BelowBut.of_below hb1, fun b o h => h, fun b o h => .inl h, ⟨?_, trivial⟩, ⟨fun j sz es u h => by simp at h, trivial⟩, trivial, rfl⟩
      simp only [Res.rep, C.rep]
      exact ⟨⟨_, 0, 0, rfl, rfl, Nat.le_refl _, .inl ⟨rfl, rfl⟩⟩, _, 0, rfl, Nat.le_refl _, .inl rfl⟩
    · have hG := dE (w.alloc (.cells #[] e)) (0 + len) 0 e
      have hold : (Builtin.firstCells i.size 0 (.slice (some ⟨w.heap.size, 0, none⟩) 0 0)).run P (w.alloc (.cells #[] e)).drew = .ok ([] : List Value).toArray (w.alloc (.cells #[] e)).drew :=
        run_firstCells_some _ i.size 0 _ 0 0 [] (by simp) (fun j u hj => by simp at hj)
      have hfit : Builtin.nextslicecap (0 + len) 0 * i.bytes ≤ 281474976710656 := growslice_fits (by omega) (by
        calc (0 + len) * i.bytes ≤ 1000000 * 131072 := Nat.mul_le_mul (by omega) hby
          _ ≤ 140737488355328 := by decide)
      refine (hsome ad len cap w _ _ (fun ty => run_append_grow_src _ t t ty e i z hu hi hz (some ⟨w.heap.size, 0, none⟩) 0 0 [] hold _ len news hsrc (by omega) (by omega) hfit)).mono ?_
      rintro e' w' ⟨rfl, rfl⟩
      have hb2 : Below w.heap.size w ((w.alloc (.cells #[] e)).drew.alloc (.cells (([] ++ news).toArray ++ Builtin.zeroCells z.cells (grownCap (w.alloc (.cells #[] e)) (0 + len) 0 e - (0 + len))) e)) :=
        ((hb1.drew).alloc (by simp) _)
      have hsize : (w.alloc (.cells #[] e)).heap.size = w.heap.size + 1 := by simp
      have hev2 : Ev (fun b o => Fr b o) (fun b o => Fr b o ∨ (b = w.heap.size + 1 ∧ o < es.length * i.size)) (w.alloc (.cells #[] e)) ((w.alloc (.cells #[] e)).drew.alloc (.cells (([] ++ news).toArray ++ Builtin.zeroCells z.cells (grownCap (w.alloc (.cells #[] e)) (0 + len) 0 e - (0 + len))) e)) := by
        have hb3 : Below (w.alloc (.cells #[] e)).heap.size (w.alloc (.cells #[] e)) ((w.alloc (.cells #[] e)).drew.alloc (.cells (([] ++ news).toArray ++ Builtin.zeroCells z.cells (grownCap (w.alloc (.cells #[] e)) (0 + len) 0 e - (0 + len))) e)) :=
          ((Below.refl (w.alloc (.cells #[] e)).heap.size (w.alloc (.cells #[] e))).drew).alloc (by simp) _
        exact (BelowBut.of_below hb3 : BelowBut (fun _ _ => False) _ _).ev (fun _ _ h => .inl h) (fun _ _ _ h => h)
      refine ⟨[.slice (some ⟨(w.alloc (.cells #[] e)).heap.size, 0, none⟩) (0 + len) (grownCap (w.alloc (.cells #[] e)) (0 + len) 0 e)], fun b o => Fr b o ∨ (b = w.heap.size + 1 ∧ o < es.length * i.size), rfl, BelowBut.of_below hb2, fun b o h => .inl h, ?_, ⟨?_, trivial⟩, ⟨fun j sz es u h => by simp at h, trivial⟩, trivial, rfl⟩
      · rintro b o (h | ⟨rfl, _⟩)
        · exact .inl h
        · exact .inr ⟨by omega, by simp⟩
      · simp only [Res.rep, C.rep]
        have hkey : ∀ (o : Nat), ((w.alloc (.cells #[] e)).drew.alloc (.cells (([] ++ news).toArray ++ Builtin.zeroCells z.cells (grownCap (w.alloc (.cells #[] e)) (0 + len) 0 e - (0 + len))) e)).cell? ⟨w.heap.size + 1, 0 + o, none⟩ = (([] ++ news).toArray ++ Builtin.zeroCells z.cells (grownCap (w.alloc (.cells #[] e)) (0 + len) 0 e - (0 + len)))[0 + o]? := fun o => by
          have := World.cell?_alloc_new (w.alloc (.cells #[] e)).drew (([] ++ news).toArray ++ Builtin.zeroCells z.cells (grownCap (w.alloc (.cells #[] e)) (0 + len) 0 e - (0 + len))) e (0 + o)
          simp only [World.size_drew, hsize] at this
          exact this
        refine ⟨⟨_, _, _, rfl, by omega, hG, .inr ⟨w.heap.size + 1, 0, by simp [hsize], ?_⟩⟩, some ⟨(w.alloc (.cells #[] e)).heap.size, 0, none⟩, grownCap (w.alloc (.cells #[] e)) (0 + len) 0 e, by rw [← hle, Nat.zero_add], by omega, .inr ⟨w.heap.size + 1, by simp [hsize], by omega, ⟨_, e, BS (w.alloc (.cells #[] e)).drew.heap _ _ (by simp), ?_⟩, ?_⟩⟩
        · refine sI hev2 hnews hsizes (fun o ho => .inr ⟨rfl, ho⟩) (fun q v hq => ?_)
          have hql : q < news.length := (List.getElem?_eq_some_iff.1 hq).1
          rw [hkey q, Nat.zero_add, Array.getElem?_append_left (by simpa using hql)]
          simpa using hq
        · rw [Array.size_append, gX, hzs]
          have e1 : ([] ++ news).toArray.size = (0 + len) * i.size := by simp only [List.nil_append, List.size_toArray, Nat.zero_add]; rw [← hnl, hle]
          rw [e1, ← Nat.add_mul]
          refine Nat.mul_le_mul_right _ ?_
          omega
        · rintro o ho (h | ⟨_, h⟩)
          · have := hf _ _ h
            omega
          · omega
theorem lV {P : Program} {f : FuncId} {t e : TypeId} {i : TypeInfo} {z : Value} (hu : P.underlying t = some (.slice e)) (hi : P.info? e = some i) (hz : i.zero = some z) (hby : i.bytes ≤ 131072)
    (hsome : ∀ (a : Addr) (n cap : Nat) (w : World) (v' : Value) (w' : World), (∀ ty, (Builtin.append_ #[t, t] ty #[.slice (some ⟨w.heap.size, 0, none⟩) 0 0, .slice (some a) n cap]).run P (w.alloc (.cells #[] e)) = .ok v' w') →
      Calls P f #[.slice (some a) n cap] w fun e w2 => e = .returned v' ∧ w2 = w') : j5 P f i.size := by
  intro Fr w v es hr hpos hmost
  have hr0 := hr
  simp only [C.rep] at hr0
  obtain ⟨a, len, cap, rfl, hle, hcap, hrow⟩ := hr0
  have hle' := hle
  have hsome' := hsome
  obtain ⟨ad, rfl⟩ : ∃ ad, a = some ad := by
    rcases hrow with ⟨h, _⟩ | ⟨b, o, h, _⟩
    · omega
    · exact ⟨_, h⟩
  have hb1 : Below w.heap.size w (w.alloc (.cells #[] e)) := (Below.refl _ w).alloc (Nat.le_refl _) _
  have hev1 : Ev Fr Fr w (w.alloc (.cells #[] e)) := Ev.of_below hb1 (fun _ _ h => h)
  have hr1 := C.rep.mono hev1 _ _ hr
  obtain ⟨hn, _, hsizes, _⟩ := dK (P := P) hr1 (.inl rfl)
  obtain ⟨news1, hnews1, hsrc⟩ := iM hu hr1 (.inl rfl)
  have hnl := hnews1.length
  rw [cj hsizes] at hnl
  have hm9 : es.length ≤ 1073741824 := hmost
  have hG := dE (w.alloc (.cells #[] e)) (0 + len) 0 e
  have hold : (Builtin.firstCells i.size 0 (.slice (some ⟨w.heap.size, 0, none⟩) 0 0)).run P (w.alloc (.cells #[] e)).drew = .ok ([] : List Value).toArray (w.alloc (.cells #[] e)).drew :=
    run_firstCells_some _ i.size 0 _ 0 0 [] (by simp) (fun j u hj => by simp at hj)
  have hfit : Builtin.nextslicecap (0 + len) 0 * i.bytes ≤ 281474976710656 := growslice_fits (by omega) (by
    calc (0 + len) * i.bytes ≤ 1073741824 * 131072 := Nat.mul_le_mul (by rw [Nat.zero_add, hle]; exact hmost) hby
      _ ≤ 140737488355328 := by decide)
  refine (hsome' ad len cap w _ _ (fun ty => run_append_grow_src _ t t ty e i z hu hi hz (some ⟨w.heap.size, 0, none⟩) 0 0 [] hold _ len news1 hsrc (by omega) (by omega) hfit)).mono ?_
  rintro e' w' ⟨rfl, rfl⟩
  have hsize : (w.alloc (.cells #[] e)).heap.size = w.heap.size + 1 := by simp
  have hkey : ∀ (o : Nat), ((w.alloc (.cells #[] e)).drew.alloc (.cells (([] ++ news1).toArray ++ Builtin.zeroCells z.cells (grownCap (w.alloc (.cells #[] e)) (0 + len) 0 e - (0 + len))) e)).cell? ⟨(w.alloc (.cells #[] e)).heap.size, 0 + o, none⟩ = (([] ++ news1).toArray ++ Builtin.zeroCells z.cells (grownCap (w.alloc (.cells #[] e)) (0 + len) 0 e - (0 + len)))[0 + o]? := fun o => by
    have := World.cell?_alloc_new (w.alloc (.cells #[] e)).drew (([] ++ news1).toArray ++ Builtin.zeroCells z.cells (grownCap (w.alloc (.cells #[] e)) (0 + len) 0 e - (0 + len))) e (0 + o)
    simp only [World.size_drew] at this
    exact this
  have hcell : ∀ (q : Nat), q < news1.length → ((w.alloc (.cells #[] e)).drew.alloc (.cells (([] ++ news1).toArray ++ Builtin.zeroCells z.cells (grownCap (w.alloc (.cells #[] e)) (0 + len) 0 e - (0 + len))) e)).cell? ⟨(w.alloc (.cells #[] e)).heap.size, 0 + q, none⟩ = news1[q]? := fun q hq => by
    rw [hkey q, Nat.zero_add, Array.getElem?_append_left (by simpa using hq)]
    simp
  refine ⟨w.alloc (.cells #[] e), grownCap (w.alloc (.cells #[] e)) (0 + len) 0 e, news1, by rw [Nat.zero_add, hle], by rw [← hle]; omega, hb1, ?_, hnews1, fun q v hq => ?_, fun q hq => ?_, by simp⟩
  · exact ((Below.refl _ (w.alloc (.cells #[] e))).drew).alloc (Nat.le_refl _) _
  · have hql : q < news1.length := (List.getElem?_eq_some_iff.1 hq).1
    rw [hcell q hql]; exact hq
  · refine ⟨by rw [hcell q hq, List.getElem?_eq_getElem hq]; rfl, ?_⟩
    have hpush : ((w.alloc (.cells #[] e)).drew.alloc (.cells (([] ++ news1).toArray ++ Builtin.zeroCells z.cells (grownCap (w.alloc (.cells #[] e)) (0 + len) 0 e - (0 + len))) e)).heap[(w.alloc (.cells #[] e)).heap.size]? = some (.cells (([] ++ news1).toArray ++ Builtin.zeroCells z.cells (grownCap (w.alloc (.cells #[] e)) (0 + len) 0 e - (0 + len))) e) := by
      show ((w.alloc (.cells #[] e)).heap.push _)[(w.alloc (.cells #[] e)).heap.size]? = _
      exact Array.getElem?_push_size
    simp only [World.frozen?, hpush]
    simp
end Go.Dm
