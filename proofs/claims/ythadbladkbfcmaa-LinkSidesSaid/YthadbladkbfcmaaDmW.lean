/-
  The data machine, part W: code, and a function, walked with a guide; loops; the oracle of a whole program.
-/
import Derived.Test.YthadbladkbfcmaaDmV
namespace Go.Dm
open Go.RowKit

def hardOp (E : Env) (m : Mem) (o : Oper) : Bool :=
  match o.op with
  | .pick _ _ _ => true
  | .call { callee := .value _, .. } => true
  | .call { callee := .builtin .append, .. } => true
  | .indexAddr t x i =>
    match E.P.underlying t, (E.ev m x).cell? with
    | some (.slice _), some (.vsl _ _ _ _) => false
    | some (.slice _), _ => true
    | some (.array _ _), _ => match i with | .const _ => false | _ => true
    | _, _ => false
  | .index t _ i => match E.P.underlying t with | some .string => true | some (.array _ _) => (match i with | .const _ => false | _ => true) | _ => false
  | .lookup _ _ _ _ => true
  | .call { callee := .builtin .len, args, argTypes } =>
    match argTypes.toList, args.toList with
    | t :: _, [x] => match E.P.underlying t, E.ev m x with
      | some (.slice _), .k (.v (.c (.slice _ _))) => true
      | some (.slice _), .k (.v (.own _ _ _)) => true
      | _, _ => false
    | _, _ => false
  | .convert src dst x => (convB E.P src dst (E.ev m x)).isSome
  | .slice t _ _ _ mx =>
    match mx, E.P.underlying t with
    | none, some .string => true
    | none, some (.slice _) => true
    | _, _ => false
  | .binOp op _ x _ _ =>
    match op with
    | .quo | .rem | .shl | .shr => true
    | .add => match (E.ev m x).raw? with | some (.string _) => true | _ => false
    | _ => false
  | _ => false

def gOp (E : Env) (m : Mem) (nv nt : Nat) (o : Oper) (gs : List G) : Option (Eff × List G × List Prop) :=
  match hardOp E m o with
  | true => match gs with
    | g :: gs => match gHard E m nv nt o g with | some (e, ps) => some (e, gs, ps) | none => none
    | [] => none
  | false => match evalOp E m nv nt o with | some e => some (e, gs, []) | none => none

theorem gOp_sound {E : Env} {m : Mem} {nv nt : Nat} {o : Oper} {gs gs' : List G} {e : Eff} {ps : List Prop} (h : gOp E m nv nt o gs = some (e, gs', ps)) (hp : allP ps) : evalOp E m nv nt o = some e := by
  unfold gOp at h
  split at h
  · split at h
    · split at h
      · rename_i hg; cases h; exact gHard_sound hg hp
      · cases h
    · cases h
  · split at h
    · rename_i he; cases h; exact he
    · cases h

def gOps (E : Env) (ops : Array Oper) : List Oper → St → List G → Option (St × List Touch × List G × List Prop)
  | [], s, gs => some (s, [], gs, [])
  | o :: rest, s, gs =>
    match gWanted ops s.mem o gs with
    | none => none
    | some (q, gs, ps) =>
      match (match q with | true => gOp E s.mem s.vars.length s.toks.length o gs | false => some (skipEff, gs, [])) with
      | none => none
      | some (e, gs, qs) =>
        match s.apply o.dst e with
        | none => none
        | some s' =>
          match gOps E ops rest s' gs with
          | none => none
          | some (s'', ts, gs, rs) => some (s'', Touch.of ops o s.vars.length e :: ts, gs, ps ++ (qs ++ rs))

theorem gOps_sound {E : Env} {ops : Array Oper} : ∀ {l : List Oper} {s s' : St} {ts : List Touch} {gs gs' : List G} {ps : List Prop}, gOps E ops l s gs = some (s', ts, gs', ps) → allP ps → evalOps E ops l s = some (s', ts)
  | [], s, s', ts, gs, gs', ps, h, _ => by simp only [gOps, Option.some.injEq, Prod.mk.injEq] at h; obtain ⟨rfl, rfl, _⟩ := h; rfl
  | o :: rest, s, s', ts, gs, gs', ps, h, hp => by
    simp only [gOps] at h
    split at h
    · cases h
    · rename_i q gs1 ps1 hw
      split at h
      · cases h
      · rename_i e gs2 qs he
        split at h
        · cases h
        · rename_i s1 hs1
          split at h
          · cases h
          · rename_i s2 ts2 gs3 rs hrec
            simp only [Option.some.injEq, Prod.mk.injEq] at h
            obtain ⟨rfl, rfl, rfl, rfl⟩ := h
            rw [allP_append, allP_append] at hp
            simp only [evalOps, gWanted_sound hw hp.1]
            have : (if q = true then evalOp E s.mem s.vars.length s.toks.length o else some skipEff) = some e := by
              cases q with
              | true => exact gOp_sound he hp.2.1
              | false => simp only [Option.some.injEq, Prod.mk.injEq] at he; simp [he.1]
            simp only [this, hs1, gOps_sound hrec hp.2.2]

def gRegion (E : Env) (ops : Array Oper) (draw : Bool) (s : St) (gs : List G) : Option (St × List G × List Prop) :=
  match gOps E ops ops.toList s gs with
  | none => none
  | some (s', ts, gs, ps) =>
    match !draw || (orderOk (aheads ops.toList []) ts 0 && edgesOk ops.toList && E.P.follows .mixedOrders) with
    | true => some (s', gs, ps)
    | false => none

theorem gRegion_sound {E : Env} {ops : Array Oper} {draw : Bool} {s s' : St} {gs gs' : List G} {ps : List Prop} (h : gRegion E ops draw s gs = some (s', gs', ps)) (hp : allP ps) : evalRegion E ops draw s = some s' := by
  unfold gRegion at h
  split at h
  · cases h
  · rename_i hg
    split at h
    · rename_i hok
      simp only [Option.some.injEq, Prod.mk.injEq] at h
      obtain ⟨rfl, rfl, rfl⟩ := h
      unfold evalRegion
      rw [gOps_sound hg hp]
      simp only
      rw [if_pos hok]
    · cases h

/-- A loop comes to this. -/
def LoopIs (E : Env) (H : Nat → LoopHint) (n : Nat) (b : Code) (s : St) (e : Ext) (s' : St) : Prop := evalCode E H n (.loop b) s = some (e, s')

/-- A loop comes to this, from a head on. -/
def LoopAt (E : Env) (H : Nat → LoopHint) (n : Nat) (b : Code) (s0 : St) (e : Ext) (s' : St) : Prop := ∀ s, s.head (H (firstRegion b)) = s0 → LoopIs E H n b s e s'

def gIter (f : St → List G → Option (Ext × St × List G × List Prop)) (g : St → Option St) : Nat → St → List G → Option (Ext × St × List G × List Prop)
  | 0, _, _ => none
  | n + 1, s, gs =>
    match f s gs with
    | none => none
    | some (e, s', gs, ps) =>
      match e with
      | .normal =>
        match g s' with
        | some s'' => match gIter f g n s'' gs with
          | some (e, s, gs, qs) => some (e, s, gs, ps ++ qs)
          | none => none
        | none => none
      | e => some (e, s', gs, ps)

def gCode (E : Env) (H : Nat → LoopHint) (n : Nat) : Code → St → List G → Option (Ext × St × List G × List Prop)
  | .skip, s, gs => some (.normal, s, gs, [])
  | .region _ ops draw, s, gs => match gRegion E ops draw s gs with | some (s', gs, ps) => some (.normal, s', gs, ps) | none => none
  | .seq a b, s, gs =>
    match gCode E H n a s gs with
    | none => none
    | some (e, s', gs, ps) =>
      match e with
      | .normal => match gCode E H n b s' gs with
        | some (e, s, gs, qs) => some (e, s, gs, ps ++ qs)
        | none => none
      | e => some (e, s', gs, ps)
  | .cond c x y, s, gs =>
    match gBool (E.ev s.mem c).bool? gs with
    | none => none
    | some (q, gs, ps) =>
      match (match q with | true => gCode E H n x s gs | false => gCode E H n y s gs) with
      | some (e, s, gs, qs) => some (e, s, gs, ps ++ qs)
      | none => none
  | .block id b, s, gs =>
    match gCode E H n b s gs with
    | none => none
    | some (e, s', gs, ps) =>
      match e with
      | .exit i => if i = id then some (.normal, s', gs, ps) else some (.exit i, s', gs, ps)
      | e => some (e, s', gs, ps)
  | .loop b, s, gs =>
    match gs with
    | .loop e s' :: gs => some (e, s', gs, [LoopAt E H n b (s.head (H (firstRegion b))) e s'])
    | .un :: gs =>
      gIter (fun s gs => gCode E H n b s gs) (fun s' => (s'.cut (s.head (H (firstRegion b))).vars.length (s.head (H (firstRegion b))).toks.length).map fun s => { s with tmps := forgetAll s.tmps (H (firstRegion b)).forget }) n (s.head (H (firstRegion b))) gs
    | _ => none
  | .exit id, s, gs => some (.exit id, s, gs, [])
  | .ret, s, gs => some (.ret, s, gs, [])
  | _, _, _ => none

theorem gIter_sound {f : St → List G → Option (Ext × St × List G × List Prop)} {f' : St → Option (Ext × St)} {g : St → Option St} (hf : ∀ s gs e s' gs' ps, f s gs = some (e, s', gs', ps) → allP ps → f' s = some (e, s')) :
    ∀ (n : Nat) (s : St) (gs : List G) (e : Ext) (s' : St) (gs' : List G) (ps : List Prop), gIter f g n s gs = some (e, s', gs', ps) → allP ps → iter f' g n s = some (e, s')
  | 0, s, gs, e, s', gs', ps, h, _ => by simp [gIter] at h
  | n + 1, s, gs, e, s', gs', ps, h, hp => by
    simp only [gIter] at h
    split at h
    · cases h
    · rename_i e1 s1 gs1 ps1 h1
      split at h
      · split at h
        · rename_i s2 hs2
          split at h
          · rename_i hrec
            simp only [Option.some.injEq, Prod.mk.injEq] at h
            obtain ⟨rfl, rfl, rfl, rfl⟩ := h
            rw [allP_append] at hp
            simp only [iter, hf _ _ _ _ _ _ h1 hp.1, hs2]
            exact gIter_sound hf n _ _ _ _ _ _ hrec hp.2
          · cases h
        · cases h
      · rename_i hne
        simp only [Option.some.injEq, Prod.mk.injEq] at h
        obtain ⟨rfl, rfl, rfl, rfl⟩ := h
        simp only [iter, hf _ _ _ _ _ _ h1 hp]
        cases e1 with
        | normal => exact (hne rfl).elim
        | _ => rfl

theorem gCode_sound {E : Env} {H : Nat → LoopHint} {n : Nat} : ∀ (c : Code) (s : St) (gs : List G) (e : Ext) (s' : St) (gs' : List G) (ps : List Prop), gCode E H n c s gs = some (e, s', gs', ps) → allP ps → evalCode E H n c s = some (e, s')
  | .skip, s, gs, e, s', gs', ps, h, _ => by
    simp only [gCode, Option.some.injEq, Prod.mk.injEq] at h
    obtain ⟨rfl, rfl, _⟩ := h; rfl
  | .region _ ops draw, s, gs, e, s', gs', ps, h, hp => by
    simp only [gCode] at h
    split at h
    · rename_i hr
      simp only [Option.some.injEq, Prod.mk.injEq] at h
      obtain ⟨rfl, rfl, rfl, rfl⟩ := h
      simp only [evalCode, gRegion_sound hr hp]
    · cases h
  | .seq a b, s, gs, e, s', gs', ps, h, hp => by
    simp only [gCode] at h
    split at h
    · cases h
    · rename_i e1 s1 gs1 ps1 h1
      split at h
      · split at h
        · rename_i h2
          simp only [Option.some.injEq, Prod.mk.injEq] at h
          obtain ⟨rfl, rfl, rfl, rfl⟩ := h
          rw [allP_append] at hp
          simp only [evalCode, gCode_sound a _ _ _ _ _ _ h1 hp.1]
          exact gCode_sound b _ _ _ _ _ _ h2 hp.2
        · cases h
      · rename_i hne
        simp only [Option.some.injEq, Prod.mk.injEq] at h
        obtain ⟨rfl, rfl, rfl, rfl⟩ := h
        simp only [evalCode, gCode_sound a _ _ _ _ _ _ h1 hp]
        cases e1 with
        | normal => exact (hne rfl).elim
        | _ => rfl
  | .cond c x y, s, gs, e, s', gs', ps, h, hp => by
    simp only [gCode] at h
    split at h
    · cases h
    · rename_i q gs1 ps1 hb
      split at h
      · rename_i h1
        simp only [Option.some.injEq, Prod.mk.injEq] at h
        obtain ⟨rfl, rfl, rfl, rfl⟩ := h
        rw [allP_append] at hp
        simp only [evalCode, gBool_sound hb hp.1]
        cases q with
        | true => exact gCode_sound x _ _ _ _ _ _ h1 hp.2
        | false => exact gCode_sound y _ _ _ _ _ _ h1 hp.2
      · cases h
  | .block id b, s, gs, e, s', gs', ps, h, hp => by
    simp only [gCode] at h
    split at h
    · cases h
    · rename_i e1 s1 gs1 ps1 h1
      split at h
      · rename_i i
        split at h
        · rename_i hi
          simp only [Option.some.injEq, Prod.mk.injEq] at h
          obtain ⟨rfl, rfl, rfl, rfl⟩ := h
          simp only [evalCode, gCode_sound b _ _ _ _ _ _ h1 hp, hi, if_true]
        · rename_i hi
          simp only [Option.some.injEq, Prod.mk.injEq] at h
          obtain ⟨rfl, rfl, rfl, rfl⟩ := h
          simp only [evalCode, gCode_sound b _ _ _ _ _ _ h1 hp, hi, if_false]
      · rename_i hne
        simp only [Option.some.injEq, Prod.mk.injEq] at h
        obtain ⟨rfl, rfl, rfl, rfl⟩ := h
        simp only [evalCode, gCode_sound b _ _ _ _ _ _ h1 hp]
        cases e1 with
        | exit i => exact (hne i rfl).elim
        | _ => rfl
  | .loop b, s, gs, e, s', gs', ps, h, hp => by
    simp only [gCode] at h
    split at h
    · simp only [Option.some.injEq, Prod.mk.injEq] at h
      obtain ⟨rfl, rfl, rfl, rfl⟩ := h
      exact hp.1 _ rfl
    · simp only [evalCode]
      exact gIter_sound (fun s gs e s' gs' ps h hp => gCode_sound b s gs e s' gs' ps h hp) _ _ _ _ _ _ _ h hp
    · cases h
  | .exit id, s, gs, e, s', gs', ps, h, _ => by
    simp only [gCode, Option.some.injEq, Prod.mk.injEq] at h
    obtain ⟨rfl, rfl, _⟩ := h; rfl
  | .ret, s, gs, e, s', gs', ps, h, _ => by
    simp only [gCode, Option.some.injEq, Prod.mk.injEq] at h
    obtain ⟨rfl, rfl, _⟩ := h; rfl
  | .rangeFunc _ _ _ _, _, _, _, _, _, _, h, _ => by simp [gCode] at h
  | .scope _, _, _, _, _, _, _, h, _ => by simp [gCode] at h
  | .label _, _, _, _, _, _, _, h, _ => by simp [gCode] at h
  | .goto _, _, _, _, _, _, _, h, _ => by simp [gCode] at h
  | .refuse _, _, _, _, _, _, _, h, _ => by simp [gCode] at h

/-- The results, with what is to be shown. -/
def gResOf (s : St) : List K → Option (List Res × List Prop)
  | [] => some ([], [])
  | .v (.own sz es (.tok i)) :: r =>
    match s.toks[i]?, gResOf s r with
    | some n, some (rs, ps) => some (.top sz es :: rs, (n = es.length) :: ps)
    | _, _ => none
  | k :: r => match resOf s k, gResOf s r with
    | some x, some (rs, ps) => some (x :: rs, ps)
    | _, _ => none

theorem gResOf_sound {s : St} : ∀ {ks : List K} {rs : List Res} {ps : List Prop}, gResOf s ks = some (rs, ps) → allP ps → ks.mapM (resOf s) = some rs
  | [], rs, ps, h, _ => by simp only [gResOf, Option.some.injEq, Prod.mk.injEq] at h; obtain ⟨rfl, _⟩ := h; rfl
  | k :: ks, rs, ps, h, hp => by
    unfold gResOf at h
    split at h
    · rename_i heq; cases heq
    · rename_i sz es i r heq
      cases heq
      split at h
      · rename_i n rs' ps' hn hr
        simp only [Option.some.injEq, Prod.mk.injEq] at h
        obtain ⟨rfl, rfl⟩ := h
        rw [List.mapM_cons, gResOf_sound hr hp.2]
        have : s.toks[i]? = some es.length := by rw [hn, hp.1]
        simp [resOf, this]
      · cases h
    · rename_i heq
      cases heq
      split at h
      · rename_i x rs' ps' hx hr
        simp only [Option.some.injEq, Prod.mk.injEq] at h
        obtain ⟨rfl, rfl⟩ := h
        rw [List.mapM_cons, gResOf_sound hr hp, hx]
        rfl
      · cases h

def gFn (E : Env) (H : Nat → LoopHint) (n : Nat) (fn : Func) (as : List A) (ims : List (List C)) (gs : List G) : Option (List Res × List (List C) × List Prop) :=
  match fn.body with
  | none => none
  | some c =>
    match gCode E H n c (start fn as ims) gs with
    | some (e, s, [], ps) =>
      if (e = .normal ∨ e = .ret) ∧ ims.all (fun cs => !cs.isEmpty) = true then
        match fn.results.toList.mapM (resVar E.P s) with
        | some ks =>
          match disjointIds (tokIds ks), gResOf s ks, lentOut s ims.length 0 with
          | true, some (rs, qs), some r => if r.map List.length = ims.map List.length then some (rs, r, ps ++ qs) else none
          | _, _, _ => none
        | none => none
      else none
    | _ => none

/-- **A FUNCTION, WALKED WITH A GUIDE.** -/
theorem gFn_sound {E : Env} {H : Nat → LoopHint} {n : Nat} {fn : Func} {as : List A} {ims : List (List C)} {gs : List G} {rs : List Res} {ims' : List (List C)} {ps : List Prop} (h : gFn E H n fn as ims gs = some (rs, ims', ps)) (hp : allP ps) : evalFn E H n fn as ims = some (rs, ims') := by
  unfold gFn at h
  unfold evalFn
  split at h
  · cases h
  · rename_i c hc
    simp only [hc]
    split at h
    · rename_i e s ps1 hg
      split at h
      · rename_i hcond
        split at h
        · rename_i ks hks
          split at h
          · rename_i rs' qs r hd hr hl
            split at h
            · rename_i hlen
              simp only [Option.some.injEq, Prod.mk.injEq] at h
              obtain ⟨rfl, rfl, rfl⟩ := h
              rw [allP_append] at hp
              rw [gCode_sound c _ _ _ _ _ _ hg hp.1]
              simp only
              rw [if_pos hcond]
              have : results? E.P s fn.results.toList = some rs' := by
                unfold results?
                simp only [hks]
                rw [if_pos hd, gResOf_sound hr hp.2]
              simp only [this, hl]
              rw [if_pos hlen]
            · cases h
          · cases h
        · cases h
      · cases h
    · cases h

/-! ### Loops -/
/-- N rounds, and out in the one behind them. -/
theorem loop_up {E : Env} {H : Nat → LoopHint} {n : Nat} {b : Code} {s : St} (S : Nat → St) (N : Nat) {e : Ext} {s' : St} (h0 : s.head (H (firstRegion b)) = S 0) {nv nt : Nat}
    (hv : (S 0).vars.length = nv) (ht : (S 0).toks.length = nt)
    (step : ∀ i, i < N → ∃ s2, evalCode E H n b (S i) = some (.normal, s2) ∧ (s2.cut nv nt).map (fun s => { s with tmps := forgetAll s.tmps (H (firstRegion b)).forget }) = some (S (i + 1)))
    (last : evalCode E H n b (S N) = some (e, s')) (he : e ≠ .normal) (hn : N < n) : LoopIs E H n b s e s' := by
  unfold LoopIs
  simp only [evalCode, h0, hv, ht]
  have key : ∀ (k i m : Nat), i + k = N → k < m → iter (fun s => evalCode E H n b s) (fun s => (s.cut nv nt).map fun s => { s with tmps := forgetAll s.tmps (H (firstRegion b)).forget }) m (S i) = some (e, s') := by
    intro k
    induction k with
    | zero =>
      intro i m hi hm
      have : i = N := by omega
      subst this
      cases m with
      | zero => omega
      | succ m =>
        simp only [iter, last]
        cases e with
        | normal => exact absurd rfl he
        | _ => rfl
    | succ k ih =>
      intro i m hi hm
      cases m with
      | zero => omega
      | succ m =>
        obtain ⟨s2, h1, h2⟩ := step i (by omega)
        simp only [iter, h1, h2]
        exact ih (i + 1) m (by omega) (by omega)
  exact key N 0 n (by omega) hn

/-! ### The oracle of a whole program -/
/-- What was shown by other means, function by function. -/
abbrev Tab := FuncId → Option (List A → List (List C) → Option (List Res × List (List C)))

structure TabOk (P : Program) (gl : Nat → Option (List C)) (X : Tab) : Prop where
  call : ∀ f h xs ims rs ims', X f = some h → h xs ims = some (rs, ims') → Enters P f ∧ Meets P gl f xs ims rs ims'

theorem TabOk.nil (P : Program) (gl : Nat → Option (List C)) : TabOk P gl (fun _ => none) := ⟨fun f h xs ims rs ims' hx => by cases hx⟩

def orac (P : Program) (gl : Nat → Option (List C)) (X : Tab) (H : FuncId → Nat → LoopHint) (n : Nat) : Nat → Oracle
  | 0 => fun _ _ _ => none
  | k + 1 => fun g xs ims => match X g with
    | some h => h xs ims
    | none => match P.funcs[g]? with
      | some fn => evalFn ⟨P, orac P gl X H n k, gl⟩ (H g) n fn xs ims
      | none => none

theorem orac_ok {P : Program} {gl : Nat → Option (List C)} {X : Tab} {H : FuncId → Nat → LoopHint} {n : Nat} (hX : TabOk P gl X) (hno : ∀ (f : FuncId) fn, P.funcs[f]? = some fn → (fn.name == "runtime.NumGoroutine") = false) : ∀ k, EnvOk ⟨P, orac P gl X H n k, gl⟩
  | 0 => ⟨fun f xs ims rs ims' h => by simp [orac] at h⟩
  | k + 1 => ⟨fun f xs ims rs ims' h => by
    simp only [orac] at h
    split at h
    · rename_i hh hx
      exact hX.call f hh xs ims rs ims' hx h
    · split at h
      · rename_i fn hfn
        refine ⟨⟨fn, hfn, ?_, hno f fn hfn⟩, ?_⟩
        · unfold evalFn at h
          split at h
          · cases h
          · rename_i c hc; simp [hc]
        · exact fn_sound (E := ⟨P, orac P gl X H n k, gl⟩) (orac_ok hX hno k) hfn h
      · cases h⟩

/-- What the oracle says of a function, from its walk. -/
theorem orac_fn {P : Program} {gl : Nat → Option (List C)} {X : Tab} {H : FuncId → Nat → LoopHint} {n k : Nat} {g : FuncId} {fn : Func} (hg : P.funcs[g]? = some fn) (hx : X g = none) {xs : List A} {ims : List (List C)} {gs : List G} {rs : List Res} {ims' : List (List C)} {ps : List Prop}
    (h : gFn ⟨P, orac P gl X H n k, gl⟩ (H g) n fn xs ims gs = some (rs, ims', ps)) (hp : allP ps) : orac P gl X H n (k + 1) g xs ims = some (rs, ims') := by
  simp only [orac, hg, hx]
  exact gFn_sound h hp

/-- What the table says. -/
theorem orac_tab {P : Program} {gl : Nat → Option (List C)} {X : Tab} {H : FuncId → Nat → LoopHint} {n k : Nat} {g : FuncId} {h : List A → List (List C) → Option (List Res × List (List C))} (hx : X g = some h) {xs : List A} {ims : List (List C)} : orac P gl X H n (k + 1) g xs ims = h xs ims := by
  simp only [orac, hx]
/-- The same, what is to be shown as one statement. -/
theorem run_of {P : Program} {gl : Nat → Option (List C)} {X : Tab} {H : FuncId → Nat → LoopHint} {n k : Nat} {g : FuncId} {fn : Func} (hg : P.funcs[g]? = some fn) (hx : X g = none) {Q : Prop} (q : Q) {xs : List A} {ims : List (List C)} {gs : List G} {rs : List Res} {ims' : List (List C)}
    (h : (gFn ⟨P, orac P gl X H n k, gl⟩ (H g) n fn xs ims gs).map (fun r => (r.1, r.2.1, allP r.2.2)) = some (rs, ims', Q)) : orac P gl X H n (k + 1) g xs ims = some (rs, ims') := by
  rw [Option.map_eq_some_iff] at h
  obtain ⟨⟨rs0, im0, ps⟩, h1, h2⟩ := h
  simp only [Prod.mk.injEq] at h2
  obtain ⟨rfl, rfl, rfl⟩ := h2
  exact orac_fn hg hx h1 q


end Go.Dm
