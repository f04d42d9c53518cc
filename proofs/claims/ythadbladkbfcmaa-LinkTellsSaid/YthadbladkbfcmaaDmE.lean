/-
  The data machine, part E: what code, and what a function, makes of data.
-/
import Derived.Test.YthadbladkbfcmaaDmD
namespace Go.Dm
open Go.RowKit

/-- A frame's memory, as lists. -/
structure St where
  tmps : List T
  vars : List (List V)
  toks : List Nat
  deriving Inhabited

def St.mem (s : St) : Mem := { tmp := fun t => s.tmps.getD t .skip, var := fun i => s.vars[i]?, tok := fun i => s.toks[i]? }

def setVars : List (List V) → List (Nat × List V) → Option (List (List V))
  | vs, [] => some vs
  | vs, (i, x) :: r => if i < vs.length then setVars (vs.set i x) r else none

def setToks : List Nat → List (Nat × Nat) → Option (List Nat)
  | ts, [] => some ts
  | ts, (i, n) :: r => if i < ts.length then setToks (ts.set i n) r else if i = ts.length then setToks (ts ++ [n]) r else none

def St.apply (s : St) (d : Option Tmp) (e : Eff) : Option St :=
  match setVars s.vars e.uv, setToks s.toks e.ut with
  | some vs, some ts =>
    let vs := match e.nv with | some x => vs ++ [x] | none => vs
    match d with
    | some d => if d < s.tmps.length then some ⟨s.tmps.set d e.dst, vs, ts⟩ else none
    | none => some ⟨s.tmps, vs, ts⟩
  | _, _ => none

/-- Does the operation come up? -/
def wantedD (ops : Array Oper) (m : Mem) (o : Oper) : Option Bool :=
  match o.guard with
  | none => some true
  | some (j, want) =>
    match (ops[j]?).bind (·.dst) with
    | none => some false
    | some t => match m.tmp t with
      | .skip => some false
      | x => match x.bool? with
        | some b => some (b == want)
        | none => none

/-- What an operation touched. -/
structure Touch where
  wt : Option Tmp
  rt : List Tmp
  wv : List Nat
  rv : List Nat
  wk : List Nat
  rk : List Nat
  deriving Inhabited

def Touch.of (ops : Array Oper) (o : Oper) (nv : Nat) (e : Eff) : Touch :=
  { wt := o.dst, rt := o.looksAt ops, wv := (if e.nv.isSome then [nv] else []) ++ e.uv.map (·.1), rv := e.rv, wk := e.ut.map (·.1), rk := e.rt }

def meet (xs ys : List Nat) : Bool := xs.any fun x => ys.contains x

/-- x writes what y touches. -/
def Touch.hits (x y : Touch) : Bool :=
  (match x.wt with | some t => y.rt.contains t || y.wt == some t | none => false) || meet x.wv y.wv || meet x.wv y.rv || meet x.wk y.wk || meet x.wk y.rk

def Touch.clash (x y : Touch) : Bool := x.hits y || y.hits x

/-- The masks of what comes ahead of each. -/
def aheads : List Oper → List Nat → List Nat
  | [], acc => acc
  | o :: r, acc => aheads r (acc ++ [o.after.foldl (fun s e => if Region.binds .any e then s ||| 2 ^ e.on ||| acc.getD e.on 0 else s) 0])

def orderRow (masks : List Nat) (x : Touch) (i : Nat) : List Touch → Nat → Bool
  | [], _ => true
  | y :: r, j => (!x.clash y || (masks.getD j 0).testBit i) && orderRow masks x i r (j + 1)

def orderOk (masks : List Nat) : List Touch → Nat → Bool
  | [], _ => true
  | x :: r, i => orderRow masks x i r (i + 1) && orderOk masks r (i + 1)

def edgesOk (ops : List Oper) : Bool := ops.zipIdx.all fun (o, i) => o.after.all fun e => !Region.binds .any e || decide (e.on < i)

def skipEff : Eff := { dst := .skip }

def evalOps (E : Env) (ops : Array Oper) : List Oper → St → Option (St × List Touch)
  | [], s => some (s, [])
  | o :: rest, s =>
    match wantedD ops s.mem o with
    | none => none
    | some q =>
      match (if q then evalOp E s.mem s.vars.length s.toks.length o else some skipEff) with
      | none => none
      | some e =>
        match s.apply o.dst e with
        | none => none
        | some s' =>
          match evalOps E ops rest s' with
          | none => none
          | some (s'', ts) => some (s'', Touch.of ops o s.vars.length e :: ts)

def noSel (ops : List Oper) : Bool := ops.all fun o => match o.op with | .select _ _ => false | _ => true

def evalRegion (E : Env) (ops : Array Oper) (draw : Bool) (s : St) : Option St :=
  match evalOps E ops ops.toList s with
  | none => none
  | some (s', ts) => if !draw || (orderOk (aheads ops.toList []) ts 0 && edgesOk ops.toList && E.P.follows .mixedOrders) then some s' else none

inductive Ext where
  | normal
  | exit (id : Nat)
  | ret
  deriving Inhabited, DecidableEq

/-- What is let go, and what is retagged, at the head of a loop (its number: that of its first region). -/
structure LoopHint where
  forget : List Tmp := []
  tags : List (Tmp × Nat) := []
  vtags : List (Nat × Nat × Nat) := []
  deriving Inhabited

def firstRegion : Code → Nat
  | .region id _ _ => id
  | .seq a _ => firstRegion a
  | .block _ b => firstRegion b
  | .loop b => firstRegion b
  | _ => 0

/-- Pointers to variables from n on are let go. -/
def V.old (n : Nat) : V → Bool
  | .ptr id _ => id < n
  | .vsl id _ _ _ => id < n
  | .clo _ caps => caps.all fun | .inr (id, _) => decide (id < n) | .inl _ => true
  | _ => true

def V.untok (k : Nat) : V → V
  | .own sz es (.tok i) => if i < k then .own sz es (.tok i) else .c (.slice sz es)
  | x => x

def K.cut (n k : Nat) : K → Option K
  | .v x => if x.old n then some (.v (x.untok k)) else none
  | .agg xs => if xs.all (V.old n) then some (.agg (xs.map (V.untok k))) else none

def T.cut (n k : Nat) : T → T
  | .k x => match x.cut n k with | some y => .k y | none => .hole
  | .tup ks => match ks.mapM (K.cut n k) with | some ys => .tup ys | none => .hole
  | t => t

/-- Variables from n on, and tokens from k on, are let go. -/
def St.cut (n k : Nat) (s : St) : Option St :=
  if (s.vars.take n).all (fun xs => xs.all (V.old n)) then some ⟨s.tmps.map (T.cut n k), (s.vars.take n).map (fun xs => xs.map (V.untok k)), s.toks.take k⟩ else none

def forgetAll : List T → List Tmp → List T
  | ts, [] => ts
  | ts, t :: r => forgetAll (ts.set t .hole) r

/-- Slices of which length and capacity are one get tokens (where nothing is in them, with the elements' size that is given). -/
def tagTmps : List T → List Nat → List (Tmp × Nat) → List T × List Nat
  | ts, ks, [] => (ts, ks)
  | ts, ks, (t, z) :: r =>
    match ts.getD t .skip with
    | .k (.v (.own sz es .exact)) => tagTmps (ts.set t (.k (.v (.own (if es.isEmpty then z else sz) es (.tok ks.length))))) (ks ++ [es.length]) r
    | _ => tagTmps ts ks r

def tagVars : List (List V) → List Nat → List (Nat × Nat × Nat) → List (List V) × List Nat
  | vs, ks, [] => (vs, ks)
  | vs, ks, (id, off, z) :: r =>
    match vs[id]? with
    | some xs =>
      match xs[off]? with
      | some (.own sz es .exact) => tagVars (vs.set id (xs.set off (.own (if es.isEmpty then z else sz) es (.tok ks.length)))) (ks ++ [es.length]) r
      | _ => tagVars vs ks r
    | none => tagVars vs ks r

def St.head (h : LoopHint) (s : St) : St :=
  let (ts, ks) := tagTmps s.tmps s.toks h.tags
  let (vs, ks) := tagVars s.vars ks h.vtags
  ⟨forgetAll ts h.forget, vs, ks⟩

def iter (f : St → Option (Ext × St)) (g : St → Option St) : Nat → St → Option (Ext × St)
  | 0, _ => none
  | n + 1, s =>
    match f s with
    | some (.normal, s') => match g s' with
      | some s'' => iter f g n s''
      | none => none
    | r => r

def evalCode (E : Env) (H : Nat → LoopHint) (n : Nat) : Code → St → Option (Ext × St)
  | .skip, s => some (.normal, s)
  | .region _ ops draw, s => match evalRegion E ops draw s with | some s' => some (.normal, s') | none => none
  | .seq a b, s =>
    match evalCode E H n a s with
    | some (.normal, s') => evalCode E H n b s'
    | r => r
  | .cond c x y, s =>
    match (E.ev s.mem c).bool? with
    | some true => evalCode E H n x s
    | some false => evalCode E H n y s
    | none => none
  | .block id b, s =>
    match evalCode E H n b s with
    | some (.exit i, s') => if i = id then some (.normal, s') else some (.exit i, s')
    | r => r
  | .loop b, s =>
    let h := H (firstRegion b)
    let s1 := s.head h
    iter (fun s => evalCode E H n b s) (fun s => (s.cut s1.vars.length s1.toks.length).map fun s => { s with tmps := forgetAll s.tmps h.forget }) n s1
  | .exit id, s => some (.exit id, s)
  | .ret, s => some (.ret, s)
  | _, _ => none

def A.toT : A → T
  | .c x => .k (.v (.c x))
  | .agg xs => .k (.agg (xs.map .c))
  | .imp k => .k (.v (.ptr k 0))
  | .nil => .k (.v (.own 0 [] .exact))

/-- A value as a result. -/
def resOf (s : St) : K → Option Res
  | .v (.own sz es .exact) => some (.top sz es)
  | .v (.own sz es (.tok i)) => if s.toks[i]? = some es.length then some (.top sz es) else some (.c (.slice sz es))
  | .v x => x.toC.map .c
  | .agg xs => (xs.mapM V.toC).map .agg

def resVar (P : Program) (s : St) : ResultVar → Option K
  | .tmp t => match s.tmps.getD t .skip with | .k x => some x | _ => none
  | .cell t ty =>
    match s.tmps.getD t .skip with
    | .k (.v (.ptr id off)) => match s.vars[id]? with | some xs => readAt P ty (xs.drop off) | none => none
    | _ => none

def tokIds : List K → List Nat
  | [] => []
  | .v (.own _ _ (.tok i)) :: r => i :: tokIds r
  | _ :: r => tokIds r

def results? (P : Program) (s : St) (rs : List ResultVar) : Option (List Res) :=
  match rs.mapM (resVar P s) with
  | some ks => if disjointIds (tokIds ks) then ks.mapM (resOf s) else none
  | none => none

def lentOut (s : St) : Nat → Nat → Option (List (List C))
  | 0, _ => some []
  | n + 1, k =>
    match s.vars[k]?, lentOut s n (k + 1) with
    | some xs, some r => match xs.mapM V.toC with | some cs => some (cs :: r) | none => none
    | _, _ => none

def start (fn : Func) (as : List A) (ims : List (List C)) : St :=
  { tmps := as.map A.toT ++ List.replicate (fn.ntmps - as.length) .skip, vars := ims.map (fun cs => cs.map .c), toks := [] }

/-- What a function makes of its arguments. -/
def evalFn (E : Env) (H : Nat → LoopHint) (n : Nat) (fn : Func) (as : List A) (ims : List (List C)) : Option (List Res × List (List C)) :=
  match fn.body with
  | none => none
  | some c =>
    match evalCode E H n c (start fn as ims) with
    | some (e, s) =>
      if (e = .normal ∨ e = .ret) ∧ ims.all (fun cs => !cs.isEmpty) = true then
        match results? E.P s fn.results.toList, lentOut s ims.length 0 with
        | some rs, some r => if r.map List.length = ims.map List.length then some (rs, r) else none
        | _, _ => none
      else none
    | none => none
end Go.Dm
