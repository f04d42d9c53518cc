/-
  The data machine, part V: a walk with a guide: what is not known is told by the guide, and comes out as a list of what is to be shown.
-/
import Derived.Test.YthadbladkbfcmaaDmU
namespace Go.Dm
open Go.RowKit

inductive G where
  | b (v : Bool)
  | call (rs : List Res) (ims : List (List C))
  | idx (j : Nat) (c : List C)
  | at (j : Nat)
  | look (n : Int) (b : Bool)
  | byte (j : Nat) (x : UInt8)
  | cut (l h : Nat) (es : List (List C))
  | len (n : Nat)
  | str (ns : List Int)
  | app (es : List (List C))
  | ok
  | e (x : Eff)
  | loop (x : Ext) (s : St)
  | un
  deriving Inhabited

def allP : List Prop → Prop
  | [] => True
  | p :: ps => p ∧ allP ps

theorem allP_append {ps qs : List Prop} : allP (ps ++ qs) ↔ allP ps ∧ allP qs := by
  induction ps with
  | nil => simp [allP]
  | cons p ps ih => simp [allP, ih, and_assoc]

def gBool (x : Option Bool) (gs : List G) : Option (Bool × List G × List Prop) :=
  match x, gs with
  | some b, .b v :: gs => some (v, gs, [b = v])
  | _, _ => none

theorem gBool_sound {x : Option Bool} {gs gs' : List G} {v : Bool} {ps : List Prop} (h : gBool x gs = some (v, gs', ps)) (hp : allP ps) : x = some v := by
  unfold gBool at h
  split at h
  · cases h; rw [hp.1]
  · cases h

def gWanted (ops : Array Oper) (m : Mem) (o : Oper) (gs : List G) : Option (Bool × List G × List Prop) :=
  match o.guard with
  | none => some (true, gs, [])
  | some (j, want) =>
    match (ops[j]?).bind (·.dst) with
    | none => some (false, gs, [])
    | some t => match m.tmp t with
      | .skip => some (false, gs, [])
      | x => match gBool x.bool? gs with
        | some (b, gs, ps) => some (b == want, gs, ps)
        | none => none

theorem gWanted_sound {ops : Array Oper} {m : Mem} {o : Oper} {gs gs' : List G} {q : Bool} {ps : List Prop} (h : gWanted ops m o gs = some (q, gs', ps)) (hp : allP ps) : wantedD ops m o = some q := by
  unfold gWanted at h
  unfold wantedD
  split at h
  · rename_i hg; cases h; simp only [hg]
  · rename_i j want hg
    simp only [hg]
    split at h
    · rename_i ht; cases h; simp only [ht]
    · rename_i t ht
      simp only [ht]
      split at h
      · rename_i hx; cases h; simp only [hx]
      · rename_i x hx hne
        simp only
        split at h
        · rename_i b gs1 ps1 hb
          cases h
          have := gBool_sound hb hp
          cases hx2 : m.tmp t with
          | skip => exact absurd hx2 (fun hs => hne hs)
          | _ => rw [hx2] at this; simp only [this]
        · cases h

/-- What is left of a call behind the oracle's answer. -/
def callEff (m : Mem) (nt : Nat) (ls : List (Nat × Nat × List C)) (rs : List Nat) (res : List Res) (ims : List (List C)) : Option Eff :=
  match ls, ims with
  | [], [] => if rs.isEmpty || res.all Res.bare then some { dst := resT (resK nt res).1, ut := (resK nt res).2, rv := rs } else some { dst := resT (resK nt res).1, uv := rs.map fun id => (id, []), ut := (resK nt res).2, rv := rs }
  | [(id, off, cs)], [ds] =>
    match m.var id with
    | some ys => if rs.isEmpty ∧ ds.length = cs.length then some { dst := resT (resK nt res).1, uv := [(id, ys.take off ++ ds.map .c ++ ys.drop (off + ds.length))], ut := (resK nt res).2, rv := [id] } else none
    | none => none
  | _, _ => none

def gCallT (E : Env) (m : Mem) (nt : Nat) (g : FuncId) (extra : List C) (tys : List TypeId) (args : List T) (res : List Res) (ims : List (List C)) : Option (Eff × List Prop) :=
  match argsOf E.P m tys args 0 with
  | some (as, ls, rs) =>
    match callEff m nt ls rs res ims with
    | some e => some (e, [E.F g (as ++ extra.map .c) (ls.map (·.2.2)) = some (res, ims)])
    | none => none
  | none => none

theorem gCallT_sound {E : Env} {m : Mem} {nt : Nat} {g : FuncId} {extra : List C} {tys : List TypeId} {args : List T} {res : List Res} {ims : List (List C)} {e : Eff} {ps : List Prop} (h : gCallT E m nt g extra tys args res ims = some (e, ps)) (hp : allP ps) :
    callT E m nt g extra tys args = some e := by
  unfold gCallT at h
  split at h
  · rename_i as ls rs ha
    split at h
    · rename_i e' he
      cases h
      have hF := hp.1
      simp only [callT, ha, hF]
      rw [← he]
      unfold callEff
      rfl
    · cases h
  · cases h

def boundP (x : Option T) (d v : Nat) : Option Prop :=
  match x with
  | none => some (v = d)
  | some x => match x.int? with | some (_, i) => some (i = (v : Int)) | none => none

theorem boundP_sound {x : Option T} {d v top : Nat} {p : Prop} (h : boundP x d v = some p) (hp : p) (hv : v ≤ top) : bound x d top = some v := by
  unfold boundP at h
  unfold bound
  split at h
  · cases h; simp only; rw [hp]
  · split at h
    · rename_i hx
      cases h
      simp only [hx]
      rw [hp, if_pos (by omega)]
      simp
    · cases h

/-- The operations that the guide tells of. -/
def gHard' (E : Env) (m : Mem) (nt : Nat) (o : Oper) (g : G) : Option (Eff × List Prop) :=
  match o.op with
  | .pick c a b => match (E.ev m c).bool?, g with
    | some q, .b v => some ({ dst := if v then E.ev m a else E.ev m b }, [q = v])
    | _, _ => none
  | .call { callee := .value f, args, argTypes } =>
    match g with
    | .call res ims =>
      match (E.ev m f).cell? with
      | some (.clo g []) => gCallT E m nt g [] argTypes.toList (fitArgs E.P argTypes.toList (args.toList.map (E.ev m))) res ims
      | some (.c (.fn g caps)) => gCallT E m nt g caps argTypes.toList (fitArgs E.P argTypes.toList (args.toList.map (E.ev m))) res ims
      | _ => none
    | _ => none
  | .indexAddr t x i =>
    match g, E.P.underlying t with
    | .at j, some (.array _ _) =>
      match (E.ev m i).int? with
      | some (k, iv) => (indexAddrT E.P t (E.ev m x) (.pure (.int k (j : Int)))).map fun r => ({ dst := r }, [iv = (j : Int)])
      | none => none
    | .idx j c, some (.slice e) =>
      if (E.P.info? e).isNone then none else
      match (E.ev m x).cell? with
      | some (.vsl _ _ _ _) => none
      | some v =>
        match v.sliceOf, (E.ev m i).int? with
        | some (sz, es), some (_, iv) => if sz = E.P.cellsOf e then some ({ dst := .k (.v (.c (.rptr c))) }, [iv = (j : Int), es[j]? = some c]) else none
        | _, _ => none
      | none => none
    | _, _ => none
  | .index t x i =>
    match g, E.P.underlying t, E.ev m x, (E.ev m i).int? with
    | .at j, some (.array _ _), x, some (k, iv) => (indexT E.P t x (.pure (.int k (j : Int)))).map fun r => ({ dst := r }, [iv = (j : Int)])
    | .byte j b, some .string, .k (.v (.c (.raw (.string s)))), some (_, iv) => some ({ dst := .pure (.int .u8 b.toNat) }, [iv = (j : Int), s[j]? = some b])
    | _, _, _, _ => none
  | .lookup t x i ok =>
    match g, lookArgs E.P t (E.ev m x) (E.ev m i) with
    | .look n b, some (q, key, qv, es) => some ({ dst := lookOut qv ok (n, b) }, [lookV q key qv es = some (n, b)])
    | _, _ => none
  | .slice t x lo hi mx =>
    match g, mx, E.P.underlying t, (E.ev m x).cell? with
    | .cut l h _, none, some .string, some (.c (.raw (.string s))) =>
      match boundP (hi.map (E.ev m)) s.size h, boundP (lo.map (E.ev m)) 0 l with
      | some p, some q => some ({ dst := .pure (.string (s.extract l h)) }, [p, q, l ≤ h, h ≤ s.size])
      | _, _ => none
    | .cut l h fs, none, some (.slice e), some v =>
      match v.sliceOf with
      | some (sz, es) =>
        if sz = E.P.cellsOf e ∧ (E.P.info? e).isSome = true then
          match boundP (hi.map (E.ev m)) es.length h, boundP (lo.map (E.ev m)) 0 l with
          | some p, some q =>
            some ({ dst := match v, hi with
              | .own _ _ .exact, none => .k (.v (.own (E.P.cellsOf e) fs .exact))
              | _, _ => .k (.v (.c (.slice (E.P.cellsOf e) fs))) }, [p, q, l ≤ h, h ≤ es.length, (es.take h).drop l = fs])
          | _, _ => none
        else none
      | none => none
    | _, _, _, _ => none
  | .binOp op _ x y _ =>
    match g, (E.ev m x).raw?, (E.ev m y).raw? with
    | .ok, some (.int k a), some (.int k' b) =>
      match op with
      | .quo => if k = k' then some ({ dst := .pure (.int k (k.wrap (a.tdiv b))) }, [b ≠ 0]) else none
      | .rem => if k = k' then some ({ dst := .pure (.int k (a.tmod b)) }, [b ≠ 0]) else none
      | .shl => some ({ dst := .pure (.int k (k.wrap (a * 2 ^ (min b.toNat k.bits)))) }, [0 ≤ b])
      | .shr => some ({ dst := .pure (.int k (a.fdiv (2 ^ (min b.toNat k.bits)))) }, [0 ≤ b])
      | _ => none
    | .ok, some (.string a), some (.string b) =>
      match op with
      | .add => some ({ dst := .pure (.string (a ++ b)) }, [a.size + b.size ≤ 9223372036854775807])
      | _ => none
    | _, _, _ => none
  | .call { callee := .builtin .len, args, argTypes } =>
    match g, argTypes.toList, args.toList with
    | .len n, t :: _, [x] =>
      match E.P.underlying t, E.ev m x with
      | some (.slice _), .k (.v (.c (.slice _ es))) => some ({ dst := .pure (.int .i64 n) }, [es.length = n])
      | some (.slice _), .k (.v (.own _ es _)) => some ({ dst := .pure (.int .i64 n) }, [es.length = n])
      | _, _ => none
    | _, _, _ => none
  | .convert src dst x =>
    match g, convB E.P src dst (E.ev m x) with
    | .str ns, some es => some ({ dst := .pure (.string (bstr ns)) }, [bytesIn es = some ns])
    | _, _ => none
  | .call { callee := .builtin .append, args, argTypes } =>
    match g, argTypes.toList, args.toList.map (E.ev m) with
    | .app gs, [t, tx], [s, x] =>
      match E.P.underlying t, s.cell?, appended E.P tx x with
      | some (.slice e), some (.own sz es tk), some (sz', fs) =>
        match E.P.info? e with
        | some i =>
          if 0 < i.size ∧ i.bytes ≤ 131072 ∧ i.zero.map (·.cells.size) = some i.size ∧ (sz = i.size ∨ es = []) ∧ (sz' = i.size ∨ fs = []) then
            match tk with
            | .exact => some ({ dst := .k (.v (.own i.size gs (.tok nt))), ut := [(nt, gs.length)] }, [es ++ fs = gs, gs.length ≤ most])
            | .tok j => match m.tok j with
              | some n => if sz = i.size then some ({ dst := .k (.v (.own sz gs (.tok j))), ut := [(j, gs.length)], rt := [j] }, [es ++ fs = gs, gs.length ≤ most, n = es.length]) else none
              | none => none
          else none
        | none => none
      | _, _, _ => none
    | _, _, _ => none
  | _ => none

def gHard (E : Env) (m : Mem) (nv nt : Nat) (o : Oper) (g : G) : Option (Eff × List Prop) :=
  match g with
  | .e x => some (x, [evalOp E m nv nt o = some x])
  | _ => gHard' E m nt o g

theorem int?_raw {t : T} {q : IntKind} {n : Int} (h : t.int? = some (q, n)) : t.raw? = some (.int q n) := by
  unfold T.int? at h
  split at h
  · cases h; assumption
  · cases h

theorem binT_raw {P : Program} {op : BinOp} {t : TypeId} {x y : T} {u v : Value} (hx : x.raw? = some u) (hy : y.raw? = some v) (hu : ∀ b, u ≠ .bool b) : binT P op t x y = (rawBin op u v).map .pure := by
  rw [raw?_eq hx, raw?_eq hy]
  unfold binT T.pure
  simp only
  split
  · rename_i p q; exact absurd rfl (hu p)
  · rfl

theorem gHard'_sound {E : Env} {m : Mem} {nv nt : Nat} {o : Oper} {g : G} {e : Eff} {ps : List Prop} (h : gHard' E m nt o g = some (e, ps)) (hp : allP ps) : evalOp E m nv nt o = some e := by
    unfold gHard' at h
    split at h
    · rename_i c a b ho
      split at h
      · rename_i v hq hqe
        cases h
        have := hp.1
        simp only [evalOp, ho, hqe]
        rw [this]
      · cases h
    · rename_i f args argTypes ho
      split at h
      · split at h
        · rename_i g hc
          simp only [evalOp, ho, hc]
          exact gCallT_sound h hp
        · rename_i g caps hc
          simp only [evalOp, ho, hc]
          exact gCallT_sound h hp
        · cases h
      · cases h
    · rename_i t x i ho
      split at h
      · rename_i j n' e' hu
        split at h
        · rename_i k iv hi
          simp only [Option.map_eq_some_iff] at h
          obtain ⟨r, hr, h⟩ := h
          cases h
          have h1 := hp.1
          have hii : E.ev m i = .pure (.int k (j : Int)) := by rw [← h1]; exact raw?_eq (int?_raw hi)
          simp only [evalOp, ho, hii, hr, Option.map_some]
        · cases h
      · rename_i j c e' hu
        split at h
        · cases h
        · rename_i hinfo
          split at h
          · cases h
          · rename_i v hne hv
            split at h
            · rename_i sz es k iv hs hi
              split at h
              · rename_i hsz
                cases h
                obtain ⟨h1, h2, _⟩ := hp
                have hj : j < es.length := (List.getElem?_eq_some_iff.1 h2).1
                have hidx : idxOf (E.ev m i) es.length = some j := by
                  simp only [idxOf, hi]
                  rw [h1, if_pos (by omega)]
                  simp
                simp only [evalOp, ho, indexAddrT, hu, hinfo, hv]
                cases v with
                | vsl _ _ _ _ => exact absurd rfl (hne _ _ _ _)
                | _ => simp_all [V.sliceOf]
              · cases h
            · cases h
          · cases h
      · cases h
    · rename_i t x i ho
      split at h
      · rename_i j n' e' k iv hu hi
        simp only [Option.map_eq_some_iff] at h
        obtain ⟨r, hr, h⟩ := h
        cases h
        have h1 := hp.1
        have hii : E.ev m i = .pure (.int k (j : Int)) := by rw [← h1]; exact raw?_eq (int?_raw hi)
        simp only [evalOp, ho, hii, hr, Option.map_some]
      · rename_i j b s k iv hu hx hi
        cases h
        obtain ⟨h1, h2, _⟩ := hp
        have hj : j < s.size := by
          rcases Nat.lt_or_ge j s.size with h | h
          · exact h
          · rw [getElem?_neg s j (by omega)] at h2; cases h2
        have hidx : idxOf (E.ev m i) s.size = some j := by
          simp only [idxOf, hi]
          rw [h1, if_pos (by omega)]
          simp
        simp only [evalOp, ho, indexT, hu, hx, hidx, h2, Option.map_some]
      · cases h
    · rename_i t x i ok ho
      split at h
      · rename_i n b q key qv es ha
        cases h
        have h1 := hp.1
        simp only [evalOp, ho, lookupT, ha, h1, Option.map_some]
      · cases h
    · rename_i t x lo hi mx ho
      split at h
      · rename_i l h' _ s hu hx
        split at h
        · rename_i p q hp1 hq1
          cases h
          obtain ⟨h1, h2, h3, h4, _⟩ := hp
          have e1 := boundP_sound (top := s.size) hp1 h1 h4
          have e2 := boundP_sound (top := h') hq1 h2 h3
          simp only [evalOp, ho, sliceT, hu, hx, Option.map_none, e1, e2, Option.map_some]
        · cases h
      · rename_i l h' fs e' v hu hx
        split at h
        · rename_i sz es hs
          split at h
          · rename_i hsz
            split at h
            · rename_i p q hp1 hq1
              cases h
              obtain ⟨h1, h2, h3, h4, h5, _⟩ := hp
              subst h5
              have e1 := boundP_sound (top := es.length) hp1 h1 h4
              have e2 := boundP_sound (top := h') hq1 h2 h3
              simp only [evalOp, ho, sliceT, hu, hx, hs, Option.map_none, e1, e2]
              rw [if_pos ⟨.inl hsz.1, hsz.2⟩]
              cases hi with
              | none =>
                have hh : h' = es.length := by
                  simp only [boundP, Option.map_none, Option.some.injEq] at hp1
                  rw [← hp1] at h1
                  exact h1
                cases v with
                | own _ _ tk => cases tk with
                  | exact =>
                    simp only [V.sliceOf, Option.some.injEq, Prod.mk.injEq] at hs
                    obtain ⟨rfl, rfl⟩ := hs
                    simp only [hh, List.take_length, Option.map_none, Option.map_some]
                  | tok _ => rfl
                | _ => rfl
              | some _ => cases v with
                | own _ _ tk => cases tk <;> rfl
                | _ => rfl
            · cases h
          · cases h
        · cases h
      · cases h
    · rename_i op t x y sp ho
      split at h
      · rename_i k a k' b hx hy
        have hb := binT_raw (P := E.P) (op := op) (t := t) hx hy (fun b h => by cases h)
        simp only [evalOp, ho, hb, rawBin]
        split at h
        · split at h
          · rename_i hk; cases h; simp only [hk, if_true, intBin, if_neg hp.1, Option.map_some]
          · cases h
        · split at h
          · rename_i hk; cases h; simp only [hk, if_true, intBin, if_neg hp.1, Option.map_some]
          · cases h
        · cases h; have := hp.1; simp only [shiftBin, if_neg (show ¬ b < 0 by omega), Option.map_some]
        · cases h; have := hp.1; simp only [shiftBin, if_neg (show ¬ b < 0 by omega), Option.map_some]
        · cases h
      · rename_i a b hx hy
        have hb := binT_raw (P := E.P) (op := op) (t := t) hx hy (fun b h => by cases h)
        simp only [evalOp, ho, hb, rawBin]
        split at h
        · cases h; simp only [strBin, if_pos hp.1, Option.map_some]
        · cases h
      · cases h
    · rename_i args argTypes ho
      split at h
      · rename_i n t ts x hty hxs
        split at h
        · rename_i sz es hu hx
          cases h
          have h1 := hp.1
          simp only [evalOp, ho, hty, hxs, lenT, hu, hx, V.sliceOf, Option.map_some, h1]
        · rename_i sz es tk hu hx
          cases h
          have h1 := hp.1
          simp only [evalOp, ho, hty, hxs, lenT, hu, hx, V.sliceOf, Option.map_some, h1]
        · cases h
      · cases h
    · rename_i src dst x ho
      split at h
      · rename_i ns es hes
        cases h
        have h1 := hp.1
        simp only [evalOp, ho, convT, hes, h1, Option.map_some]
      · cases h
    · rename_i args argTypes ho
      split at h
      · rename_i gs t tx s x hty hxs
        split at h
        · rename_i e' sz es tk sz' fs hu hc ha
          split at h
          · rename_i i hi
            split at h
            · rename_i hcond
              simp only [evalOp, ho, appendT, hty, hxs, hu, hc, ha, hi]
              split at h
              · cases h
                obtain ⟨h1, h2, _⟩ := hp
                subst h1
                rw [if_pos ⟨hcond.1, hcond.2.1, hcond.2.2.1, hcond.2.2.2.1, hcond.2.2.2.2, by rw [← List.length_append]; exact h2⟩]
              · rename_i j
                split at h
                · rename_i n hn
                  split at h
                  · rename_i hsz
                    cases h
                    obtain ⟨h1, h2, h3, _⟩ := hp
                    subst h1
                    rw [if_pos ⟨hcond.1, hcond.2.1, hcond.2.2.1, hcond.2.2.2.1, hcond.2.2.2.2, by rw [← List.length_append]; exact h2⟩]
                    simp only
                    rw [if_pos ⟨hsz, by rw [hn, h3]⟩]
                  · cases h
                · cases h
            · cases h
          · cases h
        · cases h
      · cases h
    · cases h

theorem gHard_sound {E : Env} {m : Mem} {nv nt : Nat} {o : Oper} {g : G} {e : Eff} {ps : List Prop} (h : gHard E m nv nt o g = some (e, ps)) (hp : allP ps) : evalOp E m nv nt o = some e := by
  unfold gHard at h
  split at h
  · cases h; exact hp.1
  · exact gHard'_sound h hp
end Go.Dm
